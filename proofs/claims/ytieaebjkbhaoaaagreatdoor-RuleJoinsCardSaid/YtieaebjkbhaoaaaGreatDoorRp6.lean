import Derived.Test.YtieaebjkbhaoaaaGreatDoorRp5
namespace Go.Proofs.YtieaebjkbhaoaaaGreatDoor
open Go.Vc Go.Proofs Go.RowKit Cae
set_option maxRecDepth 100000
set_option linter.unusedSimpArgs false
set_option linter.unusedVariables false
attribute [local irreducible] wpL callK valK unitK runK Fun Sl Own vc vcOps opK pureK
set_option maxHeartbeats 4000000

/-- A slice of one that lies in a block of its own. -/
theorem sl_blk1 {w : World} {b : Nat} {e : TypeId} {u : Nat} {X : Nat → Prop} (h : Blk w b e [ptrP u]) (hb : ¬ X b) : Sl X 1 (En encP) w (.slice (some ⟨b, 0, none⟩) 1 1) [u] := by
  unfold Sl
  refine ⟨_, 1, rfl, by simp, fun i x hx => ⟨b, 0, encP u, rfl, hb, rfl, fun j y hy => ?_, ?_⟩⟩
  · have hi : i = 0 := by
      have := (List.getElem?_eq_some_iff.1 hx).1
      simp at this; exact this
    have hj : j = 0 := by
      have := (List.getElem?_eq_some_iff.1 hy).1
      simp [encP] at this; exact this
    subst hi hj
    simp [encP] at hy
    subst hy
    exact h.cell rfl
  · have hi : i = 0 := by
      have := (List.getElem?_eq_some_iff.1 hx).1
      simp at this; exact this
    subst hi
    simp at hx
    subst hx
    rfl
theorem again_err {d m c : Nat} {x : PatP} {l : List Tok} {e : Nat × Nat} (hm : l.length < m) (h : suffixP l = .error e) : againLoop d m c x l = .error e := by
  obtain ⟨m', rfl⟩ : ∃ m', m = m' + 1 := ⟨m - 1, by omega⟩
  rw [againLoop]
  unfold Cae.pb
  rw [h]
theorem again_of (d : Nat) (hu : UnitC d) : AgainC d := by
  intro n hn0 hn pb B w l0 h0
  have hle := h0.le
  have hlt := h0.lt
  refine fun2_of_vc Tryz.func51 rfl (by kernel_rfl) [.tmp 4] rfl ?_
  simp -dsimp (maxSteps := 4000000) only [push_cast, fr0, Tryz.ntmps51, List.length_cons, List.length_nil, Nat.reduceAdd, Nat.reduceSub, Nat.reduceBEq, List.replicate_succ, List.replicate_zero]
  refine callP_of (hu n hn0 hn pb B w l0 h0) ?_ ?_
  · rintro v1 w1 ⟨x0, l1, e1, V1, P1, hk1⟩
    have hstart : againW d (unitP d) l0 = againLoop d 1000 0 x0 l1 := by
      unfold againW
      rw [pb_of e1]
    simp -dsimp only [push_cast, Nat.reduceAdd, Nat.reduceLeDiff, Nat.reduceBEq, decide_true, ne_eq, eq_self, not_true_eq_false, not_false_eq_true, true_imp_iff, false_imp_iff, Int.reduceNe, Int.reduceEq, Int.reduceLT, Int.reduceLE, Bool.not_true, Bool.not_false]
    refine wpL_loop [4, 5, 6, 7, 12, 13, 14, 15, 16, 17, 18, 19, 20, 21, 22, 23, 24, 25, 26, 27, 28, 29, 30, 31, 32, 33, 34, 35, 36, 37, 38, 39, 40, 41, 42, 43, 44, 45, 46, 47, 48, 49, 50, 51, 52, 53, 54, 55, 56, 57, 58, 59, 60, 61, 62, 63, 64, 65, 66, 67, 68, 69, 70, 71, 72, 73, 74, 75, 76, 77, 78, 79, 80, 81, 82, 83] (fun z w' => ∃ (m c : Nat) (x : PatP) (l1 : List Tok) (i : Int), againLoop d m c x l1 = againW d (unitP d) l0 ∧ l1.length < m ∧ (z 6 = .int .i64 i ∧ i = n + (c : Int) ∧ i ≤ 9) ∧ PatV (· < w.heap.size) w' (z 5) x ∧ PS pb B w' l1 ∧ Kept (· = pb) w w') (fun z w' => lenAt w' pb) ?_ ?_
    · have hlt : l1.length < 1000 := by have := P1.tl.len; omega
      exact ⟨1000, 0, x0, l1, n, hstart.symm, hlt, ⟨rfl, by omega, by omega⟩, V1, P1, hk1⟩
    rintro z w' ⟨m, c, x, l1, i, hm2, hm, ⟨hz6, hi, hi9⟩, V1, hP1, hkw⟩
    obtain ⟨kb, hz5, hkb, hkX⟩ := V1.ptr
    rw [hz5] at V1
    obtain ⟨t1, r1, el1⟩ := hP1.tl.cons
    have hzw := hkw.size
    simp -dsimp only [push_cast, Nat.reduceAdd, Nat.reduceLeDiff, Nat.reduceBEq, decide_true, ne_eq, eq_self, not_true_eq_false, not_false_eq_true, true_imp_iff, false_imp_iff, Int.reduceNe, Int.reduceEq, Int.reduceLT, Int.reduceLE, Bool.not_true, Bool.not_false, hz5]
    refine rowK elI_88 rfl rfl (by omega) ?_
    intro w2 hw2
    have BX0 : Blk w2 w'.heap.size 62 [.pointer (some ⟨kb, 0, none⟩)] := hw2.blk
    have P2 := hP1.below hw2.below
    have z2 := hw2.size
    have k2 := hkw.trans (Kept.new (X := (· = pb)) hw2) (fun i _ h => h)
    simp -dsimp only [push_cast, Nat.reduceAdd, Nat.reduceLeDiff, Nat.reduceBEq, decide_true, ne_eq, eq_self, not_true_eq_false, not_false_eq_true, true_imp_iff, false_imp_iff, Int.reduceNe, Int.reduceEq, Int.reduceLT, Int.reduceLE, Bool.not_true, Bool.not_false]
    refine boxK_of ?_
    intro w3 hw3
    have BY0 : Blk w3 (w'.heap.size + 1) 90 [.int .i64 6, .pointer none, .slice (some ⟨w'.heap.size, 0, none⟩) 1 1, .int .i64 0, .int .i64 (-1)] := by
      have := hw3.blk
      rw [z2] at this
      exact this
    have BX3 := BX0.below hw3.below (by omega)
    have P3 := P2.below hw3.below
    have z3 := hw3.size
    have k3 := k2.trans (Kept.new (X := (· = pb)) hw3) (fun i _ h => h)
    have V3 : PatV (fun b => b < w.heap.size ∨ w'.heap.size ≤ b) w3 (.pointer (some ⟨kb, 0, none⟩)) x := (V1.top.below hw2.below).below hw3.below
    simp -dsimp only [push_cast, Nat.reduceAdd, Nat.reduceLeDiff, Nat.reduceBEq, decide_true, ne_eq, eq_self, not_true_eq_false, not_false_eq_true, true_imp_iff, false_imp_iff, Int.reduceNe, Int.reduceEq, Int.reduceLT, Int.reduceLE, Bool.not_true, Bool.not_false, z2]
    refine callK_of (take_c [42] P3) ?_
    rintro _ w4 hT
    rcases hT with ⟨hs1, rfl, t4, l2, el4, h51, P4, kt, hz4⟩ | ⟨hs1, rfl, hww⟩
    · have hpop : popP l1 = .ok ((), l2) := by rw [el4]; exact popP_cons h51
      have hl2 : l1.length = l2.length + 1 := by rw [el4, List.length_cons]
      have hsuf : suffixP l1 = .ok (some (0, -1), l2) := by
        unfold suffixP pif
        rw [hs1, if_pos rfl, pb_of hpop]
        rfl
      have BY := BY0.kept kt (by omega)
      have BX := BX3.kept kt (by omega)
      have kS := k3.trans kt (fun i _ h => h)
      have VX := V3.mono (X' := (· < w.heap.size)) kt (fun i h => by omega) (fun i h => .inl h)
      simp -dsimp only [push_cast, Nat.reduceAdd, Nat.reduceLeDiff, Nat.reduceBEq, decide_true, ne_eq, eq_self, not_true_eq_false, not_false_eq_true, true_imp_iff, false_imp_iff, Int.reduceNe, Int.reduceEq, Int.reduceLT, Int.reduceLE, Bool.not_true, Bool.not_false, hz6]
      -- a round's end: lo, hi; tokens l2; world wS; y's cells BY; kS : Kept (· = pb) w wS
      have hm1 : ∃ m', m = m' + 1 := ⟨m - 1, by omega⟩
      obtain ⟨m', hmm⟩ := hm1
      have hag : againW d (unitP d) l0 = if d ≤ c + 1 then pfail 4 l2 else againLoop d m' (c + 1) (.many x 0 (-1)) l2 := by
        rw [← hm2, hmm, againLoop, pb_of hsuf]
        dsimp only
        split <;> rfl
      refine ⟨⟨by omega, by omega⟩, ?_⟩
      refine callP_of (deep_c (i + 1) P4) ?_ ?_
      · rintro _ w0 ⟨h8, rfl, hw0⟩
        obtain rfl : w4 = w0 := hw0.symm
        have hlen4 := PS.len P4
        have hlen1 := hP1.len
        have hzS := kS.size
        simp -dsimp only [push_cast, Nat.reduceAdd, Nat.reduceLeDiff, Nat.reduceBEq, decide_true, ne_eq, eq_self, not_true_eq_false, not_false_eq_true, true_imp_iff, false_imp_iff, Int.reduceNe, Int.reduceEq, Int.reduceLT, Int.reduceLE, Bool.not_true, Bool.not_false, hz5]
        refine ⟨⟨m', c + 1, .many x 0 (-1), l2, i + 1, ?_, by omega, ⟨rfl, by omega, by omega⟩, ?_, P4, kS⟩, by rw [hlen4, hlen1]; omega⟩
        · rw [hag, if_neg (by omega)]
        · simp only [PatV]
          exact ⟨_, _, _, rfl, by omega, BY, sl_blk1 BX (by omega), VX⟩
      · rintro ce w0 ⟨h8, ht, hb⟩
        simp -dsimp only [push_cast, Nat.reduceAdd, Nat.reduceLeDiff, Nat.reduceBEq, decide_true, ne_eq, eq_self, not_true_eq_false, not_false_eq_true, true_imp_iff, false_imp_iff, Int.reduceNe, Int.reduceEq, Int.reduceLT, Int.reduceLE, Bool.not_true, Bool.not_false]
        refine ⟨4, _, ?_, ht.mono (by have := kS.size; omega), kS.trans (Kept.of_below hb (X := (· = pb)) (fun i h1 h2 => by omega)) (fun i _ h => h)⟩
        rw [hag, if_pos (by omega)]
        rfl
    · obtain rfl : w3 = w4 := hww.symm
      simp -dsimp only [push_cast, Nat.reduceAdd, Nat.reduceLeDiff, Nat.reduceBEq, decide_true, ne_eq, eq_self, not_true_eq_false, not_false_eq_true, true_imp_iff, false_imp_iff, Int.reduceNe, Int.reduceEq, Int.reduceLT, Int.reduceLE, Bool.not_true, Bool.not_false]
      refine callK_of (take_c [43] P3) ?_
      rintro _ w4 hT
      rcases hT with ⟨hs2, rfl, t4, l2, el4, h51, P4, kt, hz4⟩ | ⟨hs2, rfl, hww⟩
      · have hpop : popP l1 = .ok ((), l2) := by rw [el4]; exact popP_cons h51
        have hl2 : l1.length = l2.length + 1 := by rw [el4, List.length_cons]
        have hsuf : suffixP l1 = .ok (some (1, -1), l2) := by
          unfold suffixP pif
          rw [hs1, hs2, if_neg (by decide), if_pos rfl, pb_of hpop]
          rfl
        have BY4 := BY0.kept kt (by omega)
        have BX4 := BX3.kept kt (by omega)
        have k4 := k3.trans kt (fun i _ h => h)
        have V4 := V3.mono (X' := fun b => b < w.heap.size ∨ w'.heap.size ≤ b) kt (fun i h => by omega) (fun i h => h)
        simp -dsimp only [push_cast, Nat.reduceAdd, Nat.reduceLeDiff, Nat.reduceBEq, decide_true, ne_eq, eq_self, not_true_eq_false, not_false_eq_true, true_imp_iff, false_imp_iff, Int.reduceNe, Int.reduceEq, Int.reduceLT, Int.reduceLE, Bool.not_true, Bool.not_false]
        refine storeK_of BY4 (by simp) rfl ?_
        intro w5 hw5
        have BY : Blk w5 (w'.heap.size + 1) 90 [.int .i64 6, .pointer none, .slice (some ⟨w'.heap.size, 0, none⟩) 1 1, .int .i64 1, .int .i64 (-1)] := hw5.blk
        have BX := BX4.kept hw5.kept (by omega)
        have P5 := P4.kept hw5.kept (fun i h => by omega)
        have kS := k4.trans hw5.kept (fun i h1 h2 => by omega)
        have VX := V4.mono (X' := (· < w.heap.size)) hw5.kept (fun i h => by omega) (fun i h => .inl h)
        simp -dsimp only [push_cast, Nat.reduceAdd, Nat.reduceLeDiff, Nat.reduceBEq, decide_true, ne_eq, eq_self, not_true_eq_false, not_false_eq_true, true_imp_iff, false_imp_iff, Int.reduceNe, Int.reduceEq, Int.reduceLT, Int.reduceLE, Bool.not_true, Bool.not_false, hz6]
        -- a round's end: lo, hi; tokens l2; world wS; y's cells BY; kS : Kept (· = pb) w wS
        have hm1 : ∃ m', m = m' + 1 := ⟨m - 1, by omega⟩
        obtain ⟨m', hmm⟩ := hm1
        have hag : againW d (unitP d) l0 = if d ≤ c + 1 then pfail 4 l2 else againLoop d m' (c + 1) (.many x 1 (-1)) l2 := by
          rw [← hm2, hmm, againLoop, pb_of hsuf]
          dsimp only
          split <;> rfl
        refine ⟨⟨by omega, by omega⟩, ?_⟩
        refine callP_of (deep_c (i + 1) P5) ?_ ?_
        · rintro _ w0 ⟨h8, rfl, hw0⟩
          obtain rfl : w5 = w0 := hw0.symm
          have hlen4 := PS.len P5
          have hlen1 := hP1.len
          have hzS := kS.size
          simp -dsimp only [push_cast, Nat.reduceAdd, Nat.reduceLeDiff, Nat.reduceBEq, decide_true, ne_eq, eq_self, not_true_eq_false, not_false_eq_true, true_imp_iff, false_imp_iff, Int.reduceNe, Int.reduceEq, Int.reduceLT, Int.reduceLE, Bool.not_true, Bool.not_false, hz5]
          refine ⟨⟨m', c + 1, .many x 1 (-1), l2, i + 1, ?_, by omega, ⟨rfl, by omega, by omega⟩, ?_, P5, kS⟩, by rw [hlen4, hlen1]; omega⟩
          · rw [hag, if_neg (by omega)]
          · simp only [PatV]
            exact ⟨_, _, _, rfl, by omega, BY, sl_blk1 BX (by omega), VX⟩
        · rintro ce w0 ⟨h8, ht, hb⟩
          simp -dsimp only [push_cast, Nat.reduceAdd, Nat.reduceLeDiff, Nat.reduceBEq, decide_true, ne_eq, eq_self, not_true_eq_false, not_false_eq_true, true_imp_iff, false_imp_iff, Int.reduceNe, Int.reduceEq, Int.reduceLT, Int.reduceLE, Bool.not_true, Bool.not_false]
          refine ⟨4, _, ?_, ht.mono (by have := kS.size; omega), kS.trans (Kept.of_below hb (X := (· = pb)) (fun i h1 h2 => by omega)) (fun i _ h => h)⟩
          rw [hag, if_pos (by omega)]
          rfl
      · obtain rfl : w3 = w4 := hww.symm
        simp -dsimp only [push_cast, Nat.reduceAdd, Nat.reduceLeDiff, Nat.reduceBEq, decide_true, ne_eq, eq_self, not_true_eq_false, not_false_eq_true, true_imp_iff, false_imp_iff, Int.reduceNe, Int.reduceEq, Int.reduceLT, Int.reduceLE, Bool.not_true, Bool.not_false]
        refine callK_of (take_c [63] P3) ?_
        rintro _ w4 hT
        rcases hT with ⟨hs3, rfl, t4, l2, el4, h51, P4, kt, hz4⟩ | ⟨hs3, rfl, hww⟩
        · have hpop : popP l1 = .ok ((), l2) := by rw [el4]; exact popP_cons h51
          have hl2 : l1.length = l2.length + 1 := by rw [el4, List.length_cons]
          have hsuf : suffixP l1 = .ok (some (0, 1), l2) := by
            unfold suffixP pif
            rw [hs1, hs2, hs3, if_neg (by decide), if_neg (by decide), if_pos rfl, pb_of hpop]
            rfl
          have BY4 := BY0.kept kt (by omega)
          have BX4 := BX3.kept kt (by omega)
          have k4 := k3.trans kt (fun i _ h => h)
          have V4 := V3.mono (X' := fun b => b < w.heap.size ∨ w'.heap.size ≤ b) kt (fun i h => by omega) (fun i h => h)
          simp -dsimp only [push_cast, Nat.reduceAdd, Nat.reduceLeDiff, Nat.reduceBEq, decide_true, ne_eq, eq_self, not_true_eq_false, not_false_eq_true, true_imp_iff, false_imp_iff, Int.reduceNe, Int.reduceEq, Int.reduceLT, Int.reduceLE, Bool.not_true, Bool.not_false]
          refine storeK_of BY4 (by simp) rfl ?_
          intro w5 hw5
          have BY : Blk w5 (w'.heap.size + 1) 90 [.int .i64 6, .pointer none, .slice (some ⟨w'.heap.size, 0, none⟩) 1 1, .int .i64 0, .int .i64 1] := hw5.blk
          have BX := BX4.kept hw5.kept (by omega)
          have P5 := P4.kept hw5.kept (fun i h => by omega)
          have kS := k4.trans hw5.kept (fun i h1 h2 => by omega)
          have VX := V4.mono (X' := (· < w.heap.size)) hw5.kept (fun i h => by omega) (fun i h => .inl h)
          simp -dsimp only [push_cast, Nat.reduceAdd, Nat.reduceLeDiff, Nat.reduceBEq, decide_true, ne_eq, eq_self, not_true_eq_false, not_false_eq_true, true_imp_iff, false_imp_iff, Int.reduceNe, Int.reduceEq, Int.reduceLT, Int.reduceLE, Bool.not_true, Bool.not_false, hz6]
          -- a round's end: lo, hi; tokens l2; world wS; y's cells BY; kS : Kept (· = pb) w wS
          have hm1 : ∃ m', m = m' + 1 := ⟨m - 1, by omega⟩
          obtain ⟨m', hmm⟩ := hm1
          have hag : againW d (unitP d) l0 = if d ≤ c + 1 then pfail 4 l2 else againLoop d m' (c + 1) (.many x 0 1) l2 := by
            rw [← hm2, hmm, againLoop, pb_of hsuf]
            dsimp only
            split <;> rfl
          refine ⟨⟨by omega, by omega⟩, ?_⟩
          refine callP_of (deep_c (i + 1) P5) ?_ ?_
          · rintro _ w0 ⟨h8, rfl, hw0⟩
            obtain rfl : w5 = w0 := hw0.symm
            have hlen4 := PS.len P5
            have hlen1 := hP1.len
            have hzS := kS.size
            simp -dsimp only [push_cast, Nat.reduceAdd, Nat.reduceLeDiff, Nat.reduceBEq, decide_true, ne_eq, eq_self, not_true_eq_false, not_false_eq_true, true_imp_iff, false_imp_iff, Int.reduceNe, Int.reduceEq, Int.reduceLT, Int.reduceLE, Bool.not_true, Bool.not_false, hz5]
            refine ⟨⟨m', c + 1, .many x 0 1, l2, i + 1, ?_, by omega, ⟨rfl, by omega, by omega⟩, ?_, P5, kS⟩, by rw [hlen4, hlen1]; omega⟩
            · rw [hag, if_neg (by omega)]
            · simp only [PatV]
              exact ⟨_, _, _, rfl, by omega, BY, sl_blk1 BX (by omega), VX⟩
          · rintro ce w0 ⟨h8, ht, hb⟩
            simp -dsimp only [push_cast, Nat.reduceAdd, Nat.reduceLeDiff, Nat.reduceBEq, decide_true, ne_eq, eq_self, not_true_eq_false, not_false_eq_true, true_imp_iff, false_imp_iff, Int.reduceNe, Int.reduceEq, Int.reduceLT, Int.reduceLE, Bool.not_true, Bool.not_false]
            refine ⟨4, _, ?_, ht.mono (by have := kS.size; omega), kS.trans (Kept.of_below hb (X := (· = pb)) (fun i h1 h2 => by omega)) (fun i _ h => h)⟩
            rw [hag, if_pos (by omega)]
            rfl
        · obtain rfl : w3 = w4 := hww.symm
          simp -dsimp only [push_cast, Nat.reduceAdd, Nat.reduceLeDiff, Nat.reduceBEq, decide_true, ne_eq, eq_self, not_true_eq_false, not_false_eq_true, true_imp_iff, false_imp_iff, Int.reduceNe, Int.reduceEq, Int.reduceLT, Int.reduceLE, Bool.not_true, Bool.not_false]
          refine callK_of (take_c [123] P3) ?_
          rintro _ w4 hT
          rcases hT with ⟨hs4, rfl, t4, l2, el4, h51, P4, kt, hz4⟩ | ⟨hs4, rfl, hww⟩
          · have hpop : popP l1 = .ok ((), l2) := by rw [el4]; exact popP_cons h51
            have hl2 : l1.length = l2.length + 1 := by rw [el4, List.length_cons]
            have hsx : suffixP l1 = Cae.pb bracesP (fun r => pr (some r)) l2 := by
              unfold suffixP pif
              rw [hs1, hs2, hs3, hs4, if_neg (by decide), if_neg (by decide), if_neg (by decide), if_pos rfl, pb_of hpop]
            have BY4 := BY0.kept kt (by omega)
            have BX4 := BX3.kept kt (by omega)
            have k4 := k3.trans kt (fun i _ h => h)
            have V4 := V3.mono (X' := fun b => b < w.heap.size ∨ w'.heap.size ≤ b) kt (fun i h => by omega) (fun i h => h)
            simp -dsimp only [push_cast, Nat.reduceAdd, Nat.reduceLeDiff, Nat.reduceBEq, decide_true, ne_eq, eq_self, not_true_eq_false, not_false_eq_true, true_imp_iff, false_imp_iff, Int.reduceNe, Int.reduceEq, Int.reduceLT, Int.reduceLE, Bool.not_true, Bool.not_false]
            refine callP_of (times_c P4) ?_ ?_
            · rintro _ w5 ⟨n1, l3, e3, ⟨rfl, hn1⟩, P5, kt5⟩
              have BY5 := BY4.kept kt5 (by omega)
              have BX5 := BX4.kept kt5 (by omega)
              have k5 := k4.trans kt5 (fun i _ h => h)
              have V5 := V4.mono (X' := fun b => b < w.heap.size ∨ w'.heap.size ≤ b) kt5 (fun i h => by omega) (fun i h => h)
              simp -dsimp only [push_cast, Nat.reduceAdd, Nat.reduceLeDiff, Nat.reduceBEq, decide_true, ne_eq, eq_self, not_true_eq_false, not_false_eq_true, true_imp_iff, false_imp_iff, Int.reduceNe, Int.reduceEq, Int.reduceLT, Int.reduceLE, Bool.not_true, Bool.not_false]
              refine storeK_of BY5 (by simp) rfl ?_
              intro w6 hw6
              have BY6 : Blk w6 (w'.heap.size + 1) 90 [.int .i64 6, .pointer none, .slice (some ⟨w'.heap.size, 0, none⟩) 1 1, .int .i64 n1, .int .i64 (-1)] := hw6.blk
              have cy6 : w6.cell? ⟨w'.heap.size + 1, 3, none⟩ = some (.int .i64 n1) := BY6.cell rfl
              simp -dsimp only [push_cast, Nat.reduceAdd, Nat.reduceLeDiff, Nat.reduceBEq, decide_true, ne_eq, eq_self, not_true_eq_false, not_false_eq_true, true_imp_iff, false_imp_iff, Int.reduceNe, Int.reduceEq, Int.reduceLT, Int.reduceLE, Bool.not_true, Bool.not_false, cy6]
              refine storeK_of BY6 (by simp) rfl ?_
              intro w7 hw7
              have BY7 : Blk w7 (w'.heap.size + 1) 90 [.int .i64 6, .pointer none, .slice (some ⟨w'.heap.size, 0, none⟩) 1 1, .int .i64 n1, .int .i64 n1] := hw7.blk
              have k57 : Kept (· = w'.heap.size + 1) w5 w7 := hw6.kept.trans hw7.kept (fun i _ h => h)
              have BX7 := BX5.kept k57 (by omega)
              have P7 := P5.kept k57 (fun i h => by omega)
              have k7 := k5.trans k57 (fun i h1 h2 => by omega)
              have V7 := V5.mono (X' := fun b => b < w.heap.size ∨ w'.heap.size ≤ b) k57 (fun i h => by omega) (fun i h => h)
              simp -dsimp only [push_cast, Nat.reduceAdd, Nat.reduceLeDiff, Nat.reduceBEq, decide_true, ne_eq, eq_self, not_true_eq_false, not_false_eq_true, true_imp_iff, false_imp_iff, Int.reduceNe, Int.reduceEq, Int.reduceLT, Int.reduceLE, Bool.not_true, Bool.not_false]
              refine callK_of (take_c [44] P7) ?_
              rintro _ w8 hT
              rcases hT with ⟨hs5, rfl, t8, l4, el8, h58, P8, kt8, hz8⟩ | ⟨hs5, rfl, hww⟩
              · have hpop8 : popP l3 = .ok ((), l4) := by rw [el8]; exact popP_cons h58
                have BY8 := BY7.kept kt8 (by omega)
                have BX8 := BX7.kept kt8 (by omega)
                have k8 := k7.trans kt8 (fun i _ h => h)
                have V8 := V7.mono (X' := fun b => b < w.heap.size ∨ w'.heap.size ≤ b) kt8 (fun i h => by omega) (fun i h => h)
                have hbr1 : bracesP l2 = pif (isKind 2) (Cae.pb timesP fun hi => if hi < n1 then pfail 2 else Cae.pb (mustP [125]) fun _ => pr ((n1 : Int), (hi : Int))) (Cae.pb (mustP [125]) fun _ => pr ((n1 : Int), -1)) l4 := by
                  unfold bracesP
                  rw [pb_of e3]
                  show (if seeP [44] l3 then _ else _) = _
                  rw [hs5, if_pos rfl, pb_of hpop8]
                simp -dsimp only [push_cast, Nat.reduceAdd, Nat.reduceLeDiff, Nat.reduceBEq, decide_true, ne_eq, eq_self, not_true_eq_false, not_false_eq_true, true_imp_iff, false_imp_iff, Int.reduceNe, Int.reduceEq, Int.reduceLT, Int.reduceLE, Bool.not_true, Bool.not_false]
                refine storeK_of BY8 (by simp) rfl ?_
                intro w9 hw9
                have BY9 : Blk w9 (w'.heap.size + 1) 90 [.int .i64 6, .pointer none, .slice (some ⟨w'.heap.size, 0, none⟩) 1 1, .int .i64 n1, .int .i64 (-1)] := hw9.blk
                have BX9 := BX8.kept hw9.kept (by omega)
                have P9 := P8.kept hw9.kept (fun i h => by omega)
                have k9 := k8.trans hw9.kept (fun i h1 h2 => by omega)
                have V9 := V8.mono (X' := fun b => b < w.heap.size ∨ w'.heap.size ≤ b) hw9.kept (fun i h => by omega) (fun i h => h)
                obtain ⟨t9, r9, el9⟩ := P9.tl.cons
                have P9' := P9
                rw [el9] at P9'
                obtain ⟨b9, o9, c9, hB9, hc9, hne9, c90, _, _, _⟩ := P9'.hd
                have cb9 : w9.cell? ⟨pb, 0, none⟩ = some (.slice (some ⟨b9, o9, none⟩) (r9.length + 1) c9) := hB9.cell rfl
                simp -dsimp only [push_cast, Nat.reduceAdd, Nat.reduceLeDiff, Nat.reduceBEq, decide_true, ne_eq, eq_self, not_true_eq_false, not_false_eq_true, true_imp_iff, false_imp_iff, Int.reduceNe, Int.reduceEq, Int.reduceLT, Int.reduceLE, Bool.not_true, Bool.not_false, cb9, c90]
                refine ⟨by omega, fun hk2 => ?_, fun hk2 => ?_⟩
                · have hik : isKind 2 l4 = true := by
                    have : t9.kind = 2 := by omega
                    rw [el9]; simp [isKind, Cae.hd, this]
                  have hbr2 : bracesP l2 = Cae.pb timesP (fun hi => if hi < n1 then pfail 2 else Cae.pb (mustP [125]) fun _ => pr ((n1 : Int), (hi : Int))) l4 := by
                    rw [hbr1]
                    unfold pif
                    rw [hik, if_pos rfl]
                  refine callP_of (times_c P9) ?_ ?_
                  · rintro _ wa ⟨n2, l5, e5, ⟨rfl, hn2⟩, Pa, kta⟩
                    have BYa := BY9.kept kta (by omega)
                    have BXa := BX9.kept kta (by omega)
                    have ka := k9.trans kta (fun i _ h => h)
                    have Va := V9.mono (X' := fun b => b < w.heap.size ∨ w'.heap.size ≤ b) kta (fun i h => by omega) (fun i h => h)
                    simp -dsimp only [push_cast, Nat.reduceAdd, Nat.reduceLeDiff, Nat.reduceBEq, decide_true, ne_eq, eq_self, not_true_eq_false, not_false_eq_true, true_imp_iff, false_imp_iff, Int.reduceNe, Int.reduceEq, Int.reduceLT, Int.reduceLE, Bool.not_true, Bool.not_false]
                    refine storeK_of BYa (by simp) rfl ?_
                    intro wb hwb
                    have BYb : Blk wb (w'.heap.size + 1) 90 [.int .i64 6, .pointer none, .slice (some ⟨w'.heap.size, 0, none⟩) 1 1, .int .i64 n1, .int .i64 n2] := hwb.blk
                    have BXb := BXa.kept hwb.kept (by omega)
                    have Pb := Pa.kept hwb.kept (fun i h => by omega)
                    have kb' := ka.trans hwb.kept (fun i h1 h2 => by omega)
                    have VB' := Va.mono (X' := fun b => b < w.heap.size ∨ w'.heap.size ≤ b) hwb.kept (fun i h => by omega) (fun i h => h)
                    simp -dsimp only [push_cast, Nat.reduceAdd, Nat.reduceLeDiff, Nat.reduceBEq, decide_true, ne_eq, eq_self, not_true_eq_false, not_false_eq_true, true_imp_iff, false_imp_iff, Int.reduceNe, Int.reduceEq, Int.reduceLT, Int.reduceLE, Bool.not_true, Bool.not_false]
                    refine wpL_drawN (fun w' => w' = wb.drew) mixed (by kernel_rfl) rfl ?_
                    have d3 : wb.drew.cell? ⟨w'.heap.size + 1, 3, none⟩ = some (.int .i64 n1) := BYb.drew.cell rfl
                    have d4 : wb.drew.cell? ⟨w'.heap.size + 1, 4, none⟩ = some (.int .i64 n2) := BYb.drew.cell rfl
                    have kd : Kept (fun _ => False) wb wb.drew := (Kept.refl _ _).drew
                    have BYd := BYb.kept kd (fun h => h)
                    have BXd := BXb.kept kd (fun h => h)
                    have Pd := Pb.kept kd (fun i h => h.elim)
                    have kdd := kb'.trans kd (fun i h1 h2 => h2.elim)
                    have VB := VB'.mono (X' := fun b => b < w.heap.size ∨ w'.heap.size ≤ b) kd (fun i h => h.elim) (fun i h => h)
                    simp -dsimp only [push_cast, Nat.reduceAdd, Nat.reduceLeDiff, Nat.reduceBEq, decide_true, ne_eq, eq_self, not_true_eq_false, not_false_eq_true, true_imp_iff, false_imp_iff, Int.reduceNe, Int.reduceEq, Int.reduceLT, Int.reduceLE, Bool.not_true, Bool.not_false, d3, d4]
                    refine ⟨fun w'' h => by rw [h, d4]; exact rfl, fun w'' h => by rw [h, d3]; exact rfl, fun hlt2 => ?_, fun hge2 => ?_⟩
                    · refine callP_of (fail_c 2 Pd) (fun _ _ h => h.elim) ?_
                      rintro ce we ⟨ht, hb⟩
                      simp -dsimp only [push_cast, Nat.reduceAdd, Nat.reduceLeDiff, Nat.reduceBEq, decide_true, ne_eq, eq_self, not_true_eq_false, not_false_eq_true, true_imp_iff, false_imp_iff, Int.reduceNe, Int.reduceEq, Int.reduceLT, Int.reduceLE, Bool.not_true, Bool.not_false]
                      have hbr : bracesP l2 = .error (2, (Cae.hd l5).pos) := by
                        rw [hbr2, pb_of e5, if_pos (by omega)]
                        rfl
                      refine ⟨2, _, ?_, ht.mono (by have := kdd.size; omega), kdd.trans (Kept.of_below hb (X := (· = pb)) (fun i h1 h2 => by omega)) (fun i _ h => h)⟩
                      rw [← hm2]
                      refine again_err hm ?_
                      rw [hsx]
                      unfold Cae.pb
                      rw [hbr]
                    · have hbr3 : bracesP l2 = Cae.pb (mustP [125]) (fun _ => pr ((n1 : Int), (n2 : Int))) l5 := by
                        rw [hbr2, pb_of e5, if_neg (by omega)]
                      -- lo, hi, PS, world, tokens, cells of y, cells of the row, kept, the part; what is left to read
                      refine callP_of (must_c [125] Pd) ?_ ?_
                      · rintro _ wm ⟨_, lm, em, rfl, Pm, km⟩
                        have hbr : bracesP l2 = .ok (((n1 : Int), (n2 : Int)), lm) := by rw [hbr3, pb_of em]; rfl
                        have hsuf : suffixP l1 = .ok (some ((n1 : Int), (n2 : Int)), lm) := by rw [hsx, pb_of hbr]; rfl
                        have hlm : lm.length ≤ l2.length := by
                          obtain ⟨pre, _, e, _⟩ := lo_braces _ _ _ hbr
                          rw [e, List.length_append]; omega
                        have BY := BYd.kept km (by omega)
                        have BX := BXd.kept km (by omega)
                        have kS := kdd.trans km (fun i _ h => h)
                        have VX := VB.mono (X' := (· < w.heap.size)) km (fun i h => by omega) (fun i h => .inl h)
                        simp -dsimp only [push_cast, Nat.reduceAdd, Nat.reduceLeDiff, Nat.reduceBEq, decide_true, ne_eq, eq_self, not_true_eq_false, not_false_eq_true, true_imp_iff, false_imp_iff, Int.reduceNe, Int.reduceEq, Int.reduceLT, Int.reduceLE, Bool.not_true, Bool.not_false, hz6]
                        -- a round's end: lo, hi; tokens l2; world wS; y's cells BY; kS : Kept (· = pb) w wS
                        have hm1 : ∃ m', m = m' + 1 := ⟨m - 1, by omega⟩
                        obtain ⟨m', hmm⟩ := hm1
                        have hag : againW d (unitP d) l0 = if d ≤ c + 1 then pfail 4 lm else againLoop d m' (c + 1) (.many x (n1 : Int) (n2 : Int)) lm := by
                          rw [← hm2, hmm, againLoop, pb_of hsuf]
                          dsimp only
                          split <;> rfl
                        refine ⟨⟨by omega, by omega⟩, ?_⟩
                        refine callP_of (deep_c (i + 1) Pm) ?_ ?_
                        · rintro _ w0 ⟨h8, rfl, hw0⟩
                          obtain rfl : wm = w0 := hw0.symm
                          have hlen4 := PS.len Pm
                          have hlen1 := hP1.len
                          have hzS := kS.size
                          simp -dsimp only [push_cast, Nat.reduceAdd, Nat.reduceLeDiff, Nat.reduceBEq, decide_true, ne_eq, eq_self, not_true_eq_false, not_false_eq_true, true_imp_iff, false_imp_iff, Int.reduceNe, Int.reduceEq, Int.reduceLT, Int.reduceLE, Bool.not_true, Bool.not_false, hz5]
                          refine ⟨⟨m', c + 1, .many x (n1 : Int) (n2 : Int), lm, i + 1, ?_, by omega, ⟨rfl, by omega, by omega⟩, ?_, Pm, kS⟩, by rw [hlen4, hlen1]; omega⟩
                          · rw [hag, if_neg (by omega)]
                          · simp only [PatV]
                            exact ⟨_, _, _, rfl, by omega, BY, sl_blk1 BX (by omega), VX⟩
                        · rintro ce w0 ⟨h8, ht, hb⟩
                          simp -dsimp only [push_cast, Nat.reduceAdd, Nat.reduceLeDiff, Nat.reduceBEq, decide_true, ne_eq, eq_self, not_true_eq_false, not_false_eq_true, true_imp_iff, false_imp_iff, Int.reduceNe, Int.reduceEq, Int.reduceLT, Int.reduceLE, Bool.not_true, Bool.not_false]
                          refine ⟨4, _, ?_, ht.mono (by have := kS.size; omega), kS.trans (Kept.of_below hb (X := (· = pb)) (fun i h1 h2 => by omega)) (fun i _ h => h)⟩
                          rw [hag, if_pos (by omega)]
                          rfl
                      · rintro ce we ⟨e, pos, he, ht, hke⟩
                        simp -dsimp only [push_cast, Nat.reduceAdd, Nat.reduceLeDiff, Nat.reduceBEq, decide_true, ne_eq, eq_self, not_true_eq_false, not_false_eq_true, true_imp_iff, false_imp_iff, Int.reduceNe, Int.reduceEq, Int.reduceLT, Int.reduceLE, Bool.not_true, Bool.not_false]
                        refine ⟨e, pos, ?_, ht.mono (by have := kdd.size; omega), kdd.trans hke (fun i _ h => h)⟩
                        rw [← hm2]
                        refine again_err hm ?_
                        have hbr : bracesP l2 = .error (e, pos) := by rw [hbr3]; unfold Cae.pb; rw [he]
                        rw [hsx]
                        unfold Cae.pb
                        rw [hbr]
                  ·
                    rintro ce we ⟨e, pos, he, ht, hke⟩
                    simp -dsimp only [push_cast, Nat.reduceAdd, Nat.reduceLeDiff, Nat.reduceBEq, decide_true, ne_eq, eq_self, not_true_eq_false, not_false_eq_true, true_imp_iff, false_imp_iff, Int.reduceNe, Int.reduceEq, Int.reduceLT, Int.reduceLE, Bool.not_true, Bool.not_false]
                    refine ⟨e, pos, ?_, ht.mono (by have := k9.size; omega), k9.trans hke (fun i _ h => h)⟩
                    rw [← hm2]
                    refine again_err hm ?_
                    rw [hsx]
                    unfold Cae.pb
                    rw [show bracesP l2 = .error (e, pos) by rw [hbr2]; unfold Cae.pb; rw [he]]
                · have hik : isKind 2 l4 = false := by
                    have : t9.kind ≠ 2 := fun e => hk2 (by omega)
                    rw [el9]; simp [isKind, Cae.hd, this]
                  have hbr2 : bracesP l2 = Cae.pb (mustP [125]) (fun _ => pr ((n1 : Int), -1)) l4 := by
                    rw [hbr1]
                    unfold pif
                    rw [hik, if_neg (by decide)]
                  have VB := V9
                  -- lo, hi, PS, world, tokens, cells of y, cells of the row, kept, the part; what is left to read
                  refine callP_of (must_c [125] P9) ?_ ?_
                  · rintro _ wm ⟨_, lm, em, rfl, Pm, km⟩
                    have hbr : bracesP l2 = .ok (((n1 : Int), (-1)), lm) := by rw [hbr2, pb_of em]; rfl
                    have hsuf : suffixP l1 = .ok (some ((n1 : Int), (-1)), lm) := by rw [hsx, pb_of hbr]; rfl
                    have hlm : lm.length ≤ l2.length := by
                      obtain ⟨pre, _, e, _⟩ := lo_braces _ _ _ hbr
                      rw [e, List.length_append]; omega
                    have BY := BY9.kept km (by omega)
                    have BX := BX9.kept km (by omega)
                    have kS := k9.trans km (fun i _ h => h)
                    have VX := VB.mono (X' := (· < w.heap.size)) km (fun i h => by omega) (fun i h => .inl h)
                    simp -dsimp only [push_cast, Nat.reduceAdd, Nat.reduceLeDiff, Nat.reduceBEq, decide_true, ne_eq, eq_self, not_true_eq_false, not_false_eq_true, true_imp_iff, false_imp_iff, Int.reduceNe, Int.reduceEq, Int.reduceLT, Int.reduceLE, Bool.not_true, Bool.not_false, hz6]
                    -- a round's end: lo, hi; tokens l2; world wS; y's cells BY; kS : Kept (· = pb) w wS
                    have hm1 : ∃ m', m = m' + 1 := ⟨m - 1, by omega⟩
                    obtain ⟨m', hmm⟩ := hm1
                    have hag : againW d (unitP d) l0 = if d ≤ c + 1 then pfail 4 lm else againLoop d m' (c + 1) (.many x (n1 : Int) (-1)) lm := by
                      rw [← hm2, hmm, againLoop, pb_of hsuf]
                      dsimp only
                      split <;> rfl
                    refine ⟨⟨by omega, by omega⟩, ?_⟩
                    refine callP_of (deep_c (i + 1) Pm) ?_ ?_
                    · rintro _ w0 ⟨h8, rfl, hw0⟩
                      obtain rfl : wm = w0 := hw0.symm
                      have hlen4 := PS.len Pm
                      have hlen1 := hP1.len
                      have hzS := kS.size
                      simp -dsimp only [push_cast, Nat.reduceAdd, Nat.reduceLeDiff, Nat.reduceBEq, decide_true, ne_eq, eq_self, not_true_eq_false, not_false_eq_true, true_imp_iff, false_imp_iff, Int.reduceNe, Int.reduceEq, Int.reduceLT, Int.reduceLE, Bool.not_true, Bool.not_false, hz5]
                      refine ⟨⟨m', c + 1, .many x (n1 : Int) (-1), lm, i + 1, ?_, by omega, ⟨rfl, by omega, by omega⟩, ?_, Pm, kS⟩, by rw [hlen4, hlen1]; omega⟩
                      · rw [hag, if_neg (by omega)]
                      · simp only [PatV]
                        exact ⟨_, _, _, rfl, by omega, BY, sl_blk1 BX (by omega), VX⟩
                    · rintro ce w0 ⟨h8, ht, hb⟩
                      simp -dsimp only [push_cast, Nat.reduceAdd, Nat.reduceLeDiff, Nat.reduceBEq, decide_true, ne_eq, eq_self, not_true_eq_false, not_false_eq_true, true_imp_iff, false_imp_iff, Int.reduceNe, Int.reduceEq, Int.reduceLT, Int.reduceLE, Bool.not_true, Bool.not_false]
                      refine ⟨4, _, ?_, ht.mono (by have := kS.size; omega), kS.trans (Kept.of_below hb (X := (· = pb)) (fun i h1 h2 => by omega)) (fun i _ h => h)⟩
                      rw [hag, if_pos (by omega)]
                      rfl
                  · rintro ce we ⟨e, pos, he, ht, hke⟩
                    simp -dsimp only [push_cast, Nat.reduceAdd, Nat.reduceLeDiff, Nat.reduceBEq, decide_true, ne_eq, eq_self, not_true_eq_false, not_false_eq_true, true_imp_iff, false_imp_iff, Int.reduceNe, Int.reduceEq, Int.reduceLT, Int.reduceLE, Bool.not_true, Bool.not_false]
                    refine ⟨e, pos, ?_, ht.mono (by have := k9.size; omega), k9.trans hke (fun i _ h => h)⟩
                    rw [← hm2]
                    refine again_err hm ?_
                    have hbr : bracesP l2 = .error (e, pos) := by rw [hbr2]; unfold Cae.pb; rw [he]
                    rw [hsx]
                    unfold Cae.pb
                    rw [hbr]
              · obtain rfl : w7 = w8 := hww.symm
                have hbr2 : bracesP l2 = Cae.pb (mustP [125]) (fun _ => pr ((n1 : Int), (n1 : Int))) l3 := by
                  unfold bracesP
                  rw [pb_of e3]
                  show (if seeP [44] l3 then _ else _) = _
                  rw [hs5, if_neg (by decide)]
                have VB := V7
                simp -dsimp only [push_cast, Nat.reduceAdd, Nat.reduceLeDiff, Nat.reduceBEq, decide_true, ne_eq, eq_self, not_true_eq_false, not_false_eq_true, true_imp_iff, false_imp_iff, Int.reduceNe, Int.reduceEq, Int.reduceLT, Int.reduceLE, Bool.not_true, Bool.not_false]
                -- lo, hi, PS, world, tokens, cells of y, cells of the row, kept, the part; what is left to read
                refine callP_of (must_c [125] P7) ?_ ?_
                · rintro _ wm ⟨_, lm, em, rfl, Pm, km⟩
                  have hbr : bracesP l2 = .ok (((n1 : Int), (n1 : Int)), lm) := by rw [hbr2, pb_of em]; rfl
                  have hsuf : suffixP l1 = .ok (some ((n1 : Int), (n1 : Int)), lm) := by rw [hsx, pb_of hbr]; rfl
                  have hlm : lm.length ≤ l2.length := by
                    obtain ⟨pre, _, e, _⟩ := lo_braces _ _ _ hbr
                    rw [e, List.length_append]; omega
                  have BY := BY7.kept km (by omega)
                  have BX := BX7.kept km (by omega)
                  have kS := k7.trans km (fun i _ h => h)
                  have VX := VB.mono (X' := (· < w.heap.size)) km (fun i h => by omega) (fun i h => .inl h)
                  simp -dsimp only [push_cast, Nat.reduceAdd, Nat.reduceLeDiff, Nat.reduceBEq, decide_true, ne_eq, eq_self, not_true_eq_false, not_false_eq_true, true_imp_iff, false_imp_iff, Int.reduceNe, Int.reduceEq, Int.reduceLT, Int.reduceLE, Bool.not_true, Bool.not_false, hz6]
                  -- a round's end: lo, hi; tokens l2; world wS; y's cells BY; kS : Kept (· = pb) w wS
                  have hm1 : ∃ m', m = m' + 1 := ⟨m - 1, by omega⟩
                  obtain ⟨m', hmm⟩ := hm1
                  have hag : againW d (unitP d) l0 = if d ≤ c + 1 then pfail 4 lm else againLoop d m' (c + 1) (.many x (n1 : Int) (n1 : Int)) lm := by
                    rw [← hm2, hmm, againLoop, pb_of hsuf]
                    dsimp only
                    split <;> rfl
                  refine ⟨⟨by omega, by omega⟩, ?_⟩
                  refine callP_of (deep_c (i + 1) Pm) ?_ ?_
                  · rintro _ w0 ⟨h8, rfl, hw0⟩
                    obtain rfl : wm = w0 := hw0.symm
                    have hlen4 := PS.len Pm
                    have hlen1 := hP1.len
                    have hzS := kS.size
                    simp -dsimp only [push_cast, Nat.reduceAdd, Nat.reduceLeDiff, Nat.reduceBEq, decide_true, ne_eq, eq_self, not_true_eq_false, not_false_eq_true, true_imp_iff, false_imp_iff, Int.reduceNe, Int.reduceEq, Int.reduceLT, Int.reduceLE, Bool.not_true, Bool.not_false, hz5]
                    refine ⟨⟨m', c + 1, .many x (n1 : Int) (n1 : Int), lm, i + 1, ?_, by omega, ⟨rfl, by omega, by omega⟩, ?_, Pm, kS⟩, by rw [hlen4, hlen1]; omega⟩
                    · rw [hag, if_neg (by omega)]
                    · simp only [PatV]
                      exact ⟨_, _, _, rfl, by omega, BY, sl_blk1 BX (by omega), VX⟩
                  · rintro ce w0 ⟨h8, ht, hb⟩
                    simp -dsimp only [push_cast, Nat.reduceAdd, Nat.reduceLeDiff, Nat.reduceBEq, decide_true, ne_eq, eq_self, not_true_eq_false, not_false_eq_true, true_imp_iff, false_imp_iff, Int.reduceNe, Int.reduceEq, Int.reduceLT, Int.reduceLE, Bool.not_true, Bool.not_false]
                    refine ⟨4, _, ?_, ht.mono (by have := kS.size; omega), kS.trans (Kept.of_below hb (X := (· = pb)) (fun i h1 h2 => by omega)) (fun i _ h => h)⟩
                    rw [hag, if_pos (by omega)]
                    rfl
                · rintro ce we ⟨e, pos, he, ht, hke⟩
                  simp -dsimp only [push_cast, Nat.reduceAdd, Nat.reduceLeDiff, Nat.reduceBEq, decide_true, ne_eq, eq_self, not_true_eq_false, not_false_eq_true, true_imp_iff, false_imp_iff, Int.reduceNe, Int.reduceEq, Int.reduceLT, Int.reduceLE, Bool.not_true, Bool.not_false]
                  refine ⟨e, pos, ?_, ht.mono (by have := k7.size; omega), k7.trans hke (fun i _ h => h)⟩
                  rw [← hm2]
                  refine again_err hm ?_
                  have hbr : bracesP l2 = .error (e, pos) := by rw [hbr2]; unfold Cae.pb; rw [he]
                  rw [hsx]
                  unfold Cae.pb
                  rw [hbr]
            ·
              rintro ce we ⟨e, pos, he, ht, hke⟩
              simp -dsimp only [push_cast, Nat.reduceAdd, Nat.reduceLeDiff, Nat.reduceBEq, decide_true, ne_eq, eq_self, not_true_eq_false, not_false_eq_true, true_imp_iff, false_imp_iff, Int.reduceNe, Int.reduceEq, Int.reduceLT, Int.reduceLE, Bool.not_true, Bool.not_false]
              refine ⟨e, pos, ?_, ht.mono (by have := k4.size; omega), k4.trans hke (fun i _ h => h)⟩
              rw [← hm2]
              refine again_err hm ?_
              rw [hsx]
              unfold Cae.pb
              rw [show bracesP l2 = .error (e, pos) by unfold bracesP Cae.pb; rw [he]]
          · obtain rfl : w3 = w4 := hww.symm
            have hsuf : suffixP l1 = .ok (none, l1) := by
              unfold suffixP pif
              rw [hs1, hs2, hs3, hs4, if_neg (by decide), if_neg (by decide), if_neg (by decide), if_neg (by decide)]
              rfl
            simp -dsimp only [push_cast, Nat.reduceAdd, Nat.reduceLeDiff, Nat.reduceBEq, decide_true, ne_eq, eq_self, not_true_eq_false, not_false_eq_true, true_imp_iff, false_imp_iff, Int.reduceNe, Int.reduceEq, Int.reduceLT, Int.reduceLE, Bool.not_true, Bool.not_false, hz5]
            refine ⟨x, l1, ?_, V3.mono (X' := (· < w.heap.size)) (Kept.refl (fun _ => False) _) (fun _ h => h.elim) (fun i h => .inl h), P3, k3⟩
            rw [← hm2]
            obtain ⟨m', rfl⟩ : ∃ m', m = m' + 1 := ⟨m - 1, by omega⟩
            rw [againLoop, pb_of hsuf]
            rfl
  · rintro c w3 ⟨e, pos, he, ht, hk3⟩
    simp -dsimp only [push_cast, Nat.reduceAdd, Nat.reduceLeDiff, Nat.reduceBEq, decide_true, ne_eq, eq_self, not_true_eq_false, not_false_eq_true, true_imp_iff, false_imp_iff, Int.reduceNe, Int.reduceEq, Int.reduceLT, Int.reduceLE, Bool.not_true, Bool.not_false]
    refine ⟨e, pos, ?_, ht, hk3⟩
    unfold againW Cae.pb
    rw [he]
end Go.Proofs.YtieaebjkbhaoaaaGreatDoor
