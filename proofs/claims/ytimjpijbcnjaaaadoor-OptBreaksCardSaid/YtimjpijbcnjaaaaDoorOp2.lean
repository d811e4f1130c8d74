import Derived.Test.YtimjpijbcnjaaaaDoorOp1
import Derived.Test.YtimjpijbcnjaaaaDoorV
namespace Go.Proofs.YtimjpijbcnjaaaaDoor
open Go.Vc Go.Proofs Go.RowKit Cae
set_option maxRecDepth 100000
set_option linter.unusedSimpArgs false
set_option linter.unusedVariables false
attribute [local irreducible] wpL callK valK unitK runK Fun Sl Own vc vcOps opK pureK
set_option maxHeartbeats 8000000
attribute [local irreducible] farK threadI

/-- Instructions that the call owns, sets that it reads. -/
theorem codeV_own {X : Nat → Prop} {base : Nat} {w : World} {sv iv : Value} {c : CodeP} {sets : List (List Rg)} (hX : ∀ b, X b → b < base) (hsv : SetsV X w sv sets) (ho : Own base 37 3 encIn w iv c.ins) (hs : c.sets = sets) : CodeV X w (.agg #[sv, iv]) c :=
  ⟨sv, iv, rfl, by rw [hs]; exact hsv, ho.sl.weaken hX⟩

theorem threaded_c (c : CodeP) (hc : CR c) (X : Nat → Prop) (v : Value) (w : World) (hX : ∀ b, X b → b < w.heap.size) (hv : CodeV X w v c) :
    Fun Tryd.prog 61 [v] w fun r w' => CodeV X w' r (threadedP c) ∧ Below w.heap.size w w' := by
  have hm := hc.many
  have hone := hc.one
  obtain ⟨sv, iv, rfl, hsvX, hivX⟩ := hv
  have hsv : SetsV (fun _ => False) w sv c.sets := hsvX.mono (fun _ _ _ => rfl) (fun _ h => h.elim)
  have hiv := hivX.weaken (X' := fun _ => False) (fun _ h => h.elim)
  obtain ⟨a, cp, rfl, hcp⟩ := hiv.shape
  have hsv0 := hsv.shape
  obtain ⟨sa, sc, hsvv, hsc⟩ := hsv0
  refine fun_of_vcC Tryd.func61 rfl (by kernel_rfl) [.cell 2 25] rfl ?_
  simp -dsimp only [push_cast, fr0, Tryd.ntmps61, List.length_cons, List.length_nil, Nat.reduceAdd, Nat.reduceSub, Nat.reduceBEq, List.replicate_succ, List.replicate_zero]
  refine boxK_of ?_
  intro w1 hw1
  have hw1 : New w w1 25 [sv, .slice a c.ins.length cp] := hw1
  have sz1 := hw1.size
  simp -dsimp only [push_cast, Nat.reduceAdd, Nat.reduceLeDiff, Nat.reduceBEq, decide_true]
  refine allocK (z := [.slice none 0 0, .slice none 0 0]) (by kernel_rfl) ?_
  intro w2 hw2
  have sz2 := hw2.size
  have hb2 : Below w.heap.size w w2 := hw1.below.trans (hw2.below.mono (by omega))
  have hB2 : Blk w2 w.heap.size 25 [sv, .slice a c.ins.length cp] := hw1.blk.below hw2.below (by omega)
  have c0 : w2.cell? ⟨w.heap.size, 1, none⟩ = some (.slice a c.ins.length cp) := hB2.cell rfl
  simp -dsimp only [push_cast, Nat.reduceAdd, Nat.reduceLeDiff, Nat.reduceBEq, decide_true, ne_eq, eq_self, not_true_eq_false, not_false_eq_true, true_imp_iff, false_imp_iff, Int.reduceNe, Int.reduceEq, Int.reduceLT, Int.reduceLE, Bool.not_true, Bool.not_false, c0]
  refine callK_of (cloneIns_c c.ins (by omega) (fun _ => False) _ w2 (hiv.below hb2) (fun h => by rw [h] at hone; simp at hone)) ?_
  rintro v3 w3 ⟨ho3, hb3⟩
  have sz3 := hb3.size
  have hB3 := hB2.below hb3 (by omega)
  have hR3 : Blk w3 w1.heap.size 25 [.slice none 0 0, .slice none 0 0] := hw2.blk.below hb3 (by omega)
  have hcut := ho3.slice
  obtain ⟨ga, gc, rfl⟩ := hcut
  have hcut := ho3.cut
  rcases hcut with ⟨_, h0, _⟩ | ⟨g, rfl, _, hle, _⟩
  · omega
  have hgb := ho3.block g rfl
  simp -dsimp only [push_cast, Nat.reduceAdd, Nat.reduceLeDiff, Nat.reduceBEq, decide_true]
  refine storeK_of hB3 (by simp) rfl ?_
  intro w4 hw4
  have hB4 : Blk w4 w.heap.size 25 [sv, .slice (some ⟨g, 0, none⟩) c.ins.length gc] := hw4.blk
  have sz4 := hw4.size
  have ho4 := ho3.keptX hw4.kept (fun g' hg' h => by have : g = g' := by simpa [Value.ownBlock] using hg'
                                                     omega)
  have hR4 := hR3.kept hw4.kept (by omega)
  have hb4 : Below w.heap.size w w4 := hb2.trans ((hb3.mono (by omega)).trans (hw4.kept.below (by omega) (fun _ h => by omega)))
  have c4 : w4.cell? ⟨w.heap.size, 1, none⟩ = some (.slice (some ⟨g, 0, none⟩) c.ins.length gc) := hB4.cell rfl
  simp -dsimp only [push_cast, Nat.reduceAdd, Nat.reduceLeDiff, Nat.reduceBEq, decide_true, ne_eq, eq_self, not_true_eq_false, not_false_eq_true, true_imp_iff, false_imp_iff, Int.reduceNe, Int.reduceEq, Int.reduceLT, Int.reduceLE, Bool.not_true, Bool.not_false, c4]
  refine wpL_loop [3, 4, 5, 6, 14, 15, 16, 17, 18, 19, 20, 21, 22, 23, 24, 25, 26, 27, 28, 29, 30, 31, 32, 33, 34, 35, 36, 37, 38, 39, 40, 41, 42, 43, 44, 45, 46, 47, 48, 49, 50, 51, 52, 53, 54, 55, 56, 57, 58, 59, 60, 61, 62, 63] (fun z wx => ∃ (i : Nat), z 14 = .int .i64 i ∧ i ≤ c.ins.length ∧ Own w2.heap.size 37 3 encIn wx (.slice (some ⟨g, 0, none⟩) c.ins.length gc) (threadTo c i).ins ∧ Blk wx w.heap.size 25 [sv, .slice (some ⟨g, 0, none⟩) c.ins.length gc] ∧
      Blk wx w1.heap.size 25 [.slice none 0 0, .slice none 0 0] ∧ Below w.heap.size w wx ∧ w4.heap.size ≤ wx.heap.size) (fun z _ => c.ins.length - (intOf (z 14)).toNat) ?_ ?_
  · exact ⟨0, rfl, Nat.zero_le _, ho4, hB4, hR4, hb4, Nat.le_refl _⟩
  · intro z wx hI
    obtain ⟨i, h14, hi, hox, hBx, hRx, hbx, szx⟩ := hI
    have hsp := threadTo_spec hc i
    obtain ⟨hCi, hsets, hlen, _, hsame⟩ := hsp
    simp -dsimp only [push_cast, Nat.reduceAdd, Nat.reduceLeDiff, Nat.reduceBEq, decide_true, ne_eq, eq_self, not_true_eq_false, not_false_eq_true, true_imp_iff, false_imp_iff, Int.reduceNe, Int.reduceEq, Int.reduceLT, Int.reduceLE, Bool.not_true, Bool.not_false, h14]
    refine ⟨fun hlt => ?_, fun hge => ?_⟩
    · have hg := lt_get (l := (threadTo c i).ins) (i := i) (by omega)
      obtain ⟨x, hx, hxm, _⟩ := hg
      have hg := hox.sl.get hx
      obtain ⟨b, o, e, _, hcell⟩ := hg
      cases e
      have ce : cellsAt wx ⟨g, 0 + i * 3, none⟩ 0 3 = some (encIn x) := cellsAt_of (encIn x) 0 (fun j u hu => by simpa using hcell j u hu)
      rw [Nat.zero_add] at ce
      unfold encIn at ce
      simp -dsimp only [push_cast, Nat.reduceAdd, Nat.reduceLeDiff, Nat.reduceBEq, decide_true, ne_eq, eq_self, not_true_eq_false, not_false_eq_true, true_imp_iff, false_imp_iff, Int.reduceNe, Int.reduceEq, Int.reduceLT, Int.reduceLE, Bool.not_true, Bool.not_false, ce]
      refine ⟨⟨by omega, by omega⟩, ?_⟩
      refine allocK (z := [.int .i64 0, .int .i64 0, .int .i64 0]) (by kernel_rfl) ?_
      intro w5 hw5
      have sz5 := hw5.size
      simp -dsimp only [push_cast, Nat.reduceAdd, Nat.reduceLeDiff, Nat.reduceBEq, decide_true]
      refine storeAgg (n := 3) (by kernel_rfl) hw5.blk rfl (by simp) (by simp [Value.oneCell']) ?_
      intro w6 hw6
      have sz6 := hw6.size
      have hT6 : Blk w6 wx.heap.size 37 [.int .i64 x.op, .int .i64 x.a, .int .i64 x.b] := hw6.blk
      have k6 : Kept (fun j => j = wx.heap.size) wx w6 := (Kept.new hw5).trans hw6.kept (fun _ _ h => h)
      have ho6 := hox.keptX k6 (fun g' hg' h => by have := hox.block g' hg'; omega)
      have hB6 := hBx.kept k6 (by omega)
      have hR6 := hRx.kept k6 (by omega)
      have hb6 : Below w.heap.size w w6 := hbx.trans (k6.below (by omega) (fun _ h => by omega))
      have c6 : w6.cell? ⟨wx.heap.size, 0, none⟩ = some (.int .i64 x.op) := hT6.cell rfl
      simp -dsimp only [push_cast, Nat.reduceAdd, Nat.reduceLeDiff, Nat.reduceBEq, decide_true, ne_eq, eq_self, not_true_eq_false, not_false_eq_true, true_imp_iff, false_imp_iff, Int.reduceNe, Int.reduceEq, Int.reduceLT, Int.reduceLE, Bool.not_true, Bool.not_false, c6]
      have hcv : ∀ w', Kept (fun _ => False) w6 w' → CodeV (fun _ => False) w' (.agg #[sv, .slice (some ⟨g, 0, none⟩) c.ins.length gc]) (threadTo c i) := fun w' hk' =>
        codeV_own (sets := c.sets) (base := w2.heap.size) (fun _ h => h.elim) (SetsV.below (w := w6) (SetsV.below hsv hb6) (hk'.below (Nat.le_refl _) (fun _ h => h.elim))) (ho6.keptX hk' (fun _ _ h => h)) hsets
      have hnx : (threadTo c (i + 1)).ins = (threadTo c i).ins.set i (threadI (threadTo c i) x) := by
        rw [threadTo]; unfold thread1; rw [hx]
      refine ⟨fun h3 => ?_, fun h3 => ?_⟩
      · have hj := insRight_jump hCi hx h3
        have haj : x.a = ((x.a.toNat : Nat) : Int) := by rw [Int.toNat_of_nonneg hj.1]
        have ey : threadI (threadTo c i) x = ⟨x.op, farK (threadTo c i) x.a.toNat, x.b⟩ := by unfold threadI; rw [if_pos h3]
        refine wpL_last (fun w' => Blk w' w.heap.size 25 [sv, .slice (some ⟨g, 0, none⟩) c.ins.length gc] ∧ Blk w' wx.heap.size 37 [.int .i64 x.op, .int .i64 x.a, .int .i64 x.b]) mixed (by kernel_rfl) (List.cons_ne_nil _ _) ⟨hB6.drew, hT6.drew⟩ ?_
        have q1 : w6.drew.cell? ⟨w.heap.size, 1, none⟩ = some (.slice (some ⟨g, 0, none⟩) c.ins.length gc) := hB6.drew.cell rfl
        have q2 : w6.drew.cell? ⟨wx.heap.size, 1, none⟩ = some (.int .i64 x.a) := hT6.drew.cell rfl
        have q3 := hB6.drew.cellsAt
        simp only [List.length_cons, List.length_nil, Nat.zero_add, Nat.reduceAdd] at q3
        simp -dsimp only [push_cast, Nat.reduceAdd, Nat.reduceLeDiff, Nat.reduceBEq, decide_true, ne_eq, eq_self, not_true_eq_false, not_false_eq_true, true_imp_iff, false_imp_iff, Int.reduceNe, Int.reduceEq, Int.reduceLT, Int.reduceLE, Bool.not_true, Bool.not_false, q1, q2, q3]
        refine ⟨fun w'' hC => optBlk hC.1 rfl, fun w'' hC => optBlks hC.1 rfl rfl, fun w'' hC => optBlk hC.2 rfl, ?_⟩
        have hk6 : Kept (fun _ => False) w6 w6.drew := (Kept.refl _ _).drew
        rw [haj]
        refine callK_of (far_c (threadTo c i) hCi x.a.toNat (by omega) (fun _ => False) _ _ (hcv _ hk6)) ?_
        rintro _ w7 ⟨rfl, hb7⟩
        have hk7 : Kept (fun _ => False) w6 w7 := hk6.trans (Kept.of_below hb7 (fun j h1 h2 => absurd h2 (by omega))) (fun _ _ h => h)
        have sz7 := hk7.size
        have ho7 := ho6.keptX hk7 (fun _ _ h => h)
        have hB7 := hB6.kept hk7 id
        have hT7 := hT6.kept hk7 id
        have hR7 := hR6.kept hk7 id
        have hbw7 : Below w.heap.size w w7 := hb6.trans (hk7.below (by omega) (fun _ h => h.elim))
        rw [← haj]
        refine ⟨⟨hB7, hT7⟩, ?_⟩
        simp -dsimp only [push_cast, Nat.reduceAdd, Nat.reduceLeDiff, Nat.reduceBEq, decide_true, ne_eq, eq_self, not_true_eq_false, not_false_eq_true, true_imp_iff, false_imp_iff, Int.reduceNe, Int.reduceEq, Int.reduceLT, Int.reduceLE, Bool.not_true, Bool.not_false]
        refine ⟨⟨by omega, by omega⟩, ?_⟩
        refine storeOwnF (i := i) (f := 1) (y := threadI (threadTo c i) x) ho7 rfl hx (by omega) (by rw [ey]; rfl) rfl ?_
        intro w8 ho8 hk8 sz8
        rw [← hnx] at ho8
        have hB8 := hB7.kept hk8 (by omega)
        have hR8 := hR7.kept hk8 (by omega)
        have hb8 : Below w.heap.size w w8 := hbw7.trans (hk8.below (by omega) (fun _ h => by omega))
        simp -dsimp only [push_cast, Nat.reduceAdd, Nat.reduceLeDiff, Nat.reduceBEq, decide_true, ne_eq, eq_self, not_true_eq_false, not_false_eq_true, true_imp_iff, false_imp_iff, Int.reduceNe, Int.reduceEq, Int.reduceLT, Int.reduceLE, Bool.not_true, Bool.not_false]
        exact ⟨⟨by omega, by omega⟩, ⟨i + 1, rfl, by omega, ho8, hB8, hR8, hb8, by omega⟩, by rw [h14]; simp only [intOf]; omega⟩
      · refine ⟨fun h2 => ?_, fun h2 => ?_⟩
        · have hj := insRight_split hCi hx h2
          have haj : x.a = ((x.a.toNat : Nat) : Int) := by rw [Int.toNat_of_nonneg hj.1]
          have hbj : x.b = ((x.b.toNat : Nat) : Int) := by rw [Int.toNat_of_nonneg hj.2.2.1]
          refine wpL_draw (fun w' => Blk w' w.heap.size 25 [sv, .slice (some ⟨g, 0, none⟩) c.ins.length gc] ∧ Blk w' wx.heap.size 37 [.int .i64 x.op, .int .i64 x.a, .int .i64 x.b]) mixed (by kernel_rfl) ⟨hB6.drew, hT6.drew⟩ ?_
          have q1 : w6.drew.cell? ⟨wx.heap.size, 2, none⟩ = some (.int .i64 x.b) := hT6.drew.cell rfl
          have q2 : w6.drew.cell? ⟨wx.heap.size, 1, none⟩ = some (.int .i64 x.a) := hT6.drew.cell rfl
          have q3 := hB6.drew.cellsAt
          simp only [List.length_cons, List.length_nil, Nat.zero_add, Nat.reduceAdd] at q3
          simp -dsimp only [push_cast, Nat.reduceAdd, Nat.reduceLeDiff, Nat.reduceBEq, decide_true, ne_eq, eq_self, not_true_eq_false, not_false_eq_true, true_imp_iff, false_imp_iff, Int.reduceNe, Int.reduceEq, Int.reduceLT, Int.reduceLE, Bool.not_true, Bool.not_false, q1, q2, q3]
          refine ⟨fun w'' hC => optBlks hC.1 rfl rfl, fun w'' hC => optBlk hC.2 rfl, ?_⟩
          have hk6 : Kept (fun _ => False) w6 w6.drew := (Kept.refl _ _).drew
          rw [haj]
          refine callK_of (far_c (threadTo c i) hCi x.a.toNat (by omega) (fun _ => False) _ _ (hcv _ hk6)) ?_
          rintro _ w7 ⟨rfl, hb7⟩
          have hk7 : Kept (fun _ => False) w6 w7 := hk6.trans (Kept.of_below hb7 (fun j h1 h2 => absurd h2 (by omega))) (fun _ _ h => h)
          have sz7 := hk7.size
          have ho7 := ho6.keptX hk7 (fun _ _ h => h)
          have hB7 := hB6.kept hk7 id
          have hT7 := hT6.kept hk7 id
          have hR7 := hR6.kept hk7 id
          have hbw7 : Below w.heap.size w w7 := hb6.trans (hk7.below (by omega) (fun _ h => h.elim))
          rw [← haj]
          refine ⟨⟨hB7, hT7⟩, ?_⟩
          have q4 := hB7.cellsAt
          have q5 : w7.cell? ⟨wx.heap.size, 2, none⟩ = some (.int .i64 x.b) := hT7.cell rfl
          simp only [List.length_cons, List.length_nil, Nat.zero_add, Nat.reduceAdd] at q4
          simp -dsimp only [push_cast, Nat.reduceAdd, Nat.reduceLeDiff, Nat.reduceBEq, decide_true, ne_eq, eq_self, not_true_eq_false, not_false_eq_true, true_imp_iff, false_imp_iff, Int.reduceNe, Int.reduceEq, Int.reduceLT, Int.reduceLE, Bool.not_true, Bool.not_false, q4, q5]
          refine ⟨fun w'' hC => optBlks hC.1 rfl rfl, fun w'' hC => optBlk hC.2 rfl, ?_⟩
          rw [hbj]
          refine callK_of (far_c (threadTo c i) hCi x.b.toNat (by omega) (fun _ => False) _ _ (hcv _ hk7)) ?_
          rintro _ w8 ⟨rfl, hb8⟩
          have hk8 : Kept (fun _ => False) w6 w8 := hk7.trans (Kept.of_below hb8 (fun j h1 h2 => absurd h2 (by omega))) (fun _ _ h => h)
          have sz8 := hk8.size
          have ho8 := ho6.keptX hk8 (fun _ _ h => h)
          have hB8 := hB6.kept hk8 id
          have hT8 := hT6.kept hk8 id
          have hR8 := hR6.kept hk8 id
          have hbw8 : Below w.heap.size w w8 := hb6.trans (hk8.below (by omega) (fun _ h => h.elim))
          rw [← hbj]
          refine ⟨⟨hB8, hT8⟩, ?_⟩
          simp -dsimp only [push_cast, Nat.reduceAdd, Nat.reduceLeDiff, Nat.reduceBEq, decide_true, ne_eq, eq_self, not_true_eq_false, not_false_eq_true, true_imp_iff, false_imp_iff, Int.reduceNe, Int.reduceEq, Int.reduceLT, Int.reduceLE, Bool.not_true, Bool.not_false]
          refine wpL_draw (fun w' => Blk w' w.heap.size 25 [sv, .slice (some ⟨g, 0, none⟩) c.ins.length gc]) mixed (by kernel_rfl) hB8.drew ?_
          have q6 : w8.drew.cell? ⟨w.heap.size, 1, none⟩ = some (.slice (some ⟨g, 0, none⟩) c.ins.length gc) := hB8.drew.cell rfl
          simp -dsimp only [push_cast, Nat.reduceAdd, Nat.reduceLeDiff, Nat.reduceBEq, decide_true, ne_eq, eq_self, not_true_eq_false, not_false_eq_true, true_imp_iff, false_imp_iff, Int.reduceNe, Int.reduceEq, Int.reduceLT, Int.reduceLE, Bool.not_true, Bool.not_false, q6]
          refine ⟨fun w'' hC => optBlk hC rfl, fun w'' hC => optBlk hC rfl, ⟨by omega, by omega⟩, ?_⟩
          have ho8d := ho8.keptX (Kept.refl (fun _ => False) _).drew (fun _ _ h => h)
          refine storeOwnF (i := i) (f := 1) (y := ⟨x.op, farK (threadTo c i) x.a.toNat, x.b⟩) ho8d rfl hx (by omega) rfl rfl ?_
          intro w9 ho9 hk9 sz9
          have hB9 := hB8.drew.kept hk9 (by omega)
          have hR9 := hR8.drew.kept hk9 (by omega)
          have hb9 : Below w.heap.size w w9 := hbw8.drew.trans (hk9.below (by show w.heap.size ≤ w8.heap.size; omega) (fun _ h => by omega))
          have sz9' : w9.heap.size = w8.heap.size := sz9
          refine ⟨hB9, ?_⟩
          simp -dsimp only [push_cast, Nat.reduceAdd, Nat.reduceLeDiff, Nat.reduceBEq, decide_true, ne_eq, eq_self, not_true_eq_false, not_false_eq_true, true_imp_iff, false_imp_iff, Int.reduceNe, Int.reduceEq, Int.reduceLT, Int.reduceLE, Bool.not_true, Bool.not_false]
          refine ⟨⟨by omega, by omega⟩, ?_⟩
          have hx9 : ((threadTo c i).ins.set i ⟨x.op, farK (threadTo c i) x.a.toNat, x.b⟩)[i]? = some ⟨x.op, farK (threadTo c i) x.a.toNat, x.b⟩ := by rw [List.getElem?_set, if_pos rfl, if_pos (by omega)]
          refine storeOwnF (i := i) (f := 2) (y := ⟨x.op, farK (threadTo c i) x.a.toNat, farK (threadTo c i) x.b.toNat⟩) ho9 rfl hx9 (by omega) rfl rfl ?_
          intro w10 ho10 hk10 sz10
          rw [List.set_set] at ho10
          have hB10 := hB9.kept hk10 (by omega)
          have hR10 := hR9.kept hk10 (by omega)
          have hb10 : Below w.heap.size w w10 := hb9.trans (hk10.below (by omega) (fun _ h => by omega))
          have q7 : w10.cell? ⟨w.heap.size, 1, none⟩ = some (.slice (some ⟨g, 0, none⟩) c.ins.length gc) := hB10.cell rfl
          refine ⟨hB10, ?_⟩
          simp -dsimp only [push_cast, Nat.reduceAdd, Nat.reduceLeDiff, Nat.reduceBEq, decide_true, ne_eq, eq_self, not_true_eq_false, not_false_eq_true, true_imp_iff, false_imp_iff, Int.reduceNe, Int.reduceEq, Int.reduceLT, Int.reduceLE, Bool.not_true, Bool.not_false, q7]
          refine ⟨fun he => ?_, fun he => ?_⟩
          · have hee : farK (threadTo c i) x.a.toNat = farK (threadTo c i) x.b.toNat := by omega
            have ey : threadI (threadTo c i) x = ⟨3, farK (threadTo c i) x.a.toNat, 0⟩ := by unfold threadI; rw [if_neg h3, if_pos h2, if_pos hee]
            refine ⟨⟨by omega, by omega⟩, ?_⟩
            refine storeOwnA (k := 3) (i := i) (y := threadI (threadTo c i) x) (by kernel_rfl) ho10 rfl (by rw [List.length_set]; omega) (by rw [ey]; rfl) (by simp [Value.oneCell']) ?_
            intro w11 ho11 hk11 sz11
            rw [List.set_set, ← hnx] at ho11
            have hB11 := hB10.kept hk11 (by omega)
            have hR11 := hR10.kept hk11 (by omega)
            have hb11 : Below w.heap.size w w11 := hb10.trans (hk11.below (by omega) (fun _ h => by omega))
            simp -dsimp only [push_cast, Nat.reduceAdd, Nat.reduceLeDiff, Nat.reduceBEq, decide_true, ne_eq, eq_self, not_true_eq_false, not_false_eq_true, true_imp_iff, false_imp_iff, Int.reduceNe, Int.reduceEq, Int.reduceLT, Int.reduceLE, Bool.not_true, Bool.not_false]
            exact ⟨⟨by omega, by omega⟩, ⟨i + 1, rfl, by omega, ho11, hB11, hR11, hb11, by omega⟩, by rw [h14]; simp only [intOf]; omega⟩
          · have hee : ¬ farK (threadTo c i) x.a.toNat = farK (threadTo c i) x.b.toNat := by omega
            have ey : threadI (threadTo c i) x = ⟨x.op, farK (threadTo c i) x.a.toNat, farK (threadTo c i) x.b.toNat⟩ := by unfold threadI; rw [if_neg h3, if_pos h2, if_neg hee]
            rw [← ey, ← hnx] at ho10
            exact ⟨⟨by omega, by omega⟩, ⟨i + 1, rfl, by omega, ho10, hB10, hR10, hb10, by omega⟩, by rw [h14]; simp only [intOf]; omega⟩
        · have ey : threadI (threadTo c i) x = x := by unfold threadI; rw [if_neg h3, if_neg h2]
          have e : (threadTo c (i + 1)).ins = (threadTo c i).ins := by
            rw [hnx, ey]
            apply List.ext_getElem?
            intro j
            rw [List.getElem?_set]
            split
            · rename_i e; subst e; rw [if_pos (by omega), hx]
            · rfl
          rw [← e] at ho6
          exact ⟨⟨by omega, by omega⟩, ⟨i + 1, rfl, by omega, ho6, hB6, hR6, hb6, by omega⟩, by rw [h14]; simp only [intOf]; omega⟩
    · have hin : i = c.ins.length := by omega
      subst hin
      have q3 := hBx.cellsAt
      simp only [List.length_cons, List.length_nil, Nat.zero_add, Nat.reduceAdd] at q3
      simp -dsimp only [push_cast, Nat.reduceAdd, Nat.reduceLeDiff, Nat.reduceBEq, decide_true, ne_eq, eq_self, not_true_eq_false, not_false_eq_true, true_imp_iff, false_imp_iff, Int.reduceNe, Int.reduceEq, Int.reduceLT, Int.reduceLE, Bool.not_true, Bool.not_false, q3]
      refine storeAgg (n := 2) (by kernel_rfl) hRx rfl (by simp) (by simp [hsvv, Value.oneCell']) ?_
      intro w5 hw5
      have sz5 := hw5.size
      have q5 : cellsAt w5 ⟨w1.heap.size, 0, none⟩ 0 2 = some [sv, .slice (some ⟨g, 0, none⟩) c.ins.length gc] := hw5.blk.cellsAt
      simp -dsimp only [push_cast, Nat.reduceAdd, Nat.reduceLeDiff, Nat.reduceBEq, decide_true, ne_eq, eq_self, not_true_eq_false, not_false_eq_true, true_imp_iff, false_imp_iff, Int.reduceNe, Int.reduceEq, Int.reduceLT, Int.reduceLE, Bool.not_true, Bool.not_false, q5]
      have hbx5 : Below w.heap.size w w5 := hbx.trans (hw5.kept.below (by omega) (fun _ h => by omega))
      exact ⟨codeV_own (sets := c.sets) (fun b h => by have := hX b h; omega) (SetsV.below hsvX hbx5) (hox.keptX hw5.kept (fun g' hg' h => by have := hox.block g' hg'; omega)) hsets, hbx5⟩
end Go.Proofs.YtimjpijbcnjaaaaDoor
