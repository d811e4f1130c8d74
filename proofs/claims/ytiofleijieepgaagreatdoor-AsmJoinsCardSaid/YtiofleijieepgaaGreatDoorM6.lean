/- Texts of this claim, merged: At3, At4, At5, EqR, Svd, At6, At7, Cln, Thr, Smp, Pasm9, At8. -/
import Derived.Test.YtiofleijieepgaaGreatDoorM5
import Derived.Test.YtiofleijieepgaaGreatDoorM3
import Derived.Test.YtiofleijieepgaaGreatDoorM1
import Derived.Lib.ItoaLen
section
namespace Go.Proofs.YtiofleijieepgaaGreatDoor
open Go.Vc Go.Proofs Go.RowKit Cae
set_option maxRecDepth 100000
set_option linter.unusedSimpArgs false
set_option linter.unusedVariables false
attribute [local irreducible] wpL callK valK unitK runK Fun Sl Vc.Own vc vcOps opK pureK
set_option maxHeartbeats 4000000
/-- The names of operations. -/
def Nms (w : World) : Prop := ∀ i, i < 6 → w.cell? ⟨1, i, none⟩ = some (str (opName (i : Nat)))
theorem Nms.below {B : Nat} {w w' : World} (h : Nms w) (hb : Below B w w') (hB : 14 ≤ B) : Nms w' := fun i hi => by
  rw [← h i hi]
  have := hb.block 1 (Nat.lt_of_lt_of_le (by decide) hB)
  simp only [World.cell?, this]
theorem below_drewA (w : World) : Below w.heap.size w w.drew := ((Kept.refl (fun _ => False) w).drew).below (Nat.le_refl _) (fun _ h => h.elim)
theorem Db.kept' {B : Nat} {w w' : World} (h : Db w) (hb : Below B w w') (hg : 14 ≤ B) : Db w' := (hb.cell (Nat.lt_of_lt_of_le (by decide) hg)).trans h
theorem codeT_c (B b : Nat) (c : CodeP) (hc : codeRight c = true) (l : List UInt8) (hlen : l.length + (linesT (codeL c)).length ≤ 1000000000) (cv : Value) (w : World) (hU : Bu B b l w) (hcv : CodeV (fun j => B ≤ j) w cv c) (hd : Db w) (hp : Pw w) (hn : Nms w) (hB : B ≤ w.heap.size) (hg : 14 ≤ B) :
    Fun Tryz.prog 33 [.pointer (some ⟨b, 0, none⟩), cv] w fun _ w' => Bu B b (l ++ linesT (codeL c)) w' ∧ BuK B b w w' := by
  obtain ⟨sv, iv, rfl, hsv, hiv⟩ := hcv
  obtain ⟨a1, c1, rfl, hc1⟩ := hsv.shape
  obtain ⟨a2, c2, rfl, hc2⟩ := hiv.shape
  refine fun_of_vc Tryz.func33 rfl (by kernel_rfl) [] rfl ?_
  simp -dsimp (maxSteps := 4000000) only [push_cast, fr0, Tryz.ntmps33, List.length_cons, List.length_nil, Nat.reduceAdd, Nat.reduceSub, Nat.reduceBEq, List.replicate_succ, List.replicate_zero]
  refine boxK_of ?_
  intro w1 hw1
  have B1 := hw1.blk
  have z1 := hw1.size
  have U1 := hU.below hw1.below
  have K1 : BuK B b w w1 := BuK.of_below hw1.below hB
  have d0 : w1.cell? ⟨w.heap.size, 1, none⟩ = some (.slice a2 c.ins.length c2) := B1.cell rfl
  simp -dsimp only [push_cast, Nat.reduceAdd, Nat.reduceLeDiff, Nat.reduceBEq, decide_true, ne_eq, eq_self, not_true_eq_false, not_false_eq_true, true_imp_iff, false_imp_iff, Int.reduceNe, Int.reduceEq, Int.reduceLT, Int.reduceLE, Bool.not_true, Bool.not_false, d0]
  refine wpL_loop [5, 9, 10, 11, 12, 13, 14, 15, 16, 17, 18, 19, 20, 21, 22, 23, 24, 25, 26, 27, 28, 29, 30, 31, 32, 33, 34, 35, 36, 37, 38, 39, 40, 41, 42, 43, 44, 45, 46, 47, 48, 49, 50, 51, 52, 53, 54, 55, 56] (fun z wx => ∃ i : Nat, z 9 = .int .i64 i ∧ i ≤ c.ins.length ∧ Bu B b (l ++ linesT ((c.ins.take i).map (instL c.sets))) wx ∧ BuK B b w1 wx) (fun z _ => c.ins.length - (intOf (z 9)).toNat) ?_ ?_
  · exact ⟨0, rfl, Nat.zero_le _, by simpa [linesT] using U1, BuK.of_below (Below.refl _ _) (by omega)⟩
  · intro z wx hI
    obtain ⟨i, h9, hi, hUx, hKx⟩ := hI
    have zx := hKx.1.size
    simp -dsimp only [push_cast, Nat.reduceAdd, Nat.reduceLeDiff, Nat.reduceBEq, decide_true, ne_eq, eq_self, not_true_eq_false, not_false_eq_true, true_imp_iff, false_imp_iff, Int.reduceNe, Int.reduceEq, Int.reduceLT, Int.reduceLE, Bool.not_true, Bool.not_false, h9]
    refine ⟨fun hlt => ?_, fun hge => ?_⟩
    · obtain ⟨x, hx, hxm, _, ht⟩ := lt_get (l := c.ins) (i := i) (by omega)
      have hwx := (K1.trans hKx).1
      have hivx : Sl (fun j => B ≤ j) 3 (En encIn) wx (.slice a2 c.ins.length c2) c.ins := Sl.mono hiv (fun j hj hlt => hwx.block j (by omega)) (fun _ _ _ h => h) (fun _ h => h)
      have hsvx : SetsV (fun j => B ≤ j) wx (.slice a1 c.sets.length c1) c.sets := hsv.mono (fun j hj hlt => hwx.block j (by omega)) (fun _ h => h)
      obtain ⟨b2, o, rfl, hnb, hcell⟩ := hivx.get hx
      have cx : cellsAt wx ⟨b2, o + i * 3, none⟩ 0 3 = some [.int .i64 x.op, .int .i64 x.a, .int .i64 x.b] := cellsAt_of (encIn x) 0 (fun j u hu => by simpa using hcell j u hu)
      have Bx := hKx.blk B1 (by decide) (by have := hU.lt; omega)
      have hbl := hU.lt
      have hln : (linesT ((c.ins.take i).map (instL c.sets))).length + (instL c.sets x).length + 1 ≤ (linesT (codeL c)).length := by
        have e : codeL c = (c.ins.take i).map (instL c.sets) ++ (instL c.sets x :: (c.ins.drop (i + 1)).map (instL c.sets)) := by
          unfold codeL
          rw [← List.map_cons, ← List.map_append]
          congr 1
          obtain ⟨y, hy, _, hd2, _⟩ := lt_get (l := c.ins) (i := i) (by omega)
          rw [hx] at hy
          cases hy
          rw [← hd2, List.take_append_drop]
        rw [e]
        unfold linesT
        rw [List.flatMap_append, List.flatMap_cons, List.length_append, List.length_append, List.length_append]
        simp
        omega
      have hcp := code_parts hc
      have hcs := ins_cases (hcp.2.1 x hxm) (by omega)
      simp -dsimp only [push_cast, Nat.reduceAdd, Nat.reduceLeDiff, Nat.reduceBEq, decide_true, ne_eq, eq_self, not_true_eq_false, not_false_eq_true, true_imp_iff, false_imp_iff, Int.reduceNe, Int.reduceEq, Int.reduceLT, Int.reduceLE, Bool.not_true, Bool.not_false, cx]
      refine ⟨⟨by omega, by omega⟩, ?_⟩
      refine allocK (z := [.int .i64 0, .int .i64 0, .int .i64 0]) (by kernel_rfl) ?_
      intro w3 hw3
      have z3 := hw3.size
      simp -dsimp only [push_cast, Nat.reduceAdd, Nat.reduceLeDiff, Nat.reduceBEq, decide_true, ne_eq, eq_self, not_true_eq_false, not_false_eq_true, true_imp_iff, false_imp_iff, Int.reduceNe, Int.reduceEq, Int.reduceLT, Int.reduceLE, Bool.not_true, Bool.not_false]
      refine storeAgg (n := 3) (by kernel_rfl) hw3.blk rfl (by simp) (by simp; exact ⟨rfl, rfl, rfl⟩) ?_
      intro w4 hw4
      have z4 := hw4.size
      have B4 := hw4.blk
      have hb4 : Below wx.heap.size wx w4 := hw3.below.trans (hw4.kept.below (B := wx.heap.size) (by omega) (fun i h => by omega))
      have K4 : BuK B b wx w4 := BuK.of_below hb4 (by omega)
      have U4 := hUx.below hb4
      have hw4a := hwx.trans K4.1
      have hn4 := hn.below hw4a hg
      have Bx4 := K4.blk Bx (by decide) (by omega)
      obtain ⟨op, xa, xb⟩ := x
      have hil0 : (opName op).length ≤ (instL c.sets ⟨op, xa, xb⟩).length := by unfold instL; rw [List.length_append]; exact Nat.le_add_right _ _
      rcases hcs with hh | hh | hh | hh | hh
      ·
        simp only at hh
        have h0 := hh.1
        subst h0
        have hil : ([116, 97, 107, 101] : List UInt8).length ≤ (instL c.sets ⟨1, xa, xb⟩).length := hil0
        simp only [List.length_cons, List.length_nil] at hil
        have nm : w4.cell? ⟨1, 1, none⟩ = some (str [116, 97, 107, 101]) := hn4 1 (by decide)
        have d40 : w4.cell? ⟨wx.heap.size, 0, none⟩ = some (.int .i64 1) := B4.cell rfl
        have tn : Int.toNat (1 : Int) = 1 := rfl
        simp -dsimp only [push_cast, Nat.reduceAdd, Nat.reduceLeDiff, Nat.reduceBEq, decide_true, ne_eq, eq_self, not_true_eq_false, not_false_eq_true, true_imp_iff, false_imp_iff, Int.reduceNe, Int.reduceEq, Int.reduceLT, Int.reduceLE, Bool.not_true, Bool.not_false, d40, tn, nm]
        refine ⟨by omega, ?_⟩
        refine callK_of (write_c B b _ [116, 97, 107, 101] w4 U4 (by simp only [List.length_append, List.length_cons, List.length_nil]; omega) (by omega)) ?_
        rintro _ w5 ⟨U5, k5⟩
        have z5 := k5.1.size
        have B5 := k5.blk B4 (by decide) (by omega)
        have d50 : w5.cell? ⟨wx.heap.size, 0, none⟩ = some (.int .i64 1) := B5.cell rfl
        have K5 := K4.trans k5
        obtain ⟨t, ht0, htr, htl⟩ := take_set hc hxm rfl
        simp only at ht0 htl
        have hat : (c.sets)[xa.toNat]? = some t := by rw [List.getElem?_eq_getElem htl, ← ht0, List.getD_eq_getElem?_getD, List.getElem?_eq_getElem htl]; rfl
        have hw5 := hwx.trans K5.1
        have hsv5 : SetsV (fun j => B ≤ j) w5 (.slice a1 c.sets.length c1) c.sets := hsv.mono (fun j hj hlt => hw5.block j (by omega)) (fun _ h => h)
        obtain ⟨b3, o3, cs3, rfl, hX3, hk3, hcell3, u, rfl, hu⟩ := Sl.getR hsv5 hat
        have cu : w5.cell? ⟨b3, o3 + xa.toNat, none⟩ = some u := by simpa using hcell3 0 u rfl
        obtain ⟨a3, c3, rfl, hc3⟩ := hu.shape
        have Bx5 := k5.blk Bx4 (by decide) (by omega)
        have d5s : w5.cell? ⟨w.heap.size, 0, none⟩ = some (.slice (some ⟨b3, o3, none⟩) c.sets.length c1) := Bx5.cell rfl
        have d51 : w5.cell? ⟨wx.heap.size, 1, none⟩ = some (.int .i64 xa) := B5.cell rfl
        have hil2 : (instL c.sets ⟨1, xa, xb⟩).length = 5 + (printP t).length := by
          show ([116, 97, 107, 101] ++ 32 :: printP (c.sets.getD xa.toNat [])).length = _
          rw [ht0]; simp; omega
        simp -dsimp only [push_cast, Nat.reduceAdd, Nat.reduceLeDiff, Nat.reduceBEq, decide_true, ne_eq, eq_self, not_true_eq_false, not_false_eq_true, true_imp_iff, false_imp_iff, Int.reduceNe, Int.reduceEq, Int.reduceLT, Int.reduceLE, Bool.not_true, Bool.not_false, d50, d5s, d51, cu, Nat.mul_one]
        refine ⟨⟨by omega, by omega⟩, ?_⟩
        have htl2 := right_len htr
        refine callK_of (print_c t (by omega) (wr_right (a := -2) (by omega) htr) _ _ w5 hu (hd.kept' hw5 hg)) ?_
        rintro _ w6 ⟨rfl, hb6⟩
        have z6 := hb6.size
        have K6 := K5.trans (BuK.of_below hb6 (by omega))
        have U6 := U5.below hb6
        simp -dsimp only [push_cast, Nat.reduceAdd, Nat.reduceLeDiff, Nat.reduceBEq, decide_true, ne_eq, eq_self, not_true_eq_false, not_false_eq_true, true_imp_iff, false_imp_iff, Int.reduceNe, Int.reduceEq, Int.reduceLT, Int.reduceLE, Bool.not_true, Bool.not_false]
        refine ⟨by omega, ?_⟩
        refine callK_of (write_c B b _ (32 :: printP t) w6 U6 (by simp only [List.length_append, List.length_cons, List.length_nil]; omega) (by omega)) ?_
        rintro _ w7 ⟨U7, k7⟩
        have z7 := k7.1.size
        have K7 := K6.trans k7
        simp -dsimp only [push_cast, Nat.reduceAdd, Nat.reduceLeDiff, Nat.reduceBEq, decide_true, ne_eq, eq_self, not_true_eq_false, not_false_eq_true, true_imp_iff, false_imp_iff, Int.reduceNe, Int.reduceEq, Int.reduceLT, Int.reduceLE, Bool.not_true, Bool.not_false]
        refine callK_of (write_c B b _ [10] w7 U7 (by simp only [List.length_append, List.length_cons, List.length_nil]; omega) (by omega)) ?_
        rintro _ w9 ⟨U9, k9⟩
        simp -dsimp only [push_cast, Nat.reduceAdd, Nat.reduceLeDiff, Nat.reduceBEq, decide_true, ne_eq, eq_self, not_true_eq_false, not_false_eq_true, true_imp_iff, false_imp_iff, Int.reduceNe, Int.reduceEq, Int.reduceLT, Int.reduceLE, Bool.not_true, Bool.not_false]
        refine ⟨⟨by omega, by omega⟩, ⟨i + 1, rfl, by omega, ?_, hKx.trans ((K7).trans k9)⟩, by rw [h9]; simp only [intOf]; omega⟩
        rw [ht, List.map_append, List.map_singleton]
        have eI : instL c.sets ⟨1, xa, xb⟩ = [116, 97, 107, 101] ++ 32 :: printP t := by
          show [116, 97, 107, 101] ++ 32 :: printP (c.sets.getD xa.toNat []) = _
          rw [ht0]
        rw [eI]
        simpa [linesT, List.append_assoc] using U9
      ·
        simp only at hh
        have h0 := hh.1
        subst h0
        have hil : ([115, 112, 108, 105, 116] : List UInt8).length ≤ (instL c.sets ⟨2, xa, xb⟩).length := hil0
        simp only [List.length_cons, List.length_nil] at hil
        have nm : w4.cell? ⟨1, 2, none⟩ = some (str [115, 112, 108, 105, 116]) := hn4 2 (by decide)
        have d40 : w4.cell? ⟨wx.heap.size, 0, none⟩ = some (.int .i64 2) := B4.cell rfl
        have tn : Int.toNat (2 : Int) = 2 := rfl
        simp -dsimp only [push_cast, Nat.reduceAdd, Nat.reduceLeDiff, Nat.reduceBEq, decide_true, ne_eq, eq_self, not_true_eq_false, not_false_eq_true, true_imp_iff, false_imp_iff, Int.reduceNe, Int.reduceEq, Int.reduceLT, Int.reduceLE, Bool.not_true, Bool.not_false, d40, tn, nm]
        refine ⟨by omega, ?_⟩
        refine callK_of (write_c B b _ [115, 112, 108, 105, 116] w4 U4 (by simp only [List.length_append, List.length_cons, List.length_nil]; omega) (by omega)) ?_
        rintro _ w5 ⟨U5, k5⟩
        have z5 := k5.1.size
        have B5 := k5.blk B4 (by decide) (by omega)
        have d50 : w5.cell? ⟨wx.heap.size, 0, none⟩ = some (.int .i64 2) := B5.cell rfl
        have K5 := K4.trans k5
        simp -dsimp only [push_cast, Nat.reduceAdd, Nat.reduceLeDiff, Nat.reduceBEq, decide_true, ne_eq, eq_self, not_true_eq_false, not_false_eq_true, true_imp_iff, false_imp_iff, Int.reduceNe, Int.reduceEq, Int.reduceLT, Int.reduceLE, Bool.not_true, Bool.not_false, d50]
        have hil2 : (instL c.sets ⟨2, xa, xb⟩).length = 7 + (itoaT xa).length + (itoaT xb).length := by
          show ([115, 112, 108, 105, 116] ++ 32 :: (itoaT xa ++ 32 :: itoaT xb)).length = _
          simp; omega
        have Bd := B5.drew
        have e1 : ∀ w'', Below w5.drew.heap.size w5.drew w'' → w''.cell? ⟨wx.heap.size, 1, none⟩ = some (.int .i64 xa) := fun w'' h => (Bd.below h Bd.lt).cell rfl
        have e2 : ∀ w'', Below w5.drew.heap.size w5.drew w'' → w''.cell? ⟨wx.heap.size, 2, none⟩ = some (.int .i64 xb) := fun w'' h => (Bd.below h Bd.lt).cell rfl
        have hr := Below.refl w5.drew.heap.size w5.drew
        refine wpL_lastN (fun w' => Below w5.drew.heap.size w5.drew w') mixed (by kernel_rfl) (by simp) (Below.refl _ _) ?_
        simp -dsimp only [push_cast, Nat.reduceAdd, Nat.reduceLeDiff, Nat.reduceBEq, decide_true, ne_eq, eq_self, not_true_eq_false, not_false_eq_true, true_imp_iff, false_imp_iff, Int.reduceNe, Int.reduceEq, Int.reduceLT, Int.reduceLE, Bool.not_true, Bool.not_false, e1 _ hr]
        refine ⟨fun w'' h => by rw [e1 _ h]; exact rfl, ?_⟩
        have hd5 : Below B w w5.drew := (hwx.trans K5.1).trans ((below_drewA w5).mono (by omega))
        refine callK_of (itoaN_c xa (by omega) (by omega) w5.drew (hp.below hd5 hg)) ?_
        rintro _ w6 ⟨rfl, hb6⟩
        refine ⟨hb6, ?_⟩
        have z6 : w5.heap.size ≤ w6.heap.size := hb6.size
        simp -dsimp only [push_cast, Nat.reduceAdd, Nat.reduceLeDiff, Nat.reduceBEq, decide_true, ne_eq, eq_self, not_true_eq_false, not_false_eq_true, true_imp_iff, false_imp_iff, Int.reduceNe, Int.reduceEq, Int.reduceLT, Int.reduceLE, Bool.not_true, Bool.not_false, e2 _ hb6]
        simp only [List.length_append, List.length_cons, List.length_nil]
        refine ⟨by omega, by omega, fun w'' h => by rw [e2 _ h]; exact rfl, ?_⟩
        refine callK_of (itoaN_c xb (by omega) (by omega) w6 (hp.below (hd5.trans (hb6.mono (by show B ≤ w5.heap.size; omega))) hg)) ?_
        rintro _ w7 ⟨rfl, hb7⟩
        have hb67 := hb6.trans (hb7.mono hb6.size)
        refine ⟨hb67, ?_⟩
        have z7 : w6.heap.size ≤ w7.heap.size := hb7.size
        have hb57 : Below w5.heap.size w5 w7 := (below_drewA w5).trans hb67
        have K7 := K5.trans (BuK.of_below hb57 (by omega))
        have U7 := U5.below hb57
        simp -dsimp only [push_cast, Nat.reduceAdd, Nat.reduceLeDiff, Nat.reduceBEq, decide_true, ne_eq, eq_self, not_true_eq_false, not_false_eq_true, true_imp_iff, false_imp_iff, Int.reduceNe, Int.reduceEq, Int.reduceLT, Int.reduceLE, Bool.not_true, Bool.not_false]
        simp only [List.length_append, List.length_cons, List.length_nil]
        refine ⟨by omega, ?_⟩
        have es : [32] ++ itoaT xa ++ [32] ++ itoaT xb = 32 :: (itoaT xa ++ 32 :: itoaT xb) := by simp
        rw [es]
        refine callK_of (write_c B b _ (32 :: (itoaT xa ++ 32 :: itoaT xb)) w7 U7 (by simp only [List.length_append, List.length_cons, List.length_nil]; omega) (by omega)) ?_
        rintro _ w8 ⟨U8, k8⟩
        refine ⟨trivial, ?_⟩
        have z8 := k8.1.size
        have K8 := K7.trans k8
        simp -dsimp only [push_cast, Nat.reduceAdd, Nat.reduceLeDiff, Nat.reduceBEq, decide_true, ne_eq, eq_self, not_true_eq_false, not_false_eq_true, true_imp_iff, false_imp_iff, Int.reduceNe, Int.reduceEq, Int.reduceLT, Int.reduceLE, Bool.not_true, Bool.not_false]
        refine callK_of (write_c B b _ [10] w8 U8 (by simp only [List.length_append, List.length_cons, List.length_nil]; omega) (by omega)) ?_
        rintro _ w9 ⟨U9, k9⟩
        simp -dsimp only [push_cast, Nat.reduceAdd, Nat.reduceLeDiff, Nat.reduceBEq, decide_true, ne_eq, eq_self, not_true_eq_false, not_false_eq_true, true_imp_iff, false_imp_iff, Int.reduceNe, Int.reduceEq, Int.reduceLT, Int.reduceLE, Bool.not_true, Bool.not_false]
        refine ⟨⟨by omega, by omega⟩, ⟨i + 1, rfl, by omega, ?_, hKx.trans ((K8).trans k9)⟩, by rw [h9]; simp only [intOf]; omega⟩
        rw [ht, List.map_append, List.map_singleton]
        simpa [linesT, instL, opName, List.append_assoc] using U9
      ·
        simp only at hh
        have h0 := hh.1
        subst h0
        have hil : ([106, 117, 109, 112] : List UInt8).length ≤ (instL c.sets ⟨3, xa, xb⟩).length := hil0
        simp only [List.length_cons, List.length_nil] at hil
        have nm : w4.cell? ⟨1, 3, none⟩ = some (str [106, 117, 109, 112]) := hn4 3 (by decide)
        have d40 : w4.cell? ⟨wx.heap.size, 0, none⟩ = some (.int .i64 3) := B4.cell rfl
        have tn : Int.toNat (3 : Int) = 3 := rfl
        simp -dsimp only [push_cast, Nat.reduceAdd, Nat.reduceLeDiff, Nat.reduceBEq, decide_true, ne_eq, eq_self, not_true_eq_false, not_false_eq_true, true_imp_iff, false_imp_iff, Int.reduceNe, Int.reduceEq, Int.reduceLT, Int.reduceLE, Bool.not_true, Bool.not_false, d40, tn, nm]
        refine ⟨by omega, ?_⟩
        refine callK_of (write_c B b _ [106, 117, 109, 112] w4 U4 (by simp only [List.length_append, List.length_cons, List.length_nil]; omega) (by omega)) ?_
        rintro _ w5 ⟨U5, k5⟩
        have z5 := k5.1.size
        have B5 := k5.blk B4 (by decide) (by omega)
        have d50 : w5.cell? ⟨wx.heap.size, 0, none⟩ = some (.int .i64 3) := B5.cell rfl
        have K5 := K4.trans k5
        have d51 : w5.cell? ⟨wx.heap.size, 1, none⟩ = some (.int .i64 xa) := B5.cell rfl
        have hil2 : (instL c.sets ⟨3, xa, xb⟩).length = 5 + (itoaT xa).length := by
          show ([106, 117, 109, 112] ++ 32 :: itoaT xa).length = _
          simp; omega
        simp -dsimp only [push_cast, Nat.reduceAdd, Nat.reduceLeDiff, Nat.reduceBEq, decide_true, ne_eq, eq_self, not_true_eq_false, not_false_eq_true, true_imp_iff, false_imp_iff, Int.reduceNe, Int.reduceEq, Int.reduceLT, Int.reduceLE, Bool.not_true, Bool.not_false, d50, d51]
        refine callK_of (itoaN_c xa (by omega) (by omega) w5 (hp.below (hwx.trans K5.1) hg)) ?_
        rintro _ w6 ⟨rfl, hb6⟩
        have z6 := hb6.size
        have K6 := K5.trans (BuK.of_below hb6 (by omega))
        have U6 := U5.below hb6
        simp -dsimp only [push_cast, Nat.reduceAdd, Nat.reduceLeDiff, Nat.reduceBEq, decide_true, ne_eq, eq_self, not_true_eq_false, not_false_eq_true, true_imp_iff, false_imp_iff, Int.reduceNe, Int.reduceEq, Int.reduceLT, Int.reduceLE, Bool.not_true, Bool.not_false]
        refine ⟨by omega, ?_⟩
        refine callK_of (write_c B b _ (32 :: itoaT xa) w6 U6 (by simp only [List.length_append, List.length_cons, List.length_nil]; omega) (by omega)) ?_
        rintro _ w7 ⟨U7, k7⟩
        have z7 := k7.1.size
        have K7 := K6.trans k7
        simp -dsimp only [push_cast, Nat.reduceAdd, Nat.reduceLeDiff, Nat.reduceBEq, decide_true, ne_eq, eq_self, not_true_eq_false, not_false_eq_true, true_imp_iff, false_imp_iff, Int.reduceNe, Int.reduceEq, Int.reduceLT, Int.reduceLE, Bool.not_true, Bool.not_false]
        refine callK_of (write_c B b _ [10] w7 U7 (by simp only [List.length_append, List.length_cons, List.length_nil]; omega) (by omega)) ?_
        rintro _ w9 ⟨U9, k9⟩
        simp -dsimp only [push_cast, Nat.reduceAdd, Nat.reduceLeDiff, Nat.reduceBEq, decide_true, ne_eq, eq_self, not_true_eq_false, not_false_eq_true, true_imp_iff, false_imp_iff, Int.reduceNe, Int.reduceEq, Int.reduceLT, Int.reduceLE, Bool.not_true, Bool.not_false]
        refine ⟨⟨by omega, by omega⟩, ⟨i + 1, rfl, by omega, ?_, hKx.trans ((K7).trans k9)⟩, by rw [h9]; simp only [intOf]; omega⟩
        rw [ht, List.map_append, List.map_singleton]
        simpa [linesT, instL, opName, List.append_assoc] using U9
      ·
        simp only at hh
        have h0 := hh.1
        subst h0
        have hil : ([101, 110, 100] : List UInt8).length ≤ (instL c.sets ⟨4, xa, xb⟩).length := hil0
        simp only [List.length_cons, List.length_nil] at hil
        have nm : w4.cell? ⟨1, 4, none⟩ = some (str [101, 110, 100]) := hn4 4 (by decide)
        have d40 : w4.cell? ⟨wx.heap.size, 0, none⟩ = some (.int .i64 4) := B4.cell rfl
        have tn : Int.toNat (4 : Int) = 4 := rfl
        simp -dsimp only [push_cast, Nat.reduceAdd, Nat.reduceLeDiff, Nat.reduceBEq, decide_true, ne_eq, eq_self, not_true_eq_false, not_false_eq_true, true_imp_iff, false_imp_iff, Int.reduceNe, Int.reduceEq, Int.reduceLT, Int.reduceLE, Bool.not_true, Bool.not_false, d40, tn, nm]
        refine ⟨by omega, ?_⟩
        refine callK_of (write_c B b _ [101, 110, 100] w4 U4 (by simp only [List.length_append, List.length_cons, List.length_nil]; omega) (by omega)) ?_
        rintro _ w5 ⟨U5, k5⟩
        have z5 := k5.1.size
        have B5 := k5.blk B4 (by decide) (by omega)
        have d50 : w5.cell? ⟨wx.heap.size, 0, none⟩ = some (.int .i64 4) := B5.cell rfl
        have K5 := K4.trans k5
        simp -dsimp only [push_cast, Nat.reduceAdd, Nat.reduceLeDiff, Nat.reduceBEq, decide_true, ne_eq, eq_self, not_true_eq_false, not_false_eq_true, true_imp_iff, false_imp_iff, Int.reduceNe, Int.reduceEq, Int.reduceLT, Int.reduceLE, Bool.not_true, Bool.not_false, d50]
        refine callK_of (write_c B b _ [10] w5 U5 (by simp only [List.length_append, List.length_cons, List.length_nil]; omega) (by omega)) ?_
        rintro _ w9 ⟨U9, k9⟩
        simp -dsimp only [push_cast, Nat.reduceAdd, Nat.reduceLeDiff, Nat.reduceBEq, decide_true, ne_eq, eq_self, not_true_eq_false, not_false_eq_true, true_imp_iff, false_imp_iff, Int.reduceNe, Int.reduceEq, Int.reduceLT, Int.reduceLE, Bool.not_true, Bool.not_false]
        refine ⟨⟨by omega, by omega⟩, ⟨i + 1, rfl, by omega, ?_, hKx.trans ((K5).trans k9)⟩, by rw [h9]; simp only [intOf]; omega⟩
        rw [ht, List.map_append, List.map_singleton]
        simpa [linesT, instL, opName, List.append_assoc] using U9
      ·
        simp only at hh
        have h0 := hh.1
        subst h0
        have hil : ([121, 101, 115] : List UInt8).length ≤ (instL c.sets ⟨5, xa, xb⟩).length := hil0
        simp only [List.length_cons, List.length_nil] at hil
        have nm : w4.cell? ⟨1, 5, none⟩ = some (str [121, 101, 115]) := hn4 5 (by decide)
        have d40 : w4.cell? ⟨wx.heap.size, 0, none⟩ = some (.int .i64 5) := B4.cell rfl
        have tn : Int.toNat (5 : Int) = 5 := rfl
        simp -dsimp only [push_cast, Nat.reduceAdd, Nat.reduceLeDiff, Nat.reduceBEq, decide_true, ne_eq, eq_self, not_true_eq_false, not_false_eq_true, true_imp_iff, false_imp_iff, Int.reduceNe, Int.reduceEq, Int.reduceLT, Int.reduceLE, Bool.not_true, Bool.not_false, d40, tn, nm]
        refine ⟨by omega, ?_⟩
        refine callK_of (write_c B b _ [121, 101, 115] w4 U4 (by simp only [List.length_append, List.length_cons, List.length_nil]; omega) (by omega)) ?_
        rintro _ w5 ⟨U5, k5⟩
        have z5 := k5.1.size
        have B5 := k5.blk B4 (by decide) (by omega)
        have d50 : w5.cell? ⟨wx.heap.size, 0, none⟩ = some (.int .i64 5) := B5.cell rfl
        have K5 := K4.trans k5
        simp -dsimp only [push_cast, Nat.reduceAdd, Nat.reduceLeDiff, Nat.reduceBEq, decide_true, ne_eq, eq_self, not_true_eq_false, not_false_eq_true, true_imp_iff, false_imp_iff, Int.reduceNe, Int.reduceEq, Int.reduceLT, Int.reduceLE, Bool.not_true, Bool.not_false, d50]
        refine callK_of (write_c B b _ [10] w5 U5 (by simp only [List.length_append, List.length_cons, List.length_nil]; omega) (by omega)) ?_
        rintro _ w9 ⟨U9, k9⟩
        simp -dsimp only [push_cast, Nat.reduceAdd, Nat.reduceLeDiff, Nat.reduceBEq, decide_true, ne_eq, eq_self, not_true_eq_false, not_false_eq_true, true_imp_iff, false_imp_iff, Int.reduceNe, Int.reduceEq, Int.reduceLT, Int.reduceLE, Bool.not_true, Bool.not_false]
        refine ⟨⟨by omega, by omega⟩, ⟨i + 1, rfl, by omega, ?_, hKx.trans ((K5).trans k9)⟩, by rw [h9]; simp only [intOf]; omega⟩
        rw [ht, List.map_append, List.map_singleton]
        simpa [linesT, instL, opName, List.append_assoc] using U9
    · have hin : i = c.ins.length := by omega
      subst hin
      rw [List.take_length] at hUx
      exact ⟨hUx, K1.trans hKx⟩
end Go.Proofs.YtiofleijieepgaaGreatDoor
end
section
namespace Go.Proofs.YtiofleijieepgaaGreatDoor
open Go.Vc Go.Proofs Go.RowKit Cae
set_option maxRecDepth 100000
set_option linter.unusedSimpArgs false
set_option linter.unusedVariables false
attribute [local irreducible] wpL callK valK unitK runK Fun Sl Vc.Own vc vcOps opK pureK
set_option maxHeartbeats 4000000
theorem linesT_app (a b : List (List UInt8)) : linesT (a ++ b) = linesT a ++ linesT b := by simp [linesT]
theorem asmPrint_c (p : ProgP) (hl : ProgLen p) (hlen0 : progRight p = true → (progT p).length ≤ 1000000000) (X : Nat → Prop) (v : Value) (w : World) (hv : ProgV X w v p) (hd : Db w) (hp : Pw w) (hn : Nms w) (hg : 14 ≤ w.heap.size) :
    Fun Tryz.prog 9 [v] w fun r w' => r = (if progRight p = true then .tuple #[str (progT p), .nilIface] else .tuple #[str [], .iface 47 (.int .i64 1)]) ∧ Below w.heap.size w w' := by
  obtain ⟨rv, rfl, hr⟩ := hv
  obtain ⟨a, c, rfl, hc⟩ := hr.shape
  refine fun_of_vc Tryz.func9 rfl (by kernel_rfl) [2, 3] rfl ?_
  simp -dsimp (maxSteps := 4000000) only [push_cast, fr0, Tryz.ntmps9, List.length_cons, List.length_nil, Nat.reduceAdd, Nat.reduceSub, Nat.reduceBEq, List.replicate_succ, List.replicate_zero]
  refine boxK_of ?_
  intro w1 hw1
  have hw1 : New w w1 24 [.slice a p.rules.length c, .bool p.els] := hw1
  have z1 := hw1.size
  have B1 := hw1.blk
  have hb1 := hw1.below
  have d1 : cellsAt w1 ⟨w.heap.size, 0, none⟩ 0 2 = some [.slice a p.rules.length c, .bool p.els] := hw1.blk.cellsAt
  simp -dsimp only [push_cast, Nat.reduceAdd, Nat.reduceLeDiff, Nat.reduceBEq, decide_true, ne_eq, eq_self, not_true_eq_false, not_false_eq_true, true_imp_iff, false_imp_iff, Int.reduceNe, Int.reduceEq, Int.reduceLT, Int.reduceLE, Bool.not_true, Bool.not_false, d1]
  refine callK_of (rightProgram_c p hl X _ w1 ⟨_, rfl, PairsV.below hr hb1⟩) ?_
  rintro _ w2 ⟨rfl, hb2⟩
  have z2 := hb2.size
  have hbw2 := hb1.trans (hb2.mono (by omega))
  cases hR : progRight p with
  | false =>
    simp -dsimp only [push_cast, Nat.reduceAdd, Nat.reduceLeDiff, Nat.reduceBEq, decide_true, ne_eq, eq_self, not_true_eq_false, not_false_eq_true, true_imp_iff, false_imp_iff, Int.reduceNe, Int.reduceEq, Int.reduceLT, Int.reduceLE, Bool.not_true, Bool.not_false]
    exact ⟨by simp, hbw2⟩
  | true =>
    have hlen := hlen0 hR
    have hok := (right_parts hR).2
    have h20 := (right_parts hR).1
    have B2 := B1.below hb2 B1.lt
    simp -dsimp only [push_cast, Nat.reduceAdd, Nat.reduceLeDiff, Nat.reduceBEq, decide_true, ne_eq, eq_self, not_true_eq_false, not_false_eq_true, true_imp_iff, false_imp_iff, Int.reduceNe, Int.reduceEq, Int.reduceLT, Int.reduceLE, Bool.not_true, Bool.not_false]
    refine allocK (z := [.pointer none, .slice none 0 0]) (by kernel_rfl) ?_
    intro w3 hw3
    have z3 := hw3.size
    have hbw3 := hbw2.trans (hw3.below.mono (by omega))
    have U3 : Bu w2.heap.size w2.heap.size [] w3 := Bu.fresh hw3 rfl _ (Nat.le_refl _)
    have B3 := B2.below hw3.below B2.lt
    have d3 : w3.cell? ⟨w.heap.size, 0, none⟩ = some (.slice a p.rules.length c) := B3.cell rfl
    have hr3 : Sl (fun j => w2.heap.size ≤ j) 5 (PairR (fun j => w2.heap.size ≤ j) w3) w3 (.slice a p.rules.length c) p.rules := by
      have h1 : ProgV (fun j => w.heap.size ≤ j) w (.agg #[.slice a p.rules.length c, .bool p.els]) p := ProgV.narrow ⟨_, rfl, hr⟩ (fun b hb hh => by omega)
      obtain ⟨rv', e, h2⟩ := h1
      cases e
      exact PairsV.mono h2 (fun j hj hlt => hbw3.block j hlt) (fun j hj => by omega)
    simp -dsimp only [push_cast, Nat.reduceAdd, Nat.reduceLeDiff, Nat.reduceBEq, decide_true, ne_eq, eq_self, not_true_eq_false, not_false_eq_true, true_imp_iff, false_imp_iff, Int.reduceNe, Int.reduceEq, Int.reduceLT, Int.reduceLE, Bool.not_true, Bool.not_false, d3]
    refine wpL_loop [6, 14, 15, 16, 17, 18, 19, 20, 21, 22, 23, 24, 25, 26, 27, 28, 29, 30, 31] (fun z wx => ∃ i : Nat, z 14 = .int .i64 i ∧ i ≤ p.rules.length ∧ Bu w2.heap.size w2.heap.size (linesT ((p.rules.take i).flatMap pairL)) wx ∧ BuK w2.heap.size w2.heap.size w3 wx) (fun z _ => p.rules.length - (intOf (z 14)).toNat) ?_ ?_
    · exact ⟨0, rfl, Nat.zero_le _, U3, BuK.of_below (Below.refl _ _) (by omega)⟩
    · intro z wx hI
      obtain ⟨i, h14, hi, hUx, hKx⟩ := hI
      have zx := hKx.1.size
      have hbwx : Below w.heap.size w wx := hbw3.trans (hKx.1.mono (by omega))
      have hKw : Below w2.heap.size w3 wx := hKx.1
      simp -dsimp only [push_cast, Nat.reduceAdd, Nat.reduceLeDiff, Nat.reduceBEq, decide_true, ne_eq, eq_self, not_true_eq_false, not_false_eq_true, true_imp_iff, false_imp_iff, Int.reduceNe, Int.reduceEq, Int.reduceLT, Int.reduceLE, Bool.not_true, Bool.not_false, h14]
      refine ⟨fun hlt => ?_, fun hge => ?_⟩
      · obtain ⟨x, hx, hxm, _, ht⟩ := lt_get (l := p.rules) (i := i) (by omega)
        have hrx : Sl (fun j => w2.heap.size ≤ j) 5 (PairR (fun j => w2.heap.size ≤ j) wx) wx (.slice a p.rules.length c) p.rules := PairsV.mono hr3 (fun j hj hlt => hKw.block j (by omega)) (fun _ h => h)
        obtain ⟨b2, o, cs, rfl, hnb, hk5, hcell, s1, i1, s2, i2, rfl, hv1, hv2⟩ := Sl.getR hrx hx
        have cx : cellsAt wx ⟨b2, o + i * 5, none⟩ 0 5 = some [.bool x.brk, s1, i1, s2, i2] := cellsAt_of _ 0 (fun j u hu => by simpa using hcell j u hu)
        simp -dsimp only [push_cast, Nat.reduceAdd, Nat.reduceLeDiff, Nat.reduceBEq, decide_true, ne_eq, eq_self, not_true_eq_false, not_false_eq_true, true_imp_iff, false_imp_iff, Int.reduceNe, Int.reduceEq, Int.reduceLT, Int.reduceLE, Bool.not_true, Bool.not_false, cx]
        refine ⟨⟨by omega, by omega⟩, ?_⟩
        have hv1' := hv1
        have hv2' := hv2
        obtain ⟨sv1, iv1, e1, hs1, hi1⟩ := hv1'
        simp only [Value.agg.injEq, Array.mk.injEq, List.cons.injEq, and_true] at e1
        obtain ⟨rfl, rfl⟩ := e1
        obtain ⟨sv2, iv2, e2, hs2, hi2⟩ := hv2'
        simp only [Value.agg.injEq, Array.mk.injEq, List.cons.injEq, and_true] at e2
        obtain ⟨rfl, rfl⟩ := e2
        obtain ⟨a1, c1, rfl, hc1⟩ := hs1.shape
        obtain ⟨a2, c2, rfl, hc2⟩ := hi1.shape
        obtain ⟨a3, c3, rfl, hc3⟩ := hs2.shape
        obtain ⟨a4, c4, rfl, hc4⟩ := hi2.shape
        have hxo := hok x hxm
        have hls : (linesT ((p.rules.take i).flatMap pairL)).length + (linesT (pairL x)).length + 20 ≤ (progT p).length + 20 := by
          have hsp : p.rules = p.rules.take (i + 1) ++ p.rules.drop (i + 1) := (List.take_append_drop _ _).symm
          rw [progT_eq, List.length_append]
          unfold rulesT
          conv => rhs; rw [hsp]
          rw [ht, List.flatMap_append, List.flatMap_append, List.flatMap_singleton, linesT_app, linesT_app]
          simp only [List.length_append]
          omega
        have hpx : linesT (pairL x) = (ruleW ++ wordT x.brk ++ [10]) ++ (linesT (codeL x.before) ++ ((afterW ++ [10]) ++ linesT (codeL x.after))) := by simp [pairL, linesT]
        have hpl : (linesT (pairL x)).length = (ruleW ++ wordT x.brk ++ [10]).length + ((linesT (codeL x.before)).length + (6 + (linesT (codeL x.after)).length)) := by
          have ha : afterW.length = 5 := rfl
          rw [hpx]
          simp only [List.length_append, List.length_singleton]
          omega
        have hwl : (wordT x.brk).length ≤ 5 := by cases x.brk <;> decide
        refine allocK (z := [.bool false, .slice none 0 0, .slice none 0 0, .slice none 0 0, .slice none 0 0]) (by kernel_rfl) ?_
        intro w4 hw4
        have z4 := hw4.size
        simp -dsimp only [push_cast, Nat.reduceAdd, Nat.reduceLeDiff, Nat.reduceBEq, decide_true, ne_eq, eq_self, not_true_eq_false, not_false_eq_true, true_imp_iff, false_imp_iff, Int.reduceNe, Int.reduceEq, Int.reduceLT, Int.reduceLE, Bool.not_true, Bool.not_false]
        refine storeAgg (n := 5) (by kernel_rfl) hw4.blk rfl (by simp) (by simp; exact ⟨rfl, rfl, rfl, rfl, rfl⟩) ?_
        intro w5 hw5
        have z5 := hw5.size
        have B5 := hw5.blk
        have hb5 : Below wx.heap.size wx w5 := hw4.below.trans (hw5.kept.below (B := wx.heap.size) (by omega) (fun i h => by omega))
        have K5 : BuK w2.heap.size w2.heap.size wx w5 := BuK.of_below hb5 (by omega)
        have U5 := hUx.below hb5
        have d50 : w5.cell? ⟨wx.heap.size, 0, none⟩ = some (.bool x.brk) := B5.cell rfl
        simp -dsimp only [push_cast, Nat.reduceAdd, Nat.reduceLeDiff, Nat.reduceBEq, decide_true, ne_eq, eq_self, not_true_eq_false, not_false_eq_true, true_imp_iff, false_imp_iff, Int.reduceNe, Int.reduceEq, Int.reduceLT, Int.reduceLE, Bool.not_true, Bool.not_false, d50]
        refine callK_of (word_c x.brk w5) ?_
        rintro _ w5' ⟨rfl, hw5e⟩
        obtain rfl : w5 = w5' := hw5e.symm
        simp -dsimp only [push_cast, Nat.reduceAdd, Nat.reduceLeDiff, Nat.reduceBEq, decide_true, ne_eq, eq_self, not_true_eq_false, not_false_eq_true, true_imp_iff, false_imp_iff, Int.reduceNe, Int.reduceEq, Int.reduceLT, Int.reduceLE, Bool.not_true, Bool.not_false]
        simp only [List.length_append, List.length_cons, List.length_nil]
        refine ⟨by omega, by omega, ?_⟩
        have hrl : (ruleW ++ wordT x.brk ++ [10]).length ≤ 20 := by simp [ruleW]; omega
        refine callK_of (write_c _ _ _ (ruleW ++ wordT x.brk ++ [10]) w5 U5 (by omega) (by omega)) ?_
        rintro _ w6 ⟨U6, k6⟩
        have z6 := k6.1.size
        have K6 := K5.trans k6
        have B6 := k6.blk B5 (by decide) (by omega)
        have d61 : cellsAt w6 ⟨wx.heap.size, 1, none⟩ 0 2 = some [.slice a1 x.before.sets.length c1, .slice a2 x.before.ins.length c2] := blkSome B6 1 rfl rfl
        have hK06 : Below w2.heap.size wx w6 := K6.1
        have hv16 : CodeV (fun j => w2.heap.size ≤ j) w6 (.agg #[.slice a1 x.before.sets.length c1, .slice a2 x.before.ins.length c2]) x.before := hv1.mono (fun j hj hlt => hK06.block j (by omega)) (fun _ h => h)
        have hw6 : Below w.heap.size w w6 := hbwx.trans (hK06.mono (by omega))
        simp -dsimp only [push_cast, Nat.reduceAdd, Nat.reduceLeDiff, Nat.reduceBEq, decide_true, ne_eq, eq_self, not_true_eq_false, not_false_eq_true, true_imp_iff, false_imp_iff, Int.reduceNe, Int.reduceEq, Int.reduceLT, Int.reduceLE, Bool.not_true, Bool.not_false, d61]
        refine callK_of (codeT_c _ _ x.before hxo.1 _ (by simp only [List.length_append] at *; omega) _ w6 U6 hv16 (hd.kept' hw6 hg) (hp.below hw6 hg) (hn.below hw6 hg) (by omega) (by omega)) ?_
        rintro _ w7 ⟨U7, k7⟩
        have z7 := k7.1.size
        have K7 := K6.trans k7
        have B7 := k7.blk B6 (by decide) (by omega)
        simp -dsimp only [push_cast, Nat.reduceAdd, Nat.reduceLeDiff, Nat.reduceBEq, decide_true, ne_eq, eq_self, not_true_eq_false, not_false_eq_true, true_imp_iff, false_imp_iff, Int.reduceNe, Int.reduceEq, Int.reduceLT, Int.reduceLE, Bool.not_true, Bool.not_false]
        refine callK_of (write_c _ _ _ (afterW ++ [10]) w7 U7 (by simp only [List.length_append] at *; show _ + 6 ≤ _; omega) (by omega)) ?_
        rintro _ w8 ⟨U8, k8⟩
        have z8 := k8.1.size
        have K8 := K7.trans k8
        have B8 := k8.blk B7 (by decide) (by omega)
        have d83 : cellsAt w8 ⟨wx.heap.size, 3, none⟩ 0 2 = some [.slice a3 x.after.sets.length c3, .slice a4 x.after.ins.length c4] := blkSome B8 3 rfl rfl
        have hK08 : Below w2.heap.size wx w8 := K8.1
        have hv28 : CodeV (fun j => w2.heap.size ≤ j) w8 (.agg #[.slice a3 x.after.sets.length c3, .slice a4 x.after.ins.length c4]) x.after := hv2.mono (fun j hj hlt => hK08.block j (by omega)) (fun _ h => h)
        have hw8 : Below w.heap.size w w8 := hbwx.trans (hK08.mono (by omega))
        simp -dsimp only [push_cast, Nat.reduceAdd, Nat.reduceLeDiff, Nat.reduceBEq, decide_true, ne_eq, eq_self, not_true_eq_false, not_false_eq_true, true_imp_iff, false_imp_iff, Int.reduceNe, Int.reduceEq, Int.reduceLT, Int.reduceLE, Bool.not_true, Bool.not_false, d83]
        refine callK_of (codeT_c _ _ x.after hxo.2 _ (by simp only [List.length_append] at *; show _ + 6 + _ ≤ _; omega) _ w8 U8 hv28 (hd.kept' hw8 hg) (hp.below hw8 hg) (hn.below hw8 hg) (by omega) (by omega)) ?_
        rintro _ w9 ⟨U9, k9⟩
        have K9 := K8.trans k9
        simp -dsimp only [push_cast, Nat.reduceAdd, Nat.reduceLeDiff, Nat.reduceBEq, decide_true, ne_eq, eq_self, not_true_eq_false, not_false_eq_true, true_imp_iff, false_imp_iff, Int.reduceNe, Int.reduceEq, Int.reduceLT, Int.reduceLE, Bool.not_true, Bool.not_false]
        refine ⟨⟨by omega, by omega⟩, ⟨i + 1, rfl, by omega, ?_, hKx.trans K9⟩, by rw [h14]; simp only [intOf]; omega⟩
        rw [ht, List.flatMap_append, List.flatMap_singleton, linesT_app, hpx]
        simpa [List.append_assoc] using U9
      · have hin : i = p.rules.length := by omega
        subst hin
        rw [List.take_length] at hUx
        have Bx : Blk wx w.heap.size 24 [.slice a p.rules.length c, .bool p.els] := hKx.blk B3 (by decide) (by omega)
        have dx1 : wx.cell? ⟨w.heap.size, 1, none⟩ = some (.bool p.els) := Bx.cell rfl
        have hwl : (wordT p.els).length ≤ 5 := by cases p.els <;> decide
        have hpt := progT_eq p
        have hpl : (progT p).length = (linesT (p.rules.flatMap pairL)).length + (elseW ++ wordT p.els ++ [10]).length := by rw [hpt, List.length_append]; rfl
        simp -dsimp only [push_cast, Nat.reduceAdd, Nat.reduceLeDiff, Nat.reduceBEq, decide_true, ne_eq, eq_self, not_true_eq_false, not_false_eq_true, true_imp_iff, false_imp_iff, Int.reduceNe, Int.reduceEq, Int.reduceLT, Int.reduceLE, Bool.not_true, Bool.not_false, dx1]
        refine callK_of (word_c p.els wx) ?_
        rintro _ wx' ⟨rfl, hxe⟩
        obtain rfl : wx = wx' := hxe.symm
        simp -dsimp only [push_cast, Nat.reduceAdd, Nat.reduceLeDiff, Nat.reduceBEq, decide_true, ne_eq, eq_self, not_true_eq_false, not_false_eq_true, true_imp_iff, false_imp_iff, Int.reduceNe, Int.reduceEq, Int.reduceLT, Int.reduceLE, Bool.not_true, Bool.not_false]
        simp only [List.length_append, List.length_cons, List.length_nil]
        refine ⟨by omega, by omega, ?_⟩
        refine callK_of (write_c _ _ _ (elseW ++ wordT p.els ++ [10]) wx hUx (by omega) (by omega)) ?_
        rintro _ w6 ⟨U6, k6⟩
        have z6 := k6.1.size
        simp -dsimp only [push_cast, Nat.reduceAdd, Nat.reduceLeDiff, Nat.reduceBEq, decide_true, ne_eq, eq_self, not_true_eq_false, not_false_eq_true, true_imp_iff, false_imp_iff, Int.reduceNe, Int.reduceEq, Int.reduceLT, Int.reduceLE, Bool.not_true, Bool.not_false]
        refine callK_of (bstring_c _ _ _ w6 U6 (by omega)) ?_
        rintro _ w7 ⟨rfl, hb7⟩
        simp -dsimp only [push_cast, Nat.reduceAdd, Nat.reduceLeDiff, Nat.reduceBEq, decide_true, ne_eq, eq_self, not_true_eq_false, not_false_eq_true, true_imp_iff, false_imp_iff, Int.reduceNe, Int.reduceEq, Int.reduceLT, Int.reduceLE, Bool.not_true, Bool.not_false]
        refine ⟨?_, (hbwx.trans (k6.1.mono (by omega))).trans (hb7.mono (by omega))⟩
        rw [hpt]
        simp [rulesT]
end Go.Proofs.YtiofleijieepgaaGreatDoor
end
section
namespace Go.Proofs.YtiofleijieepgaaGreatDoor
open Go.Vc Go.Proofs Go.RowKit Cae
set_option maxRecDepth 100000
set_option linter.unusedSimpArgs false
set_option linter.unusedVariables false
attribute [local irreducible] wpL callK valK unitK runK Fun Sl Vc.Own vc vcOps opK pureK
set_option maxHeartbeats 4000000
/-- A reader, and the lines that are left: none of them lies in X. -/
structure Rd (rb : Nat) (X : Nat → Prop) (w : World) (l : List (List UInt8)) : Prop where
  st : ∃ v, Blk w rb 66 [v] ∧ Sl X 1 (En encS) w v l
  self : X rb
  txt : ∀ t ∈ l, t.length ≤ 1000000
  len : l.length ≤ 1000000
theorem sliceOne {e e' : TypeId} {b o n c : Nat} {kk : IntKind} {L : VP} {other : Prop} (p) : sliceK (some (.slice e)) (some (e', 1)) (.slice (some ⟨b, o, none⟩) (n + 1) c) (some (.int kk 1)) none none L other p = ((1 ≤ n + 1 ∧ n + 1 ≤ c) ∧ L (.slice (if (c : Int) = 1 then some ⟨b, o, none⟩ else some ⟨b, o + 1, none⟩) n (c - 1))) := by
  simp only [sliceK, natAt, add_lit, Option.map_some]
  apply propext
  constructor
  · rintro ⟨h1, h2⟩
    refine ⟨by omega, ?_⟩
    have e1 : ((n + 1 : Nat) : Int).toNat - (1 : Int).toNat = n := by omega
    have e2 : c - (1 : Int).toNat = c - 1 := by omega
    rw [e1, e2] at h2
    exact h2
  · rintro ⟨h1, h2⟩
    refine ⟨by omega, ?_⟩
    have e1 : ((n + 1 : Nat) : Int).toNat - (1 : Int).toNat = n := by omega
    have e2 : c - (1 : Int).toNat = c - 1 := by omega
    rw [e1, e2]
    exact h2
theorem Rd.hd {rb : Nat} {X : Nat → Prop} {w : World} {t : List UInt8} {r : List (List UInt8)} (h : Rd rb X w (t :: r)) : ∃ b o c, Blk w rb 66 [.slice (some ⟨b, o, none⟩) (r.length + 1) c] ∧ r.length + 1 ≤ c ∧ w.cell? ⟨b, o, none⟩ = some (str t) := by
  obtain ⟨v, h1, h2⟩ := h.st
  obtain ⟨a, c, rfl, hc⟩ := h2.shape
  obtain ⟨b, o, rfl, hb, hcell⟩ := h2.get (i := 0) (x := t) rfl
  exact ⟨b, o, c, h1, hc, by have := hcell 0 _ rfl; simpa using this⟩
theorem Rd.pop {rb b o c : Nat} {X : Nat → Prop} {w w' : World} {t : List UInt8} {r : List (List UInt8)} (h : Rd rb X w (t :: r)) (hb : Blk w rb 66 [.slice (some ⟨b, o, none⟩) (r.length + 1) c])
    (hp : Put w w' rb 66 [.slice (if (c : Int) = 1 then some ⟨b, o, none⟩ else some ⟨b, o + 1, none⟩) r.length (c - 1)]) : Rd rb X w' r := by
  obtain ⟨v, h1, h2⟩ := h.st
  have e : v = .slice (some ⟨b, o, none⟩) (r.length + 1) c := by
    have h1' : w.heap[rb]? = _ := h1
    have hb' : w.heap[rb]? = _ := hb
    rw [h1'] at hb'
    simpa using hb'
  subst e
  have hk := hp.kept
  have hX := h.self
  refine ⟨⟨_, hp.blk, ?_⟩, hX, fun x hx => h.txt x (List.mem_cons_of_mem _ hx), by have := h.len; rw [List.length_cons] at this; omega⟩
  unfold Sl at h2 ⊢
  obtain ⟨a, c', he, hc', hall⟩ := h2
  cases he
  by_cases hc1 : (c : Int) = 1
  · have hr : r = [] := List.eq_nil_of_length_eq_zero (by rw [List.length_cons] at hc'; omega)
    subst hr
    exact ⟨_, _, rfl, by simp, fun i x hx => by simp at hx⟩
  · rw [if_neg hc1]
    refine ⟨some ⟨b, o + 1, none⟩, c - 1, rfl, by rw [List.length_cons] at hc'; omega, fun i x hx => ?_⟩
    obtain ⟨b', o', cs, ha, hX', hcs, hcell, hr⟩ := hall (i + 1) x (by simpa using hx)
    cases ha
    refine ⟨b, o + 1, cs, rfl, hX', hcs, fun j u hu => ?_, hr⟩
    have := hcell j u hu
    rw [show o + (i + 1) * 1 + j = o + 1 + i * 1 + j by omega] at this
    exact hk.cell this (fun hh => hX' (by subst hh; exact hX))
theorem takeA_c (s : List UInt8) {rb : Nat} {X : Nat → Prop} {w : World} {l : List (List UInt8)} (h : Rd rb X w l) : Fun Tryz.prog 28 [.pointer (some ⟨rb, 0, none⟩), str s] w fun r w' =>
    (∃ l', l = s :: l' ∧ r = .bool true ∧ Rd rb X w' l' ∧ Kept (· = rb) w w' ∧ w'.heap.size = w.heap.size) ∨ ((∀ l', l ≠ s :: l') ∧ r = .bool false ∧ w' = w) := by
  cases l with
  | nil =>
    obtain ⟨v, h1, h2⟩ := h.st
    obtain ⟨a, c, rfl, hc⟩ := h2.shape
    have cb : w.cell? ⟨rb, 0, none⟩ = some (.slice a 0 c) := h1.cell rfl
    (refine fun_of_vc Tryz.func28 rfl (by kernel_rfl) [4] rfl ?_; simp -dsimp (maxSteps := 4000000) only [push_cast, fr0, Tryz.ntmps28, List.length_cons, List.length_nil, Nat.reduceAdd, Nat.reduceSub, Nat.reduceBEq, List.replicate_succ, List.replicate_zero])
    simp -dsimp only [push_cast, Nat.reduceAdd, Nat.reduceLeDiff, Nat.reduceBEq, decide_true, ne_eq, eq_self, not_true_eq_false, not_false_eq_true, true_imp_iff, false_imp_iff, Int.reduceNe, Int.reduceEq, Int.reduceLT, Int.reduceLE, Bool.not_true, Bool.not_false, cb]
    exact .inr (fun l' e => by cases e)
  | cons t r =>
    obtain ⟨b, o, c, hB, hc, hcell⟩ := h.hd
    have cb : w.cell? ⟨rb, 0, none⟩ = some (.slice (some ⟨b, o, none⟩) (r.length + 1) c) := hB.cell rfl
    (refine fun_of_vc Tryz.func28 rfl (by kernel_rfl) [4] rfl ?_; simp -dsimp (maxSteps := 4000000) only [push_cast, fr0, Tryz.ntmps28, List.length_cons, List.length_nil, Nat.reduceAdd, Nat.reduceSub, Nat.reduceBEq, List.replicate_succ, List.replicate_zero])
    simp -dsimp only [push_cast, Nat.reduceAdd, Nat.reduceLeDiff, Nat.reduceBEq, decide_true, ne_eq, eq_self, not_true_eq_false, not_false_eq_true, true_imp_iff, false_imp_iff, Int.reduceNe, Int.reduceEq, Int.reduceLT, Int.reduceLE, Bool.not_true, Bool.not_false, cb, hcell, sliceOne]
    refine ⟨fun _ => ⟨by omega, fun hne => .inr (fun l' e => hne (by cases e; rfl)), fun he => ⟨by omega, ?_⟩⟩, fun h0 => by omega⟩
    have he := Classical.not_not.1 he
    subst he
    refine storeK_of hB (by simp) rfl ?_
    intro w' hw'
    have hps := h.pop hB hw'
    have hk := hw'.kept
    have hz := hw'.size
    simp -dsimp only [push_cast, Nat.reduceAdd, Nat.reduceLeDiff, Nat.reduceBEq, decide_true, ne_eq, eq_self, not_true_eq_false, not_false_eq_true, true_imp_iff, false_imp_iff, Int.reduceNe, Int.reduceEq, Int.reduceLT, Int.reduceLE, Bool.not_true, Bool.not_false]
    exact .inl ⟨r, rfl, hps, hk, hz⟩
end Go.Proofs.YtiofleijieepgaaGreatDoor
end
section
namespace Go.Proofs.YtiofleijieepgaaGreatDoor
open Go.Vc Go.Proofs Go.RowKit Cae
set_option maxRecDepth 100000
set_option linter.unusedSimpArgs false
set_option linter.unusedVariables false
attribute [local irreducible] wpL callK valK unitK runK Fun Sl Vc.Own vc vcOps opK pureK
set_option maxHeartbeats 4000000

theorem equalR_c (l l' : List Rg) (hl : l.length < 10000000) (X X' : Nat → Prop) (v v' : Value) (w : World) (hv : Sl X 2 (En encR) w v l) (hv' : Sl X' 2 (En encR) w v' l') :
    Fun Tryz.prog 93 [v, v'] w fun r w' => r = .bool (decide (l = l')) ∧ Below w.heap.size w w' := by
  obtain ⟨a, c, rfl, hc⟩ := hv.shape
  obtain ⟨a', c', rfl, hc'⟩ := hv'.shape
  refine fun_of_vc Tryz.func93 rfl (by kernel_rfl) [4] rfl ?_
  simp -dsimp (maxSteps := 4000000) only [push_cast, fr0, Tryz.ntmps93, List.length_cons, List.length_nil, Nat.reduceAdd, Nat.reduceSub, Nat.reduceBEq, List.replicate_succ, List.replicate_zero]
  refine ⟨fun hne => ⟨?_, Below.refl _ _⟩, fun he => ?_⟩
  · rw [decide_eq_false]
    intro h; subst h; omega
  have he' : l.length = l'.length := by omega
  refine wpL_loop [4, 5, 13, 14, 15, 16, 17, 18, 19, 20, 21, 22, 23, 24, 25] (fun z wx => ∃ (i : Nat), z 13 = .int .i64 i ∧ i ≤ l.length ∧ l.take i = l'.take i ∧ Below w.heap.size w wx) (fun z _ => l.length - (intOf (z 13)).toNat) ?_ ?_
  · exact ⟨0, rfl, Nat.zero_le _, rfl, Below.refl _ _⟩
  · intro z wx hI
    obtain ⟨i, h13, hi, hok, hb⟩ := hI
    simp -dsimp only [push_cast, Nat.reduceAdd, Nat.reduceLeDiff, Nat.reduceBEq, decide_true, h13]
    refine ⟨fun hlt => ?_, fun hge => ?_⟩
    · obtain ⟨x, hx, hxm, hd, ht⟩ := lt_get (l := l) (i := i) (by omega)
      obtain ⟨b, o, rfl, hX, hcell⟩ := (hv.below hb).get hx
      obtain ⟨x', hx', hxm', hd', ht'⟩ := lt_get (l := l') (i := i) (by omega)
      obtain ⟨b', o', rfl, hX', hcell'⟩ := (hv'.below hb).get hx'
      refine wpL_draw (fun w' => ∀ a, w'.cell? a = wx.cell? a) mixed (by kernel_rfl) (fun _ => rfl) ?_
      have g0 : ∀ w'' : World, (∀ a, w''.cell? a = wx.cell? a) → cellsAt w'' ⟨b, o + i * 2, none⟩ 0 2 = some [.int .i64 x.1, .int .i64 x.2] := fun w'' hC => cellsAt_of (encR x) 0 (fun j u hu => by rw [hC]; simpa using hcell j u hu)
      have g0' : ∀ w'' : World, (∀ a, w''.cell? a = wx.cell? a) → cellsAt w'' ⟨b', o' + i * 2, none⟩ 0 2 = some [.int .i64 x'.1, .int .i64 x'.2] := fun w'' hC => cellsAt_of (encR x') 0 (fun j u hu => by rw [hC]; simpa using hcell' j u hu)
      have d0 := g0 wx.drew (fun _ => rfl)
      have d0' := g0' wx.drew (fun _ => rfl)
      simp -dsimp only [push_cast, Nat.reduceAdd, Nat.reduceLeDiff, Nat.reduceBEq, decide_true, d0, d0']
      have hext : ((x.1 = x'.1 ∧ x.2 = x'.2)) ↔ x = x' := by
        cases x; cases x'; simp only [Prod.mk.injEq]
      rw [hext]
      refine ⟨⟨by omega, by omega⟩, fun w'' hC => by rw [g0 w'' hC]; exact rfl, ⟨by omega, by omega⟩, fun w'' hC => by rw [g0' w'' hC]; exact rfl, fun hne => ?_, fun heq => ?_⟩
      · refine ⟨?_, hb.drew⟩
        rw [decide_eq_false]
        intro h; subst h; rw [hx] at hx'; cases hx'; exact hne rfl
      · have heq : x = x' := Classical.byContradiction fun h => heq h
        exact ⟨⟨by omega, by omega⟩, ⟨i + 1, rfl, by omega, by rw [ht, ht', hok, heq], hb.drew⟩, by rw [h13]; simp only [intOf]; omega⟩
    · refine ⟨?_, hb⟩
      rw [List.take_of_length_le (by omega), List.take_of_length_le (by omega)] at hok
      rw [decide_eq_true hok]

end Go.Proofs.YtiofleijieepgaaGreatDoor
end
section
namespace Go.Proofs.YtiofleijieepgaaGreatDoor
open Go.Vc Go.Proofs Go.RowKit Cae
set_option maxHeartbeats 4000000

/-- A slice, as a value that a cell holds. -/
structure SV where
  a : Option Addr
  n : Nat
  c : Nat
def SV.v (s : SV) : Value := .slice s.a s.n s.c
def encSV (s : SV) : List Value := [s.v]
theorem encSV_one : ∀ x, ∀ u ∈ encSV x, u.oneCell' = true := by simp [encSV, SV.v, Value.oneCell']
theorem encIn_one : ∀ x, ∀ u ∈ encIn x, u.oneCell' = true := by simp [encIn, Value.oneCell']

/-- A pair, as its cells hold it. -/
structure PV where
  b : Bool
  s1 : SV
  i1 : SV
  s2 : SV
  i2 : SV
def encPV (u : PV) : List Value := [.bool u.b, u.s1.v, u.i1.v, u.s2.v, u.i2.v]
theorem encPV_one : ∀ x, ∀ u ∈ encPV x, u.oneCell' = true := by simp [encPV, SV.v, Value.oneCell']
/-- What is owned, read with what its elements lead to. -/
theorem ownRead {α β : Type} {base k : Nat} {e : TypeId} {enc : α → List Value} {R : List Value → β → Prop} {w : World} {v : Value} {us : List α} {l : List β} (h : Vc.Own base e k enc w v us) (hl : us.length = l.length)
    (hR : ∀ (i : Nat) (x : β), l[i]? = some x → ∃ u, us[i]? = some u ∧ R (enc u) x) : Sl (· < base) k R w v l := by
  have hs := h.sl
  unfold Sl at hs ⊢
  obtain ⟨a, c, he, hc, hh⟩ := hs
  refine ⟨a, c, by rw [he, hl], by omega, fun i x hx => ?_⟩
  obtain ⟨u, hu, hr⟩ := hR i x hx
  obtain ⟨b, o, cs, ha, hb, hcs, hcell, rfl⟩ := hh i u hu
  exact ⟨b, o, _, ha, hb, hcs, hcell, hr⟩
theorem append_get {α β : Type} {Pr : Nat → α → β → Prop} {us : List α} {l : List β} {u : α} {x : β} (hl : us.length = l.length) (h : ∀ (i : Nat) (y : β), l[i]? = some y → ∃ v, us[i]? = some v ∧ Pr i v y) (hx : Pr l.length u x) :
    ∀ (i : Nat) (y : β), (l ++ [x])[i]? = some y → ∃ v, (us ++ [u])[i]? = some v ∧ Pr i v y := by
  intro i y hy
  rcases Nat.lt_trichotomy i l.length with hlt | heq | hgt
  · rw [List.getElem?_append_left hlt] at hy
    obtain ⟨v, h1, h2⟩ := h i y hy
    exact ⟨v, by rw [List.getElem?_append_left (by omega)]; exact h1, h2⟩
  · subst heq
    rw [List.getElem?_append_right (Nat.le_refl _), Nat.sub_self] at hy
    simp at hy; subst hy
    exact ⟨u, by rw [List.getElem?_append_right (by omega), hl, Nat.sub_self]; rfl, hx⟩
  · rw [List.getElem?_eq_none (by simp; omega)] at hy; cases hy
theorem SetsV.values {X : Nat → Prop} {w : World} {v : Value} {l : List (List Rg)} (h : SetsV X w v l) : ∃ us : List SV, us.length = l.length ∧ Sl X 1 (En encSV) w v us ∧ ∀ (i : Nat) (u : SV) (s : List Rg), us[i]? = some u → l[i]? = some s → Sl X 2 (En encR) w u.v s := by
  have h0 := h.shape
  obtain ⟨a, c, rfl, hc⟩ := h0
  have hall : ∀ (i : Nat) (s : List Rg), l[i]? = some s → ∃ u : SV, Sl X 2 (En encR) w u.v s ∧ ∃ b o, a = some ⟨b, o, none⟩ ∧ ¬ X b ∧ w.cell? ⟨b, o + i, none⟩ = some u.v := fun i s hs => by
    obtain ⟨b, o, cs, e, hX, hcs, hcell, u, rfl, hu⟩ := h.getR hs
    obtain ⟨a', c', rfl, _⟩ := hu.shape
    refine ⟨⟨a', s.length, c'⟩, hu, b, o, e, hX, ?_⟩
    have := hcell 0 _ rfl
    rw [Nat.mul_one, Nat.add_zero] at this
    rw [this]; rfl
  have hex : ∃ us : List SV, us.length = l.length ∧ ∀ (i : Nat) (s : List Rg), l[i]? = some s → ∃ u, us[i]? = some u ∧ Sl X 2 (En encR) w u.v s ∧ ∃ b o, a = some ⟨b, o, none⟩ ∧ ¬ X b ∧ w.cell? ⟨b, o + i, none⟩ = some u.v := by
    have key : ∀ n, n ≤ l.length → ∃ us : List SV, us.length = n ∧ ∀ (i : Nat) (s : List Rg), i < n → l[i]? = some s → ∃ u, us[i]? = some u ∧ Sl X 2 (En encR) w u.v s ∧ ∃ b o, a = some ⟨b, o, none⟩ ∧ ¬ X b ∧ w.cell? ⟨b, o + i, none⟩ = some u.v := fun n hn => by
      induction n with
      | zero => exact ⟨[], rfl, fun i s hi => absurd hi (by omega)⟩
      | succ n ih =>
        obtain ⟨us, hl, hus⟩ := ih (by omega)
        obtain ⟨u, hu⟩ := hall n _ (List.getElem?_eq_getElem (by omega))
        refine ⟨us ++ [u], by simp [hl], fun i s hi hs => ?_⟩
        by_cases e : i = n
        · subst e
          rw [List.getElem?_eq_getElem (by omega)] at hs
          cases hs
          exact ⟨u, by rw [List.getElem?_append_right (by omega), hl, Nat.sub_self]; rfl, hu⟩
        · obtain ⟨u', h1, h2⟩ := hus i s (by omega) hs
          exact ⟨u', by rw [List.getElem?_append_left (by omega)]; exact h1, h2⟩
    obtain ⟨us, h1, h2⟩ := key l.length (Nat.le_refl _)
    exact ⟨us, h1, fun i s hs => h2 i s (List.getElem?_eq_some_iff.1 hs).1 hs⟩
  obtain ⟨us, hl, hus⟩ := hex
  refine ⟨us, hl, ⟨a, c, by rw [hl], by omega, fun i u hu => ?_⟩, fun i u s hu hs => ?_⟩
  · have hlt := (List.getElem?_eq_some_iff.1 hu).1
    obtain ⟨u', h1, h2, b, o, e, hX, hcell⟩ := hus i _ (List.getElem?_eq_getElem (by omega))
    rw [hu] at h1; cases h1
    refine ⟨b, o, [u.v], e, hX, rfl, fun j x hx => ?_, rfl⟩
    cases j with
    | zero => simp at hx; subst hx; rw [Nat.mul_one, Nat.add_zero]; exact hcell
    | succ j => simp at hx
  · obtain ⟨u', h1, h2, _⟩ := hus i s hs
    rw [hu] at h1; cases h1
    exact h2
theorem SetsV.of_values {X : Nat → Prop} {w : World} {v : Value} {l : List (List Rg)} {us : List SV} (hl : us.length = l.length) (h : Sl X 1 (En encSV) w v us) (hu : ∀ (i : Nat) (u : SV) (s : List Rg), us[i]? = some u → l[i]? = some s → Sl X 2 (En encR) w u.v s) : SetsV X w v l := by
  obtain ⟨a, c, rfl, hc⟩ := h.shape
  refine ⟨a, c, by rw [hl], by omega, fun i s hs => ?_⟩
  have hlt := (List.getElem?_eq_some_iff.1 hs).1
  have hx := List.getElem?_eq_getElem (l := us) (i := i) (by omega)
  obtain ⟨b, o, cs, e, hX, hcs, hcell, rfl⟩ := h.getR hx
  exact ⟨b, o, _, e, hX, hcs, hcell, _, rfl, hu i _ s hx hs⟩
end Go.Proofs.YtiofleijieepgaaGreatDoor
namespace Go.Vc
open Go.RowKit
/-- Blocks that came later are not read. -/
theorem Sl.fresh {α : Type} {X X' : Nat → Prop} {k : Nat} {enc : α → List Value} {w : World} {v : Value} {l : List α} (hk : ∀ x, 0 < (enc x).length) (h : Sl X k (En enc) w v l) (hX : ∀ b, X' b → X b ∨ w.heap.size ≤ b) : Sl X' k (En enc) w v l := by
  obtain ⟨a, c, rfl, hc, h⟩ := h
  refine ⟨a, c, rfl, hc, fun i x hx => ?_⟩
  obtain ⟨b, o, cs, e, hnb, hl, hcell, rfl⟩ := h i x hx
  refine ⟨b, o, _, e, fun hb => ?_, hl, hcell, rfl⟩
  have : b < w.heap.size := World.block_lt_of_cell? w _ (hcell 0 _ (List.getElem?_eq_getElem (hk x)))
  rcases hX b hb with h | h
  · exact hnb h
  · omega
/-- What the call owns lies in its own block alone. -/
theorem Own.slOwn {α : Type} {base : Nat} {e : TypeId} {k : Nat} {enc : α → List Value} {w : World} {v : Value} {l : List α} (h : Vc.Own base e k enc w v l) : Sl (fun b => v.ownBlock ≠ some b) k (En enc) w v l := by
  have hs := h.sl
  obtain ⟨a, c, rfl, hc, hs⟩ := hs
  refine ⟨a, c, rfl, hc, fun i x hx => ?_⟩
  obtain ⟨b, o, cs, e, hnb, hl, hcell, hcs⟩ := hs i x hx
  refine ⟨b, o, cs, e, ?_, hl, hcell, hcs⟩
  subst e
  simp [Value.ownBlock]
end Go.Vc
namespace Go.Vc
/-- A slice that is read elsewhere is still read where only other blocks and new ones matter. -/
theorem Sl.moved {α : Type} {X Y Z : Nat → Prop} {k : Nat} {enc : α → List Value} {w w' : World} {v : Value} {l : List α} (h : Sl X k (En enc) w v l) (hk : ∀ x, 0 < (enc x).length) (kc : Kept Y w w') (hY : ∀ i, Y i → X i) (hZ : ∀ b, Z b → X b ∨ w.heap.size ≤ b) : Sl Z k (En enc) w' v l :=
  (((h.fresh hk (X' := fun b => X b ∨ Z b) (fun b hb => by
    rcases hb with hb | hb
    · exact .inl hb
    · exact hZ b hb)).kept kc (fun i hi => .inl (hY i hi))).weaken (fun b hb => .inr hb))
end Go.Vc
end
section
namespace Go.Proofs.YtiofleijieepgaaGreatDoor
open Go.Vc Go.Proofs Go.RowKit Cae
set_option maxRecDepth 100000
set_option linter.unusedSimpArgs false
set_option linter.unusedVariables false
attribute [local irreducible] wpL callK valK unitK runK Fun Sl Vc.Own vc vcOps opK pureK
set_option maxHeartbeats 4000000
/-- The closure of inst: is a set that one? -/
theorem alikeFn_c (t s : List Rg) (ht : t.length < 10000000) (hs : s.length < 10000000) (X X' : Nat → Prop) (v u : Value) (sb : Nat) (w : World) (hv : Sl X 2 (En encR) w v t) (hu : Sl X' 2 (En encR) w u s) (hc : w.cell? ⟨sb, 0, none⟩ = some u) :
    Fun Tryz.prog 92 [v, .pointer (some ⟨sb, 0, none⟩)] w fun r w' => r = .bool (s == t) ∧ Below w.heap.size w w' := by
  obtain ⟨a, c, rfl, hcc⟩ := hv.shape
  obtain ⟨a', c', rfl, hcc'⟩ := hu.shape
  refine fun_of_vc Tryz.func92 rfl (by kernel_rfl) [3] rfl ?_
  simp -dsimp (maxSteps := 4000000) only [push_cast, fr0, Tryz.ntmps92, List.length_cons, List.length_nil, Nat.reduceAdd, Nat.reduceSub, Nat.reduceBEq, List.replicate_succ, List.replicate_zero]
  simp -dsimp only [push_cast, Nat.reduceAdd, Nat.reduceLeDiff, Nat.reduceBEq, decide_true, ne_eq, eq_self, not_true_eq_false, not_false_eq_true, true_imp_iff, false_imp_iff, Int.reduceNe, Int.reduceEq, Int.reduceLT, Int.reduceLE, Bool.not_true, Bool.not_false, hc]
  refine callK_of (equalR_c s t hs X' X _ _ w hu hv) ?_
  rintro _ w1 ⟨rfl, hb⟩
  simp -dsimp only [push_cast, Nat.reduceAdd, Nat.reduceLeDiff, Nat.reduceBEq, decide_true, ne_eq, eq_self, not_true_eq_false, not_false_eq_true, true_imp_iff, false_imp_iff, Int.reduceNe, Int.reduceEq, Int.reduceLT, Int.reduceLE, Bool.not_true, Bool.not_false]
  refine ⟨?_, hb⟩
  congr 1
  by_cases h : s = t
  · subst h; simp
  · rw [decide_eq_false h, beq_eq_false_iff_ne.2 h]
theorem idxS_of {s : List Rg} {l : List (List Rg)} {i : Nat} (h : l[i]? = some s) (hno : ∀ x ∈ l.take i, x ≠ s) : idxS s l = i := by
  obtain ⟨hlt, he⟩ := List.getElem?_eq_some_iff.1 h
  unfold idxS
  rw [List.findIdx_eq hlt]
  refine ⟨by rw [he]; simp, fun j hj => ?_⟩
  have hm : l[j] ∈ l.take i := List.mem_take_iff_getElem.2 ⟨j, by omega, rfl⟩
  simpa using hno _ hm
theorem idxS_none {s : List Rg} {l : List (List Rg)} (hno : ∀ x ∈ l, x ≠ s) : idxS s l = l.length := by
  unfold idxS
  rw [List.findIdx_eq_length]
  intro x hx
  simpa using hno x hx
theorem setIdx_c (s : List Rg) (hs : s.length < 10000000) (l : List (List Rg)) (hl : l.length < 1000000000) (hls : ∀ t ∈ l, t.length < 10000000) (X X' : Nat → Prop) (v u : Value) (sb : Nat) (w : World) (hv : SetsV X w v l) (hu : Sl X' 2 (En encR) w u s) (hc : w.cell? ⟨sb, 0, none⟩ = some u) :
    Fun Tryz.prog 85 [v, .func (.func 92) #[] #[.pointer (some ⟨sb, 0, none⟩)]] w fun r w' => r = .int .i64 (if idxS s l < l.length then (idxS s l : Int) else -1) ∧ Below w.heap.size w w' := by
  obtain ⟨a, c, rfl, hcc⟩ := hv.shape
  refine fun_of_vc Tryz.func85 rfl (by kernel_rfl) [4] rfl ?_
  simp -dsimp (maxSteps := 4000000) only [push_cast, fr0, Tryz.ntmps85, List.length_cons, List.length_nil, Nat.reduceAdd, Nat.reduceSub, Nat.reduceBEq, List.replicate_succ, List.replicate_zero]
  refine wpL_loop [4, 5, 8, 9, 10, 11, 12, 13, 14, 15, 16, 17, 18] (fun z wx => ∃ (i : Nat), z 8 = .int .i64 i ∧ i ≤ l.length ∧ (∀ x ∈ l.take i, x ≠ s) ∧ Below w.heap.size w wx) (fun z _ => l.length - (intOf (z 8)).toNat) ?_ ?_
  · exact ⟨0, rfl, Nat.zero_le _, by simp, Below.refl _ _⟩
  · intro z wx hI
    obtain ⟨i, h8, hi, hok, hb⟩ := hI
    simp -dsimp only [push_cast, Nat.reduceAdd, Nat.reduceLeDiff, Nat.reduceBEq, decide_true, ne_eq, eq_self, not_true_eq_false, not_false_eq_true, true_imp_iff, false_imp_iff, Int.reduceNe, Int.reduceEq, Int.reduceLT, Int.reduceLE, Bool.not_true, Bool.not_false, h8]
    refine ⟨fun hlt => ?_, fun hge => ?_⟩
    · obtain ⟨x, hx, hxm, hd, ht⟩ := lt_get (l := l) (i := i) (by omega)
      obtain ⟨b, o, cs, ha, hX, hk, hcell, u0, rfl, hu0⟩ := Sl.getR (hv.below hb) hx
      subst ha
      have c0 : wx.cell? ⟨b, o + i, none⟩ = some u0 := by simpa using hcell 0 u0 rfl
      obtain ⟨a0, k0, rfl, hk0⟩ := hu0.shape
      simp -dsimp only [push_cast, Nat.reduceAdd, Nat.reduceLeDiff, Nat.reduceBEq, decide_true, ne_eq, eq_self, not_true_eq_false, not_false_eq_true, true_imp_iff, false_imp_iff, Int.reduceNe, Int.reduceEq, Int.reduceLT, Int.reduceLE, Bool.not_true, Bool.not_false, c0, Nat.mul_one]
      refine ⟨⟨by omega, by omega⟩, ?_⟩
      refine callK_of (alikeFn_c x s (hls x hxm) hs X X' _ _ sb wx hu0 (hu.below hb) ((hb.cell (World.block_lt_of_cell? w _ hc)).trans hc)) ?_
      rintro _ w1 ⟨rfl, hb1⟩
      have hB1 := hb.trans (hb1.mono hb.size)
      cases hst : (s == x) with
      | true =>
        have hsx : s = x := eq_of_beq hst
        subst hsx
        have e := idxS_of hx hok
        simp -dsimp only [push_cast, Nat.reduceAdd, Nat.reduceLeDiff, Nat.reduceBEq, decide_true, ne_eq, eq_self, not_true_eq_false, not_false_eq_true, true_imp_iff, false_imp_iff, Int.reduceNe, Int.reduceEq, Int.reduceLT, Int.reduceLE, Bool.not_true, Bool.not_false]
        rw [e, if_pos (by omega)]
        exact ⟨rfl, hB1⟩
      | false =>
        simp -dsimp only [push_cast, Nat.reduceAdd, Nat.reduceLeDiff, Nat.reduceBEq, decide_true, ne_eq, eq_self, not_true_eq_false, not_false_eq_true, true_imp_iff, false_imp_iff, Int.reduceNe, Int.reduceEq, Int.reduceLT, Int.reduceLE, Bool.not_true, Bool.not_false]
        refine ⟨⟨by omega, by omega⟩, ⟨i + 1, rfl, by omega, ?_, hB1⟩, by rw [h8]; simp only [intOf]; omega⟩
        intro y hy
        rw [ht, List.mem_append, List.mem_singleton] at hy
        rcases hy with hy | rfl
        · exact hok y hy
        · intro e; subst e; simp at hst
    · rw [List.take_of_length_le (by omega)] at hok
      have e := idxS_none hok
      rw [if_neg (by omega)]
      exact ⟨rfl, hb⟩
end Go.Proofs.YtiofleijieepgaaGreatDoor
end
section
namespace Go.Proofs.YtiofleijieepgaaGreatDoor
open Go.Vc Go.Proofs Go.RowKit Cae
set_option maxRecDepth 100000
set_option linter.unusedSimpArgs false
set_option linter.unusedVariables false
attribute [local irreducible] wpL callK valK unitK runK Fun Sl Vc.Own vc vcOps opK pureK
set_option maxHeartbeats 4000000
def idxStrR_ren : Go.Shelf.Ren := ⟨fun | 109 => 90 | n => n, fun | 31 => 61 | 9 => 9 | 3 => 3 | 0 => 0 | 4 => 4 | n => n, fun | n => n⟩
theorem idxStrR : Go.Proofs.Lays.n109 Tryz.prog idxStrR_ren := {
  mixed := by kernel_rfl
  f109 := Tryz.func90.trans (congrArg some (by kernel_rfl))
  t0 := Tryz.underlying0
  a0 := Tryz.isAgg0
  z0 := Tryz.sizeOf0
  v0 := Tryz.zeroValue0
  t3 := Tryz.underlying3
  a3 := Tryz.isAgg3
  z3 := Tryz.sizeOf3
  v3 := Tryz.zeroValue3
  t4 := Tryz.underlying4
  a4 := Tryz.isAgg4
  z4 := Tryz.sizeOf4
  v4 := Tryz.zeroValue4
  t9 := Tryz.underlying9
  a9 := Tryz.isAgg9
  z9 := Tryz.sizeOf9
  v9 := Tryz.zeroValue9
  t31 := Tryz.underlying61
  a31 := Tryz.isAgg61
  z31 := Tryz.sizeOf61
  v31 := Tryz.zeroValue61 }

/-- Which operation a name is (0: no name; -1: none). -/
def opOf (s : List UInt8) : Int := if s = [] then 0 else if s = [116, 97, 107, 101] then 1 else if s = [115, 112, 108, 105, 116] then 2 else if s = [106, 117, 109, 112] then 3 else if s = [101, 110, 100] then 4 else if s = [121, 101, 115] then 5 else -1
def namesB : List ByteArray := [⟨#[]⟩, ⟨#[116, 97, 107, 101]⟩, ⟨#[115, 112, 108, 105, 116]⟩, ⟨#[106, 117, 109, 112]⟩, ⟨#[101, 110, 100]⟩, ⟨#[121, 101, 115]⟩]
theorem opIdx_c (s : List UInt8) (w : World) (hn : Nms w) : Fun Tryz.prog 90 [.slice (some ⟨1, 0, none⟩) 6 6, str s] w fun r w' => r = .int .i64 (opOf s) ∧ w' = w := by
  refine fun_of_calls Tryz.func90 (by kernel_rfl) (by kernel_rfl) ?_
  refine Calls.mono (Any.slices_Index_string idxStrR 1 0 6 6 namesB ⟨s.toArray⟩ w (by decide) (by decide) ?_) ?_
  · intro j hj
    have hj6 : j < 6 := hj
    rw [Nat.zero_add, hn j hj6]
    match j, hj6 with
    | 0, _ => rfl
    | 1, _ => rfl
    | 2, _ => rfl
    | 3, _ => rfl
    | 4, _ => rfl
    | 5, _ => rfl
  · rintro e w' ⟨rfl, rfl⟩
    refine ⟨_, rfl, ?_, rfl⟩
    congr 1
    show Lib.idxFromS namesB ⟨s.toArray⟩ 0 = opOf s
    have eq : ∀ l : List UInt8, ((⟨l.toArray⟩ : ByteArray) = ⟨s.toArray⟩) ↔ s = l := by
      intro l
      constructor
      · intro h
        have h1 := congrArg (fun b : ByteArray => b.data.toList) h
        simpa using h1.symm
      · intro h; rw [h]
    unfold namesB opOf
    have e0 := eq []
    have e1 := eq [116, 97, 107, 101]
    have e2 := eq [115, 112, 108, 105, 116]
    have e3 := eq [106, 117, 109, 112]
    have e4 := eq [101, 110, 100]
    have e5 := eq [121, 101, 115]
    simp only [Lib.idxFromS, e0, e1, e2, e3, e4, e5]
    repeat' split
    all_goals first | rfl | contradiction
end Go.Proofs.YtiofleijieepgaaGreatDoor
end
section
namespace Go.Proofs.YtiofleijieepgaaGreatDoor
open Go.Vc Go.Proofs Go.RowKit Cae
set_option maxRecDepth 100000
set_option linter.unusedSimpArgs false
set_option linter.unusedVariables false
attribute [local irreducible] wpL callK valK unitK runK Fun Sl Vc.Own vc vcOps opK pureK
set_option maxHeartbeats 4000000
theorem eq_3n (c : Bool) (n k n' k' : Nat) (L : VP) (other : Prop) (p) : eqNilK 3 c .eql (.slice none n k) (.slice none n' k') L other p = L (.bool true) := by
  cases c <;> rfl
theorem eq_3s (c : Bool) (a : Addr) (n k n' k' : Nat) (L : VP) (other : Prop) (p) : eqNilK 3 c .eql (.slice (some a) n k) (.slice none n' k') L other p = L (.bool false) := by
  cases c <;> rfl

theorem encI_one : ∀ x, ∀ u ∈ encI x, u.oneCell' = true := by simp [encI, Value.oneCell']

theorem clone_c (l : List Int) (hl : l.length < 1000000000) (X : Nat → Prop) (v : Value) (w : World) (hv : Sl X 1 (En encI) w v l) (ha : Arg v) :
    Fun Tryz.prog 37 [v] w fun r w' => Vc.Own w.heap.size 3 1 encI w' r l ∧ Below w.heap.size w w' := by
  obtain ⟨a, c, rfl, hc⟩ := hv.shape
  refine fun_of_vc Tryz.func37 rfl (by kernel_rfl) [2] rfl ?_
  simp -dsimp (maxSteps := 4000000) only [push_cast, fr0, Tryz.ntmps37, List.length_cons, List.length_nil, Nat.reduceAdd, Nat.reduceSub, Nat.reduceBEq, List.replicate_succ, List.replicate_zero]
  cases a with
  | none =>
    obtain ⟨h0, rfl⟩ := ha _ _ rfl
    have : l = [] := List.eq_nil_of_length_eq_zero h0
    subst this
    simp -dsimp only [push_cast, Nat.reduceAdd, Nat.reduceLeDiff, Nat.reduceBEq, decide_true, ne_eq, eq_self, not_true_eq_false, not_false_eq_true, true_imp_iff, false_imp_iff, Int.reduceNe, Int.reduceEq, Int.reduceLT, Int.reduceLE, Bool.not_true, Bool.not_false, eq_3n]
    exact ⟨Vc.Own.nil (enc := encI) _ _ (fun _ => rfl) _, Below.refl _ _⟩
  | some ad =>
    simp -dsimp only [push_cast, Nat.reduceAdd, Nat.reduceLeDiff, Nat.reduceBEq, decide_true, ne_eq, eq_self, not_true_eq_false, not_false_eq_true, true_imp_iff, false_imp_iff, Int.reduceNe, Int.reduceEq, Int.reduceLT, Int.reduceLE, Bool.not_true, Bool.not_false, eq_3s]
    refine rowK elI_25 rfl rfl (by omega) ?_
    intro w1 hw1
    have ho1 := hw1.own (base := w.heap.size) (k := 1) (n := 0) (enc := encI) (l := []) rfl rfl (fun _ => rfl) (Nat.le_refl _) (by omega)
    have sz1 := hw1.size
    simp -dsimp only [push_cast, Nat.reduceAdd, Nat.reduceLeDiff, Nat.reduceBEq, decide_true, ne_eq, eq_self, not_true_eq_false, not_false_eq_true, true_imp_iff, false_imp_iff, Int.reduceNe, Int.reduceEq, Int.reduceLT, Int.reduceLE, Bool.not_true, Bool.not_false]
    refine appendAny (base := w.heap.size) (enc := encI) (ys := l) elI_25 ho1 (hv.below hw1.below) (fun n c h => by cases h) encI_one (by simp only [List.length_nil]; omega) (by omega) ?_
    intro v' w2 ho2 hg2 hb2
    rw [List.nil_append] at ho2
    simp -dsimp only [push_cast, Nat.reduceAdd, Nat.reduceLeDiff, Nat.reduceBEq, decide_true, ne_eq, eq_self, not_true_eq_false, not_false_eq_true, true_imp_iff, false_imp_iff, Int.reduceNe, Int.reduceEq, Int.reduceLT, Int.reduceLE, Bool.not_true, Bool.not_false]
    exact ⟨ho2, hw1.below.trans hb2⟩

theorem small_lenC {c : CodeP} (h : smallP c = true) : SetsLen c ∧ c.ins.length ≤ 60 ∧ c.sets.length ≤ 20 := by
  unfold smallP at h
  simp only [Bool.and_eq_true, decide_eq_true_eq, List.all_eq_true] at h
  exact ⟨fun s hs => by have := h.2 s hs; omega, h.1.2, h.1.1⟩
end Go.Proofs.YtiofleijieepgaaGreatDoor
end
section
namespace Go.Proofs.YtiofleijieepgaaGreatDoor
open Go.Vc Go.Proofs Go.RowKit Cae
set_option maxRecDepth 100000
set_option linter.unusedSimpArgs false
set_option linter.unusedVariables false
attribute [local irreducible] wpL callK valK unitK runK Fun Sl Vc.Own vc vcOps opK pureK
set_option maxHeartbeats 4000000

def encN (k : Nat) : List Value := [.int .i64 k]
/-- Which places are in a list. -/
def seenV (n : Nat) (q : List Nat) : List Value := (List.range n).map fun i => .bool (decide (i ∈ q))

theorem seenV_get {n : Nat} {q : List Nat} {k : Nat} (hk : k < n) : (seenV n q)[k]? = some (.bool (decide (k ∈ q))) := by
  simp [seenV, hk]
theorem seenV_add {n : Nat} {q : List Nat} {k : Nat} (hk : k < n) : (seenV n q).set k (.bool true) = seenV n (q ++ [k]) := by
  apply List.ext_getElem?
  intro i
  rw [List.getElem?_set]
  by_cases hi : i < n
  · rw [seenV_get hi, seenV_get hi]
    split
    · rename_i e; subst e; rw [if_pos (by simpa [seenV] using hk)]; simp
    · rename_i e
      congr 2
      rw [decide_eq_decide]
      simp only [List.mem_append, List.mem_singleton]
      constructor
      · intro h; exact .inl h
      · rintro (h | h)
        · exact h
        · exact absurd h.symm e
  · have h1 : (seenV n q)[i]? = none := List.getElem?_eq_none (by simp [seenV]; omega)
    have h2 : (seenV n (q ++ [k]))[i]? = none := List.getElem?_eq_none (by simp [seenV]; omega)
    rw [h1, h2, if_neg (by omega)]

/-- Threads: places in code, each once. F: the blocks that they lie in. -/
def Th (w : World) (p n : Nat) (q : List Nat) (F : Nat → Prop) : Prop :=
  ∃ lv sb, Blk w p 115 [lv, .slice (some ⟨sb, 0, none⟩) n n] ∧ Vc.Own 0 3 1 encN w lv q ∧ Blk w sb 4 (seenV n q) ∧ p ≠ sb ∧ (∀ g, lv.ownBlock = some g → g ≠ p ∧ g ≠ sb ∧ F g) ∧ F p ∧ F sb ∧ Places n q

theorem Th.kept {w w' : World} {p n : Nat} {q : List Nat} {F X : Nat → Prop} (h : Th w p n q F) (hk : Kept X w w') (hX : ∀ k, F k → ¬ X k) : Th w' p n q F := by
  obtain ⟨lv, sb, h1, h2, h3, h4, h5, h6, h7, h8⟩ := h
  exact ⟨lv, sb, h1.kept hk (hX p h6), h2.keptX hk (fun g hg => hX g (h5 g hg).2.2), h3.kept hk (hX sb h7), h4, h5, h6, h7, h8⟩

theorem add_c (p n : Nat) (q : List Nat) (F : Nat → Prop) (k : Nat) (hk : k < n) (hn : n < 1000000) (w : World) (h : Th w p n q F) :
    Fun Tryz.prog 70 [.pointer (some ⟨p, 0, none⟩), .int .i64 k] w fun _ w' => Kept F w w' ∧ Th w' p n (addQ q k) (fun j => F j ∨ w.heap.size ≤ j) := by
  obtain ⟨lv, sb, hp, hl, hs, hne, hg, hFp, hFs, hP⟩ := h
  have c0 : w.cell? ⟨p, 0, none⟩ = some lv := hp.cell rfl
  have c1 : w.cell? ⟨p, 1, none⟩ = some (.slice (some ⟨sb, 0, none⟩) n n) := hp.cell rfl
  have cs : w.cell? ⟨sb, k, none⟩ = some (.bool (decide (k ∈ q))) := hs.cell (seenV_get hk)
  refine fun_of_vc Tryz.func70 rfl (by kernel_rfl) [] rfl ?_
  simp -dsimp (maxSteps := 4000000) only [push_cast, fr0, Tryz.ntmps70, List.length_cons, List.length_nil, Nat.reduceAdd, Nat.reduceSub, Nat.reduceBEq, List.replicate_succ, List.replicate_zero]
  simp -dsimp only [push_cast, Nat.reduceAdd, Nat.reduceLeDiff, Nat.reduceBEq, decide_true, c1, cs]
  refine ⟨⟨by omega, by omega⟩, ?_⟩
  have hql := hP.len
  refine ⟨fun hkq => ⟨⟨by omega, by omega⟩, ?_⟩, fun hkq => ?_⟩
  · have hkq : k ∉ q := hkq
    refine storeK_of hs (by simp [seenV]; exact hk) rfl ?_
    intro w1 hw1
    rw [seenV_add hk] at hw1
    have hp1 := hp.kept hw1.kept (by exact hne)
    have d0 : w1.cell? ⟨p, 0, none⟩ = some lv := hp1.cell rfl
    have hl1 := hl.keptX hw1.kept (fun g hg' => (hg g hg').2.1)
    simp -dsimp only [push_cast, Nat.reduceAdd, Nat.reduceLeDiff, Nat.reduceBEq, decide_true, d0]
    refine rowK elI_25 rfl rfl (by omega) ?_
    intro w2 hw2
    simp -dsimp only [push_cast, Nat.reduceAdd, Nat.reduceLeDiff, Nat.reduceBEq, decide_true]
    have hp2 := hp1.kept (Kept.new hw2 (X := fun _ => False)) id
    have hs2 := hw1.blk.kept (Kept.new hw2 (X := fun _ => False)) id
    have hsz2 := hw2.size
    have hsz1 := hw1.size
    refine appendK2 (base := 0) [k] (enc := encN) elI_25 (hl1.new hw2) rfl (fun j u hu => by simpa using hw2.cell hu) (by simp [encN, Value.oneCell']) (by simp only [List.length_cons, List.length_nil]; omega) (Nat.zero_le _) ?_
    intro v' w3 ho3 hg3 hn3
    have hgk : Kept (fun j => lv.ownBlock = some j) w2 w3 := Kept.grown hg3 (fun _ h => h)
    have hp3 := hp2.kept hgk (fun h => (hg _ h).1 rfl)
    have hs3 := hs2.kept hgk (fun h => (hg _ h).2.1 rfl)
    obtain ⟨a3, c3, hv3⟩ := ho3.slice
    subst hv3
    simp -dsimp only [push_cast, Nat.reduceAdd, Nat.reduceLeDiff, Nat.reduceBEq, decide_true]
    refine storeK_of hp3 (by simp) rfl ?_
    intro w4 hw4
    simp -dsimp only [push_cast, Nat.reduceAdd, Nat.reduceLeDiff, Nat.reduceBEq, decide_true]
    have k1 : Kept F w w1 := hw1.kept.weaken (fun i _ h => by subst h; exact hFs)
    have k2 : Kept F w w2 := k1.trans (Kept.new hw2 (X := fun _ => False)) (fun _ _ h => h.elim)
    have k3 : Kept F w w3 := k2.trans hgk (fun i _ h => (hg i h).2.2)
    have k4 : Kept F w w4 := k3.trans hw4.kept (fun i _ h => by subst h; exact hFp)
    have hnew : ∀ g, (Value.slice a3 (q ++ [k]).length c3).ownBlock = some g → g ≠ p ∧ g ≠ sb ∧ (F g ∨ w.heap.size ≤ g) := fun g hgg => by
      rcases hn3 g hgg with h | h
      · exact ⟨(hg g h).1, (hg g h).2.1, .inl (hg g h).2.2⟩
      · have := hp.lt; have := hs.lt
        exact ⟨by omega, by omega, .inr (by omega)⟩
    have e : addQ q k = q ++ [k] := by unfold addQ; rw [if_neg hkq]
    refine ⟨k4, _, sb, hw4.blk, ?_, by rw [e]; exact hs3.kept hw4.kept (fun h => hne h.symm), hne, hnew, .inl hFp, .inl hFs, hP.add hk⟩
    rw [e]
    exact ho3.keptX hw4.kept (fun g hgg h => (hnew g hgg).1 h)
  · have hkq : k ∈ q := Classical.byContradiction hkq
    have e : addQ q k = q := by unfold addQ; rw [if_pos hkq]
    refine ⟨Kept.refl _ _, ?_⟩
    rw [e]
    exact ⟨lv, sb, hp, hl, hs, hne, fun g h => ⟨(hg g h).1, (hg g h).2.1, .inl (hg g h).2.2⟩, .inl hFp, .inl hFs, hP⟩

theorem seenV_del {n : Nat} {q : List Nat} {k : Nat} (hk : k < n) : (seenV n q).set k (.bool false) = seenV n (q.filter (· ≠ k)) := by
  apply List.ext_getElem?
  intro i
  rw [List.getElem?_set]
  by_cases hi : i < n
  · rw [seenV_get hi, seenV_get hi]
    split
    · rename_i e; subst e; rw [if_pos (by simpa [seenV] using hk)]; simp
    · rename_i e
      congr 2
      rw [decide_eq_decide]
      simp only [List.mem_filter, decide_eq_true_eq]
      constructor
      · intro h; exact ⟨h, fun h => e h.symm⟩
      · exact fun h => h.1
  · have h1 : (seenV n q)[i]? = none := List.getElem?_eq_none (by simp [seenV]; omega)
    have h2 : (seenV n (q.filter (· ≠ k)))[i]? = none := List.getElem?_eq_none (by simp [seenV]; omega)
    rw [h1, h2, if_neg (by omega)]

theorem clear_c (p n : Nat) (q : List Nat) (F : Nat → Prop) (hn : n < 1000000) (w : World) (h : Th w p n q F) :
    Fun Tryz.prog 72 [.pointer (some ⟨p, 0, none⟩)] w fun _ w' => Kept F w w' ∧ Th w' p n [] F := by
  obtain ⟨lv, sb, hp, hl, hs, hne, hg, hFp, hFs, hP⟩ := h
  have c0 : w.cell? ⟨p, 0, none⟩ = some lv := hp.cell rfl
  obtain ⟨a, cp, rfl⟩ := hl.slice
  have hql := hP.len
  have hsl := hl.sl
  refine fun_of_vc Tryz.func72 rfl (by kernel_rfl) [] rfl ?_
  simp -dsimp (maxSteps := 4000000) only [push_cast, fr0, Tryz.ntmps72, List.length_cons, List.length_nil, Nat.reduceAdd, Nat.reduceSub, Nat.reduceBEq, List.replicate_succ, List.replicate_zero]
  simp -dsimp only [push_cast, Nat.reduceAdd, Nat.reduceLeDiff, Nat.reduceBEq, decide_true, c0]
  refine wpL_loop [3, 9, 10, 11, 12, 13, 14, 15, 16, 17, 18, 19] (fun z wx => ∃ (i : Nat), z 9 = .int .i64 i ∧ i ≤ q.length ∧ Kept (· = sb) w wx ∧ Blk wx sb 4 (seenV n (q.drop i))) (fun z _ => q.length - (intOf (z 9)).toNat) ?_ ?_
  · exact ⟨0, rfl, Nat.zero_le _, Kept.refl _ _, hs⟩
  · intro z wx hI
    obtain ⟨i, h9, hi, hk, hB⟩ := hI
    have hpx := hp.kept hk hne
    have d1 : wx.cell? ⟨p, 1, none⟩ = some (.slice (some ⟨sb, 0, none⟩) n n) := hpx.cell rfl
    have d0 : wx.cell? ⟨p, 0, none⟩ = some (.slice a q.length cp) := hpx.cell rfl
    have hlx := hl.keptX hk (fun g hg' h => (hg g hg').2.1 h)
    simp -dsimp only [push_cast, Nat.reduceAdd, Nat.reduceLeDiff, Nat.reduceBEq, decide_true, h9]
    refine ⟨fun hlt => ?_, fun hge => ?_⟩
    · obtain ⟨x, hx, hxm, hd, ht⟩ := lt_get (l := q) (i := i) (by omega)
      obtain ⟨b, o, rfl, hX, hcell⟩ := hlx.sl.get hx
      have cx : wx.cell? ⟨b, o + i, none⟩ = some (.int .i64 x) := by simpa using hcell 0 _ rfl
      have hxn := hP.2 x hxm
      simp -dsimp only [push_cast, Nat.reduceAdd, Nat.reduceLeDiff, Nat.reduceBEq, decide_true, cx, d1]
      refine ⟨⟨by omega, by omega⟩, ⟨by omega, by omega⟩, ?_⟩
      refine storeK_of hB (by simp [seenV]; exact hxn) rfl ?_
      intro w1 hw1
      rw [seenV_del hxn] at hw1
      simp -dsimp only [push_cast, Nat.reduceAdd, Nat.reduceLeDiff, Nat.reduceBEq, decide_true]
      refine ⟨⟨by omega, by omega⟩, ⟨i + 1, rfl, by omega, hk.trans hw1.kept (fun _ _ h => h), ?_⟩, by rw [h9]; simp only [intOf]; omega⟩
      have e : seenV n ((q.drop i).filter (· ≠ x)) = seenV n (q.drop (i + 1)) := by
        have hnd : (q.drop i).Nodup := hP.1.sublist (List.drop_sublist _ _)
        rw [hd] at hnd ⊢
        rw [List.filter_cons_of_neg (by simp)]
        have : (q.drop (i + 1)).filter (· ≠ x) = q.drop (i + 1) := List.filter_eq_self.2 (fun y hy => by
          have := (List.nodup_cons.1 hnd).1
          simp only [decide_eq_true_eq]
          intro h; subst h; exact this hy)
        rw [this]
      rw [e] at hw1
      exact hw1.blk
    · rw [List.drop_eq_nil_of_le (by omega)] at hB
      simp -dsimp only [push_cast, Nat.reduceAdd, Nat.reduceLeDiff, Nat.reduceBEq, decide_true, d0]
      have hfin : ∀ a' c', Vc.Own 0 3 1 encN wx (.slice a' 0 c') [] → (∀ g, (Value.slice a' 0 c').ownBlock = some g → (Value.slice a q.length cp).ownBlock = some g) → ∀ w2, Put wx w2 p 115 [.slice a' 0 c', .slice (some ⟨sb, 0, none⟩) n n] → Kept F w w2 ∧ Th w2 p n [] F := fun a' c' ho hgg w2 hw2 => by
        refine ⟨(hk.weaken (fun i _ h => by subst h; exact hFs)).trans hw2.kept (fun i _ h => by subst h; exact hFp), _, sb, hw2.blk, ho.keptX hw2.kept (fun g h1 h2 => (hg g (hgg g h1)).1 h2), hB.kept hw2.kept (fun h => hne h.symm), hne, fun g h1 => hg g (hgg g h1), hFp, hFs, Places.nil n⟩
      rcases hlx.cut with ⟨rfl, hq0, rfl, rfl⟩ | ⟨g, rfl, _, hle, hcut⟩
      · simp -dsimp only [push_cast, Nat.reduceAdd, Nat.reduceLeDiff, Nat.reduceBEq, decide_true]
        refine storeK_of hpx (by simp) rfl ?_
        intro w2 hw2
        simp -dsimp only [push_cast, Nat.reduceAdd, Nat.reduceLeDiff, Nat.reduceBEq, decide_true]
        exact hfin none 0 hlx (fun g h => h) w2 hw2
      · simp -dsimp only [push_cast, Nat.reduceAdd, Nat.reduceLeDiff, Nat.reduceBEq, decide_true]
        refine ⟨by omega, storeK_of hpx (by simp) rfl ?_⟩
        intro w2 hw2
        simp -dsimp only [push_cast, Nat.reduceAdd, Nat.reduceLeDiff, Nat.reduceBEq, decide_true]
        exact hfin _ cp (hcut 0 (Nat.zero_le _)) (fun g h => h) w2 hw2
end Go.Proofs.YtiofleijieepgaaGreatDoor
end
section
namespace Go.Vc
open Go.RowKit
theorem sl_mk {α : Type} {X : Nat → Prop} {k : Nat} {enc : α → List Value} {w : World} {a : Option Addr} {c n : Nat} {us : List α} (hl : us.length = n) (hc : n ≤ c) (hk : ∀ x, (enc x).length = k)
    (h : ∀ (i : Nat) (u : α), us[i]? = some u → ∃ b o, a = some ⟨b, o, none⟩ ∧ ¬ X b ∧ ∀ j x, (enc u)[j]? = some x → w.cell? ⟨b, o + i * k + j, none⟩ = some x) : Sl X k (En enc) w (.slice a n c) us := by
  subst hl
  refine ⟨a, c, rfl, hc, fun i u hu => ?_⟩
  obtain ⟨b, o, e, hX, hcell⟩ := h i u hu
  exact ⟨b, o, _, e, hX, hk u, hcell, rfl⟩
end Go.Vc
namespace Go.Proofs.YtiofleijieepgaaGreatDoor
open Go.Vc Go.Proofs Go.RowKit Cae
set_option maxRecDepth 100000
set_option linter.unusedSimpArgs false
set_option linter.unusedVariables false
attribute [local irreducible] wpL callK valK unitK runK Fun Sl Vc.Own vc vcOps opK pureK
set_option maxHeartbeats 8000000

theorem equalN_c (l l' : List Nat) (hl : l.length < 10000000) (X X' : Nat → Prop) (v v' : Value) (w : World) (hv : Sl X 1 (En encN) w v l) (hv' : Sl X' 1 (En encN) w v' l') :
    Fun Tryz.prog 12 [v, v'] w fun r w' => r = .bool (decide (l = l')) ∧ Below w.heap.size w w' := by
  obtain ⟨a, c, rfl, hc⟩ := hv.shape
  obtain ⟨a', c', rfl, hc'⟩ := hv'.shape
  refine fun_of_vc Tryz.func12 rfl (by kernel_rfl) [4] rfl ?_
  simp -dsimp (maxSteps := 4000000) only [push_cast, fr0, Tryz.ntmps12, List.length_cons, List.length_nil, Nat.reduceAdd, Nat.reduceSub, Nat.reduceBEq, List.replicate_succ, List.replicate_zero]
  refine ⟨fun hne => ⟨?_, Below.refl _ _⟩, fun he => ?_⟩
  · rw [decide_eq_false]
    intro h; subst h; omega
  have he' : l.length = l'.length := by omega
  refine wpL_loop [4, 5, 13, 14, 15, 16, 17, 18, 19, 20, 21, 22, 23, 24, 25] (fun z wx => ∃ (i : Nat), z 13 = .int .i64 i ∧ i ≤ l.length ∧ l.take i = l'.take i ∧ Below w.heap.size w wx) (fun z _ => l.length - (intOf (z 13)).toNat) ?_ ?_
  · exact ⟨0, rfl, Nat.zero_le _, rfl, Below.refl _ _⟩
  · intro z wx hI
    obtain ⟨i, h13, hi, hok, hb⟩ := hI
    simp -dsimp only [push_cast, Nat.reduceAdd, Nat.reduceLeDiff, Nat.reduceBEq, decide_true, h13]
    refine ⟨fun hlt => ?_, fun hge => ?_⟩
    · obtain ⟨x, hx, hxm, hd, ht⟩ := lt_get (l := l) (i := i) (by omega)
      obtain ⟨b, o, rfl, hX, hcell⟩ := (hv.below hb).get hx
      obtain ⟨x', hx', hxm', hd', ht'⟩ := lt_get (l := l') (i := i) (by omega)
      obtain ⟨b', o', rfl, hX', hcell'⟩ := (hv'.below hb).get hx'
      refine wpL_draw (fun w' => ∀ a, w'.cell? a = wx.cell? a) mixed (by kernel_rfl) (fun _ => rfl) ?_
      have c0 : wx.cell? ⟨b, o + i, none⟩ = some (.int .i64 (x : Int)) := by simpa using hcell 0 _ rfl
      have c0' : wx.cell? ⟨b', o' + i, none⟩ = some (.int .i64 (x' : Int)) := by simpa using hcell' 0 _ rfl
      have d0 : wx.drew.cell? ⟨b, o + i, none⟩ = some (.int .i64 (x : Int)) := c0
      have d0' : wx.drew.cell? ⟨b', o' + i, none⟩ = some (.int .i64 (x' : Int)) := c0'
      simp -dsimp only [push_cast, Nat.reduceAdd, Nat.reduceLeDiff, Nat.reduceBEq, decide_true, d0, d0']
      refine ⟨⟨by omega, by omega⟩, fun w'' hC => by rw [hC, c0]; exact rfl, ⟨by omega, by omega⟩, fun w'' hC => by rw [hC, c0']; exact rfl, fun hne => ?_, fun heq => ?_⟩
      · refine ⟨?_, hb.drew⟩
        rw [decide_eq_false]
        intro h; subst h; rw [hx] at hx'; cases hx'; exact hne rfl
      · have heq : x = x' := by omega
        exact ⟨⟨by omega, by omega⟩, ⟨i + 1, rfl, by omega, by rw [ht, ht', hok, heq], hb.drew⟩, by rw [h13]; simp only [intOf]; omega⟩
    · refine ⟨?_, hb⟩
      rw [List.take_of_length_le (by omega), List.take_of_length_le (by omega)] at hok
      rw [decide_eq_true hok]

/-- smallProgram, as the statements ask. -/
def smallProgP (p : ProgP) : Bool := decide (p.rules.length ≤ 25) && p.rules.all fun r => smallP r.before && smallP r.after

theorem smallPair_c (r : PairP) (X : Nat → Prop) (w : World) (cs : List Value) (hv : PairR X w cs r) :
    Fun Tryz.prog 22 [elV cs] w fun u w' => u = .bool (!(smallP r.before && smallP r.after)) ∧ Below w.heap.size w w' := by
  obtain ⟨s1, i1, s2, i2, rfl, h1, h2⟩ := hv
  show Fun _ _ [.agg #[.bool r.brk, s1, i1, s2, i2]] _ _
  refine fun_of_vc Tryz.func22 rfl (by kernel_rfl) [2] rfl ?_
  simp -dsimp (maxSteps := 4000000) only [push_cast, fr0, Tryz.ntmps22, List.length_cons, List.length_nil, Nat.reduceAdd, Nat.reduceSub, Nat.reduceBEq, List.replicate_succ, List.replicate_zero]
  refine boxK_of ?_
  intro w1 hw1
  have hw1 : New w w1 45 [.bool r.brk, s1, i1, s2, i2] := hw1
  have d1 : cellsAt w1 ⟨w.heap.size, 1, none⟩ 0 2 = some [s1, i1] := blkSome (n := 2) (xs := [s1, i1]) hw1.blk 1 rfl rfl
  simp -dsimp only [push_cast, Nat.reduceAdd, Nat.reduceLeDiff, Nat.reduceBEq, decide_true, d1]
  refine callK_of (small_c r.before X _ w1 (h1.below hw1.below)) ?_
  rintro _ w2 ⟨rfl, hb2⟩
  have sz1 := hw1.size
  have hB2 := hw1.below.trans (hb2.mono (by omega))
  have d2 : cellsAt w2 ⟨w.heap.size, 3, none⟩ 0 2 = some [s2, i2] := blkSome (n := 2) (xs := [s2, i2]) (hw1.blk.below hb2 (by omega)) 3 rfl rfl
  cases hr : smallP r.before with
  | false =>
    simp -dsimp only [push_cast, Nat.reduceAdd, Nat.reduceLeDiff, Nat.reduceBEq, decide_true, ne_eq, eq_self, not_true_eq_false, not_false_eq_true, true_imp_iff, false_imp_iff, Int.reduceNe, Int.reduceEq, Int.reduceLT, Int.reduceLE, Bool.not_true, Bool.not_false]
    exact ⟨by simp, hB2⟩
  | true =>
    simp -dsimp only [push_cast, Nat.reduceAdd, Nat.reduceLeDiff, Nat.reduceBEq, decide_true, ne_eq, eq_self, not_true_eq_false, not_false_eq_true, true_imp_iff, false_imp_iff, Int.reduceNe, Int.reduceEq, Int.reduceLT, Int.reduceLE, Bool.not_true, Bool.not_false, d2]
    refine callK_of (small_c r.after X _ w2 (h2.below hB2)) ?_
    rintro _ w3 ⟨rfl, hb3⟩
    simp -dsimp only [push_cast, Nat.reduceAdd, Nat.reduceLeDiff, Nat.reduceBEq, decide_true, ne_eq, eq_self, not_true_eq_false, not_false_eq_true, true_imp_iff, false_imp_iff, Int.reduceNe, Int.reduceEq, Int.reduceLT, Int.reduceLE, Bool.not_true, Bool.not_false]
    exact hB2.trans (hb3.mono hB2.size)

theorem smallProgram_c (p : ProgP) (X : Nat → Prop) (v : Value) (w : World) (hv : ProgV X w v p) :
    Fun Tryz.prog 6 [v] w fun u w' => u = .bool (smallProgP p) ∧ Below w.heap.size w w' := by
  obtain ⟨rv, rfl, hr⟩ := hv
  obtain ⟨a, c, rfl, hc⟩ := hr.shape
  refine fun_of_vc Tryz.func6 rfl (by kernel_rfl) [2] rfl ?_
  simp -dsimp (maxSteps := 4000000) only [push_cast, fr0, Tryz.ntmps6, List.length_cons, List.length_nil, Nat.reduceAdd, Nat.reduceSub, Nat.reduceBEq, List.replicate_succ, List.replicate_zero]
  refine boxK_of ?_
  intro w1 hw1
  have d0 : w1.cell? ⟨w.heap.size, 0, none⟩ = some (.slice a p.rules.length c) := hw1.cell rfl
  simp -dsimp only [push_cast, Nat.reduceAdd, Nat.reduceLeDiff, Nat.reduceBEq, decide_true, d0]
  refine ⟨fun h1 => ?_, fun h1 => ⟨by congr 1; unfold smallProgP; rw [decide_eq_false (by omega)]; rfl, hw1.below⟩⟩
  refine callK_of (pairsContains_c (PairR X w1) 22 [] (fun r => !(smallP r.before && smallP r.after)) p.rules (by omega) X _ w1 (PairsV.below hr hw1.below) ?_) ?_
  · intro r hrm cs hR _ w' hb'
    exact smallPair_c r X w' cs (hR.below hb')
  rintro _ w2 ⟨rfl, hb2⟩
  simp -dsimp only [push_cast, Nat.reduceAdd, Nat.reduceLeDiff, Nat.reduceBEq, decide_true]
  refine ⟨?_, hw1.below.trans (hb2.mono hw1.below.size)⟩
  rw [any_not]
  congr 1
  unfold smallProgP
  rw [decide_eq_true (by omega), Bool.true_and]

theorem smallProg_spec {p : ProgP} (h : smallProgP p = true) : p.rules.length ≤ 25 ∧ ∀ r ∈ p.rules, smallP r.before = true ∧ smallP r.after = true := by
  unfold smallProgP at h
  simp only [Bool.and_eq_true, decide_eq_true_eq, List.all_eq_true] at h
  exact h
theorem smallCode_len {c : CodeP} (h : smallP c = true) : CodeLen c := by
  have hs := small_lenC h
  exact ⟨hs.1, by omega, by omega⟩
theorem smallProg_len {p : ProgP} (h : smallProgP p = true) : ProgLen p := by
  obtain ⟨h1, h2⟩ := smallProg_spec h
  exact ⟨by omega, fun r hr => ⟨smallCode_len (h2 r hr).1, smallCode_len (h2 r hr).2⟩⟩
end Go.Proofs.YtiofleijieepgaaGreatDoor
end
section
set_option linter.unusedSimpArgs false
set_option linter.unusedVariables false
namespace Cae

/-! What a line adds, by its name. -/
theorem instA_take {c : CodeP} {s : List UInt8} (h : (cutP 32 s).1 = [116, 97, 107, 101]) : instA c s = match setP (cutP 32 s).2.1 with
    | none => none
    | some t => some ⟨if idxS t c.sets < c.sets.length then c.sets else c.sets ++ [t], c.ins ++ [⟨1, idxS t c.sets, 0⟩]⟩ := by
  unfold instA; dsimp only; rw [if_pos h]; cases setP (cutP 32 s).2.1 <;> rfl
theorem instA_split {c : CodeP} {s : List UInt8} (h : (cutP 32 s).1 = [115, 112, 108, 105, 116]) : instA c s = match numA (cutP 32 (cutP 32 s).2.1).1, numA (cutP 32 (cutP 32 s).2.1).2.1 with
    | some a, some b => if (cutP 32 (cutP 32 s).2.1).2.2 then some ⟨c.sets, c.ins ++ [⟨2, a, b⟩]⟩ else none
    | _, _ => none := by
  unfold instA; dsimp only; rw [if_neg (by rw [h]; decide), if_pos h]; cases numA (cutP 32 (cutP 32 s).2.1).1 <;> cases numA (cutP 32 (cutP 32 s).2.1).2.1 <;> rfl
theorem instA_jump {c : CodeP} {s : List UInt8} (h : (cutP 32 s).1 = [106, 117, 109, 112]) : instA c s = match numA (cutP 32 s).2.1 with
    | some a => some ⟨c.sets, c.ins ++ [⟨3, a, 0⟩]⟩
    | none => none := by
  unfold instA; dsimp only; rw [if_neg (by rw [h]; decide), if_neg (by rw [h]; decide), if_pos h]; cases numA (cutP 32 s).2.1 <;> rfl
theorem instA_end {c : CodeP} {s : List UInt8} (h : (cutP 32 s).1 = [101, 110, 100]) : instA c s = if (cutP 32 s).2.2 then none else some ⟨c.sets, c.ins ++ [⟨4, 0, 0⟩]⟩ := by
  unfold instA; dsimp only; rw [if_neg (by rw [h]; decide), if_neg (by rw [h]; decide), if_neg (by rw [h]; decide), if_pos h]
theorem instA_yes {c : CodeP} {s : List UInt8} (h : (cutP 32 s).1 = [121, 101, 115]) : instA c s = if (cutP 32 s).2.2 then none else some ⟨c.sets, c.ins ++ [⟨5, 0, 0⟩]⟩ := by
  unfold instA; dsimp only; rw [if_neg (by rw [h]; decide), if_neg (by rw [h]; decide), if_neg (by rw [h]; decide), if_neg (by rw [h]; decide), if_pos h]
theorem setP_right {s : List UInt8} {t : List Rg} (h : setP s = some t) : setRight (-2) t = true := by
  by_cases hx : ∃ l, PrintOf s l
  · obtain ⟨l, hl⟩ := hx
    rw [setP_of hl] at h
    cases h
    exact hl.1
  · rw [setP_no (fun l hl => hx ⟨l, hl⟩)] at h
    cases h
/-- Reading keeps: no more sets than instructions, an instruction a line, sets as they may be. -/
def Few (c : CodeP) : Prop := c.sets.length ≤ c.ins.length ∧ ∀ t ∈ c.sets, setRight (-2) t = true
theorem few_nil : Few ⟨[], []⟩ := ⟨Nat.le_refl _, fun t h => by cases h⟩
theorem instA_grow {c c' : CodeP} {s : List UInt8} (h : instA c s = some c') (hc : Few c) : Few c' ∧ c'.ins.length = c.ins.length + 1 := by
  have plain : ∀ x : I3, Few ⟨c.sets, c.ins ++ [x]⟩ ∧ (c.ins ++ [x]).length = c.ins.length + 1 := fun x => ⟨⟨by have := hc.1; show c.sets.length ≤ (c.ins ++ [x]).length; rw [List.length_append]; omega, hc.2⟩, by simp⟩
  unfold instA at h
  dsimp only at h
  split at h
  · split at h
    · cases h
    · rename_i t ht
      simp only [Option.some.injEq] at h
      subst h
      refine ⟨⟨?_, ?_⟩, by simp⟩
      · have := hc.1
        show (if idxS t c.sets < c.sets.length then c.sets else c.sets ++ [t]).length ≤ _
        split <;> simp <;> omega
      · intro u hu
        have hu : u ∈ (if idxS t c.sets < c.sets.length then c.sets else c.sets ++ [t]) := hu
        split at hu
        · exact hc.2 u hu
        · rw [List.mem_append, List.mem_singleton] at hu
          rcases hu with hu | rfl
          · exact hc.2 u hu
          · exact setP_right ht
  · split at h
    · split at h
      · split at h
        · simp only [Option.some.injEq] at h; subst h; exact plain _
        · cases h
      · cases h
    · split at h
      · split at h
        · simp only [Option.some.injEq] at h; subst h; exact plain _
        · cases h
      · split at h
        · split at h
          · cases h
          · simp only [Option.some.injEq] at h; subst h; exact plain _
        · split at h
          · split at h
            · cases h
            · simp only [Option.some.injEq] at h; subst h; exact plain _
          · cases h
theorem codeA_grow : ∀ {l l' : List (List UInt8)} {c c' : CodeP}, codeA c l = .ok (c', l') → Few c → Few c' ∧ c'.ins.length + l'.length = c.ins.length + l.length
  | [], l', c, c', h, hc => by
    rw [codeA] at h
    simp only [Except.ok.injEq, Prod.mk.injEq] at h
    obtain ⟨rfl, rfl⟩ := h
    exact ⟨hc, rfl⟩
  | s :: l, l', c, c', h, hc => by
    rw [codeA] at h
    split at h
    · simp only [Except.ok.injEq, Prod.mk.injEq] at h
      obtain ⟨rfl, rfl⟩ := h
      exact ⟨hc, rfl⟩
    · split at h
      · cases h
      · rename_i d hd
        obtain ⟨h1, h2⟩ := instA_grow hd hc
        obtain ⟨h3, h4⟩ := codeA_grow h h1
        exact ⟨h3, by rw [List.length_cons]; omega⟩
theorem codeA_err : ∀ {l : List (List UInt8)} {c : CodeP} {e : Nat}, codeA c l = .error e → e ≤ l.length
  | [], c, e, h => by rw [codeA] at h; cases h
  | s :: l, c, e, h => by
    rw [codeA] at h
    split at h
    · cases h
    · split at h
      · simp only [Except.error.injEq] at h
        subst h
        rw [List.length_cons]
        omega
      · have := codeA_err h
        rw [List.length_cons]
        omega
theorem pair_less {l l' : List (List UInt8)} {r : PairP} (h : pairA l = .ok (r, l')) : l'.length < l.length := by
  have := pair_read h
  subst this
  unfold pairL
  simp
  omega
theorem pair_few {l l' : List (List UInt8)} {r : PairP} (h : pairA l = .ok (r, l')) : Few r.before ∧ Few r.after ∧ r.before.ins.length + r.after.ins.length ≤ l.length := by
  unfold pairA at h
  split at h
  · cases h
  · rename_i b l1 h1
    split at h
    · cases h
    · rename_i c l2 h2
      split at h
      · cases h
      · rename_i l3 h3
        split at h
        · cases h
        · rename_i d l4 h4
          simp only [Except.ok.injEq, Prod.mk.injEq] at h
          obtain ⟨rfl, rfl⟩ := h
          obtain ⟨f1, g1⟩ := codeA_grow h2 few_nil
          obtain ⟨f2, g2⟩ := codeA_grow h4 few_nil
          have e1 := says_read h1
          have e3 := after_read h3
          have m1 := congrArg List.length e1
          have m3 := congrArg List.length e3
          simp only [List.length_cons, List.length_nil] at m1 m3 g1 g2
          exact ⟨f1, f2, by show c.ins.length + d.ins.length ≤ _; omega⟩
def FewP (n : Nat) (rs : List PairP) : Prop := rs.length ≤ n ∧ ∀ r ∈ rs, Few r.before ∧ Few r.after ∧ r.before.ins.length + r.after.ins.length ≤ n
theorem rulesA_few : ∀ {n N : Nat} {acc rs : List PairP} {l l' : List (List UInt8)}, rulesA n acc l = .ok (rs, l') → FewP N acc → acc.length + l.length ≤ N → FewP N rs
  | 0, N, acc, rs, l, l', h, ha, hl => by
    rw [rulesA] at h
    simp only [Except.ok.injEq, Prod.mk.injEq] at h
    obtain ⟨rfl, rfl⟩ := h
    exact ha
  | n + 1, N, acc, rs, l, l', h, ha, hl => by
    rw [rulesA] at h
    split at h
    · split at h
      · cases h
      · rename_i r m hm
        have hlt := pair_less hm
        have hf := pair_few hm
        refine rulesA_few h ⟨by rw [List.length_append]; simp; omega, fun x hx => ?_⟩ (by rw [List.length_append]; simp; omega)
        rw [List.mem_append, List.mem_singleton] at hx
        rcases hx with hx | rfl
        · exact ha.2 x hx
        · exact ⟨hf.1, hf.2.1, by omega⟩
    · simp only [Except.ok.injEq, Prod.mk.injEq] at h
      obtain ⟨rfl, rfl⟩ := h
      exact ha
theorem bodyA_few {l : List (List UInt8)} {p : ProgP} (h : bodyA l = .ok p) : FewP l.length p.rules := by
  unfold bodyA at h
  split at h
  · cases h
  · rename_i rs l1 h1
    have := rulesA_few (N := l.length) h1 ⟨Nat.zero_le _, fun r hr => by cases hr⟩ (by simp)
    split at h
    · cases h
    · split at h
      · simp only [Except.ok.injEq] at h; subst h; exact this
      · cases h
/-! Where reading goes, step by step. -/
theorem says_err {w : List UInt8} {l : List (List UInt8)} (h1 : ∀ l', l ≠ (w ++ wordT true) :: l') (h2 : ∀ l', l ≠ (w ++ wordT false) :: l') : saysA w l = .error l.length := by
  cases l with
  | nil => rfl
  | cons s l =>
    rw [saysA, if_neg (fun h => h1 l (by rw [h])), if_neg (fun h => h2 l (by rw [h]))]
    rfl
theorem says_put2 (w : List UInt8) (b : Bool) (l : List (List UInt8)) : saysA w ((w ++ wordT b) :: l) = .ok (b, l) := says_put w b l
theorem after_err {l : List (List UInt8)} (h : ∀ l', l ≠ afterW :: l') : afterA l = .error l.length := by
  cases l with
  | nil => rfl
  | cons s l =>
    rw [afterA, if_neg (fun e => h l (by rw [e]))]
    rfl
theorem after_put (l : List (List UInt8)) : afterA (afterW :: l) = .ok l := by rw [afterA, if_pos rfl]
theorem pair_e1 {l : List (List UInt8)} {e : Nat} (h : saysA ruleW l = .error e) : pairA l = .error e := by unfold pairA; simp only [h]
theorem pair_e2 {l l1 : List (List UInt8)} {b : Bool} {e : Nat} (h1 : saysA ruleW l = .ok (b, l1)) (h2 : codeA ⟨[], []⟩ l1 = .error e) : pairA l = .error e := by unfold pairA; simp only [h1, h2]
theorem pair_e3 {l l1 l2 : List (List UInt8)} {b : Bool} {c : CodeP} {e : Nat} (h1 : saysA ruleW l = .ok (b, l1)) (h2 : codeA ⟨[], []⟩ l1 = .ok (c, l2)) (h3 : afterA l2 = .error e) : pairA l = .error e := by unfold pairA; simp only [h1, h2, h3]
theorem pair_e4 {l l1 l2 l3 : List (List UInt8)} {b : Bool} {c : CodeP} {e : Nat} (h1 : saysA ruleW l = .ok (b, l1)) (h2 : codeA ⟨[], []⟩ l1 = .ok (c, l2)) (h3 : afterA l2 = .ok l3) (h4 : codeA ⟨[], []⟩ l3 = .error e) : pairA l = .error e := by unfold pairA; simp only [h1, h2, h3, h4]
theorem pair_ok {l l1 l2 l3 l4 : List (List UInt8)} {b : Bool} {c d : CodeP} (h1 : saysA ruleW l = .ok (b, l1)) (h2 : codeA ⟨[], []⟩ l1 = .ok (c, l2)) (h3 : afterA l2 = .ok l3) (h4 : codeA ⟨[], []⟩ l3 = .ok (d, l4)) : pairA l = .ok (⟨b, c, d⟩, l4) := by unfold pairA; simp only [h1, h2, h3, h4]
theorem rules_err {n : Nat} {acc : List PairP} {l : List (List UInt8)} {e : Nat} (hn : l.length ≤ n) (hs : ruleStartA l = true) (h : pairA l = .error e) : rulesA n acc l = .error e := by
  cases n with
  | zero =>
    have : l = [] := List.eq_nil_of_length_eq_zero (by omega)
    subst this; cases hs
  | succ n => rw [rulesA, if_pos hs]; simp only [h]
theorem rules_next {n : Nat} {acc : List PairP} {l l' : List (List UInt8)} {r : PairP} (hn : l.length ≤ n) (hs : ruleStartA l = true) (h : pairA l = .ok (r, l')) : ∃ m, rulesA n acc l = rulesA m (acc ++ [r]) l' ∧ l'.length ≤ m := by
  have hlt := pair_less h
  cases n with
  | zero => omega
  | succ n => exact ⟨n, by rw [rulesA, if_pos hs]; simp only [h], by omega⟩
theorem rules_end {n : Nat} {acc : List PairP} {l : List (List UInt8)} (hs : ruleStartA l = false) : rulesA n acc l = .ok (acc, l) := by
  cases n with
  | zero => rw [rulesA]
  | succ n => rw [rulesA, if_neg (by rw [hs]; simp)]
theorem body_e1 {L : List (List UInt8)} {e : Nat} (h : rulesA L.length [] L = .error e) : bodyA L = .error e := by unfold bodyA; simp only [h]
theorem body_e2 {L l : List (List UInt8)} {rs : List PairP} {e : Nat} (h : rulesA L.length [] L = .ok (rs, l)) (h2 : saysA elseW l = .error e) : bodyA L = .error e := by unfold bodyA; simp only [h, h2]
theorem body_e3 {L l : List (List UInt8)} {rs : List PairP} {b : Bool} {s : List UInt8} {l2 : List (List UInt8)} (h : rulesA L.length [] L = .ok (rs, l)) (h2 : saysA elseW l = .ok (b, s :: l2)) : bodyA L = .error (l2.length + 1) := by
  unfold bodyA; simp only [h, h2]; simp
theorem body_ok {L l : List (List UInt8)} {rs : List PairP} {b : Bool} (h : rulesA L.length [] L = .ok (rs, l)) (h2 : saysA elseW l = .ok (b, [])) : bodyA L = .ok ⟨rs, b⟩ := by
  unfold bodyA; simp only [h, h2]; simp
theorem parse_e {s : List UInt8} {e : Nat} (h : bodyA (linesA s) = .error e) : parseA s = .form ((linesA s).length - e) := by unfold parseA; simp only [h]
theorem parse_no {s : List UInt8} {p : ProgP} (h : bodyA (linesA s) = .ok p) (hs : ¬ s.getLast? = some 10) : parseA s = .form (linesA s).length := by unfold parseA; simp only [h]; rw [if_neg hs]
theorem parse_arg {s : List UInt8} {p : ProgP} (h : bodyA (linesA s) = .ok p) (hs : s.getLast? = some 10) (hp : progRight p = false) : parseA s = .arg := by unfold parseA; simp only [h]; rw [if_pos hs, if_neg (by rw [hp]; simp)]
theorem parse_yes {s : List UInt8} {p : ProgP} (h : bodyA (linesA s) = .ok p) (hs : s.getLast? = some 10) (hp : progRight p = true) : parseA s = .ok p := by unfold parseA; simp only [h]; rw [if_pos hs, if_pos hp]
/-! How long a text is. -/
theorem linesA_len (s : List UInt8) : (linesA s).length ≤ s.length + 1 := by
  have := splitB_len 10 (trimA s)
  have h2 : (trimA s).length ≤ s.length := by
    unfold trimA
    split <;> simp
  unfold linesA
  omega
theorem linesA_mem {s : List UInt8} : ∀ t ∈ linesA s, t.length ≤ s.length := by
  have key : ∀ (s : List UInt8), ∀ t ∈ splitB 10 s, t.length ≤ s.length := by
    intro s
    induction s with
    | nil => intro t ht; simp [splitB] at ht; subst ht; simp
    | cons b r ih =>
      intro t ht
      rw [splitB] at ht
      split at ht
      · rw [List.mem_cons] at ht
        rcases ht with rfl | ht
        · simp
        · have := ih t ht; simp; omega
      · split at ht
        · simp at ht; subst ht; simp
        · rename_i p ps hps
          rw [hps] at ih
          rw [List.mem_cons] at ht
          rcases ht with rfl | ht
          · have := ih p List.mem_cons_self; simp; omega
          · have := ih t (List.mem_cons_of_mem _ ht); simp; omega
  intro t ht
  have := key (trimA s) t ht
  have h2 : (trimA s).length ≤ s.length := by
    unfold trimA
    split <;> simp
  omega
theorem linesT_len {l : List (List UInt8)} {m : Nat} (h : ∀ t ∈ l, t.length + 1 ≤ m) : (linesT l).length ≤ l.length * m := by
  induction l with
  | nil => simp [linesT]
  | cons t l ih =>
    have h1 := h t List.mem_cons_self
    have h2 := ih (fun x hx => h x (List.mem_cons_of_mem _ hx))
    have e : linesT (t :: l) = t ++ 10 :: linesT l := by simp [linesT]
    rw [e, List.length_append, List.length_cons, List.length_cons, Nat.add_mul]
    omega
theorem printP_len (s : List Rg) : (printP s).length ≤ s.length * 20 + 2 := by
  have key : ∀ l : List Rg, (Go.Lib.join (l.map rgP) [32]).length ≤ l.length * 20 := by
    intro l
    induction l with
    | nil => simp [Go.Lib.join]
    | cons r l ih =>
      have h1 := rgP_len r
      cases l with
      | nil => simp [Go.Lib.join_one]; omega
      | cons r2 l =>
        rw [List.map_cons, List.map_cons, Go.Lib.join_cons]
        rw [List.map_cons, Go.Lib.join_cons] at ih
        simp only [Go.Lib.joinTail, List.map_cons, List.flatten_cons, List.length_append, List.length_cons, List.length_nil] at ih ⊢
        omega
  have := key s
  unfold printP
  simp only [List.length_cons, List.length_append, List.length_nil]
  omega
theorem inst_len {c : CodeP} (hc : codeRight c = true) (hs : ∀ s ∈ c.sets, s.length ≤ 20) {x : I3} (hx : x ∈ c.ins) : (instL c.sets x).length + 1 ≤ 408 := by
  obtain ⟨h1, h2, h3, _⟩ := code_parts hc
  obtain ⟨op, a, b⟩ := x
  rcases ins_cases (h2 _ hx) (by omega) with hh | hh | hh | hh | hh
  · obtain ⟨t, ht, hr, hlt⟩ := take_set hc hx hh.1
    have h0 := hh.1
    simp only at h0 ht hlt
    subst h0
    have e : instL c.sets ⟨1, a, b⟩ = [116, 97, 107, 101] ++ 32 :: printP t := by
      show [116, 97, 107, 101] ++ 32 :: printP (c.sets.getD a.toNat []) = _
      rw [ht]
    have hm : t ∈ c.sets := by
      rw [← ht, List.getD_eq_getElem?_getD, List.getElem?_eq_getElem hlt]
      exact List.getElem_mem _
    have := hs t hm
    have := printP_len t
    rw [e]
    simp only [List.length_append, List.length_cons, List.length_nil]
    omega
  · have h0 := hh.1
    simp only at h0 hh
    subst h0
    have := Go.Lib.itoa_length_le a (by omega) (by omega)
    have := Go.Lib.itoa_length_le b (by omega) (by omega)
    have e : instL c.sets ⟨2, a, b⟩ = [115, 112, 108, 105, 116] ++ 32 :: (itoaT a ++ 32 :: itoaT b) := rfl
    rw [e]
    unfold itoaT
    simp only [List.length_append, List.length_cons, List.length_nil]
    omega
  · have h0 := hh.1
    simp only at h0 hh
    subst h0
    have := Go.Lib.itoa_length_le a (by omega) (by omega)
    have e : instL c.sets ⟨3, a, b⟩ = [106, 117, 109, 112] ++ 32 :: itoaT a := rfl
    rw [e]
    unfold itoaT
    simp only [List.length_append, List.length_cons, List.length_nil]
    omega
  · have h0 := hh.1
    simp only at h0
    subst h0
    have e : instL c.sets ⟨4, a, b⟩ = [101, 110, 100] := rfl
    rw [e]; decide
  · have h0 := hh.1
    simp only at h0
    subst h0
    have e : instL c.sets ⟨5, a, b⟩ = [121, 101, 115] := rfl
    rw [e]; decide
end Cae
namespace Go.Proofs.YtiofleijieepgaaGreatDoor
open Go.Vc Go.Proofs Go.RowKit Cae
set_option maxRecDepth 100000
set_option linter.unusedSimpArgs false
set_option linter.unusedVariables false
attribute [local irreducible] wpL callK valK unitK runK Fun Sl Vc.Own vc vcOps opK pureK
theorem smallC_spec {c : CodeP} (h : smallP c = true) : c.sets.length ≤ 20 ∧ c.ins.length ≤ 60 ∧ ∀ s ∈ c.sets, s.length ≤ 20 := by
  unfold smallP at h
  simp only [Bool.and_eq_true, decide_eq_true_eq, List.all_eq_true] at h
  exact ⟨h.1.1, h.1.2, h.2⟩
theorem smallCode_text {c : CodeP} (h : smallP c = true) (hc : codeRight c = true) : (linesT (codeL c)).length ≤ 24480 := by
  obtain ⟨h1, h2, h3⟩ := smallC_spec h
  have := linesT_len (l := codeL c) (m := 408) (fun t ht => by
    unfold codeL at ht
    obtain ⟨x, hx, rfl⟩ := List.mem_map.1 ht
    exact inst_len hc h3 hx)
  have e : (codeL c).length = c.ins.length := by simp [codeL]
  rw [e] at this
  omega
theorem wordT_len (b : Bool) : (wordT b).length ≤ 5 := by cases b <;> decide
theorem smallProg_text {p : ProgP} (h : smallProgP p = true) (hr : progRight p = true) : (progT p).length ≤ 990000 := by
  obtain ⟨h1, h2⟩ := smallProg_spec h
  obtain ⟨h3, h4⟩ := right_parts hr
  have key : ∀ l : List PairP, (∀ r ∈ l, r ∈ p.rules) → (linesT (l.flatMap pairL)).length ≤ l.length * 49000 := by
    intro l
    induction l with
    | nil => intro _; simp [linesT]
    | cons r l ih =>
      intro hl
      have hm := hl r List.mem_cons_self
      have i1 := ih (fun x hx => hl x (List.mem_cons_of_mem _ hx))
      have i2 := smallCode_text (h2 r hm).1 (h4 r hm).1
      have i3 := smallCode_text (h2 r hm).2 (h4 r hm).2
      have i4 := wordT_len r.brk
      have e : linesT ((r :: l).flatMap pairL) = (ruleW ++ wordT r.brk ++ [10]) ++ (linesT (codeL r.before) ++ ((afterW ++ [10]) ++ (linesT (codeL r.after) ++ linesT (l.flatMap pairL)))) := by
        simp [linesT, pairL]
      rw [e]
      simp only [List.length_append, List.length_cons, List.length_nil, ruleW, afterW, Nat.add_mul]
      omega
  have k := key p.rules (fun _ h => h)
  have e : progT p = linesT (p.rules.flatMap pairL) ++ (elseW ++ wordT p.els ++ [10]) := by simp [progT, progL, linesT]
  have i4 := wordT_len p.els
  rw [e]
  simp only [List.length_append, List.length_cons, List.length_nil, elseW]
  omega
theorem few_len {c : CodeP} (h : Few c) (hn : c.ins.length < 1000000000) : CodeLen c := ⟨fun s hs => by have := right_len (h.2 s hs); omega, hn, by have := h.1; omega⟩
theorem fewP_len {n : Nat} {p : ProgP} (h : FewP n p.rules) (hn : n < 1000000000) : ProgLen p := ⟨by have := h.1; omega, fun r hr => by
  obtain ⟨h1, h2, h3⟩ := h.2 r hr
  exact ⟨few_len h1 (by omega), few_len h2 (by omega)⟩⟩
end Go.Proofs.YtiofleijieepgaaGreatDoor
end
section
namespace Go.Proofs.YtiofleijieepgaaGreatDoor
open Go.Vc Go.Proofs Go.RowKit Cae
set_option maxRecDepth 100000
set_option linter.unusedSimpArgs false
set_option linter.unusedVariables false
attribute [local irreducible] wpL callK valK unitK runK Fun Sl Vc.Own vc vcOps opK pureK
set_option maxHeartbeats 4000000
/-- Code that is being read: in a block cb, its rows the call's own (from B on); sets of it lie in none of these, nor in X. -/
structure Cd (B cb : Nat) (X : Nat → Prop) (w : World) (c : CodeP) : Prop where
  st : ∃ sv iv us, Blk w cb 43 [sv, iv] ∧ Vc.Own B 102 1 encSV w sv us ∧ Vc.Own B 89 3 encIn w iv c.ins ∧ us.length = c.sets.length ∧
    sv.ownBlock ≠ some cb ∧ iv.ownBlock ≠ some cb ∧ (∀ g, sv.ownBlock = some g → iv.ownBlock ≠ some g) ∧
    ∀ (i : Nat) (u : SV) (s : List Rg), us[i]? = some u → c.sets[i]? = some s → Sl (fun b => X b ∨ b = cb ∨ sv.ownBlock = some b ∨ iv.ownBlock = some b) 2 (En encR) w u.v s
  lt : cb < B
  le : B ≤ w.heap.size
  few : ∀ s ∈ c.sets, setRight (-2) s = true
theorem cut_len (c : UInt8) (s : List UInt8) : (cutP c s).1.length ≤ s.length ∧ (cutP c s).2.1.length ≤ s.length := by
  have h := cut_back c s
  cases hf : (cutP c s).2.2 with
  | true =>
    rw [hf] at h
    have := congrArg List.length h.1
    simp only [if_true, List.length_append, List.length_cons] at this
    omega
  | false =>
    rw [hf] at h
    have h1 := congrArg List.length h.1
    rw [h.2 rfl]
    simp at h1 ⊢
    omega
theorem sliceArrAll {P : Program} {xt : TypeId} {n s : Nat} {e : TypeId} {E : Option (TypeId × Nat)} {a : Addr} {L : VP} {o : Oper} {t : Fr} {w : World} {K : VK} {Q : EP} {p} (hu : P.underlying xt = some (.array n e)) (hn : P.arrayLen xt = n) (he : P.elem xt = e)
    (hs : (sizeOf e).run P w = .ok s w) (ho : execOp (ev t) o = (do pure (.value (← Instr.sliceAt xt (.pointer (some a)) none none none)))) (hj : 0 < n)
    (k : K (.slice (some a) n n) w) : sliceK (P.underlying xt) E (.pointer (some a)) none none none L (runK P o t w K Q .mk) p := by
  rw [hu]
  show runK P o t w K Q .mk
  refine runK_val ho (valK_of ?_ k)
  rw [run_sliceAt_array_all w xt a (by rw [hu, hn, he]), he, hs]
  rw [hn]
  unfold slicedAt
  show Result.ok (Value.slice (some (if n = 0 then a else a.add (0 * s))) (n - 0) (n - 0)) w = _
  rw [if_neg (by omega), Nat.zero_mul, Nat.sub_zero]
  rfl
theorem Cd.below {B cb : Nat} {X : Nat → Prop} {w w' : World} {c : CodeP} (h : Cd B cb X w c) (hb : Below w.heap.size w w') : Cd B cb X w' c := by
  obtain ⟨sv, iv, us, hB, hO1, hO2, hul, hs1, hs2, hs3, hus⟩ := h.st
  exact ⟨⟨sv, iv, us, hB.below hb hB.lt, hO1.below hb, hO2.below hb, hul, hs1, hs2, hs3, fun i u s h1 h2 => (hus i u s h1 h2).below hb⟩, h.lt, Nat.le_trans h.le hb.size, h.few⟩
theorem inst_c (B cb : Nat) (X : Nat → Prop) (c : CodeP) (s : List UInt8) (hs : s.length ≤ 1000000) (hsz : c.sets.length ≤ 1000000) (hin : c.ins.length ≤ 1000000) (w : World) (h : Cd B cb X w c) (hX : ∀ b, X b → b < B) (hd : Db w) (he : SErrs w) (hp : Pw w) (hn : Nms w) (hg : 14 ≤ B) :
    Fun Tryz.prog 60 [.pointer (some ⟨cb, 0, none⟩), str s] w fun r w' => r = .bool (instA c s).isSome ∧ (∀ c', instA c s = some c' → Cd B cb X w' c') ∧ (∃ c', Cd B cb X w' c') ∧ Kept (fun i => i = cb ∨ B ≤ i) w w' := by
  obtain ⟨sv, iv, us, hB, hO1, hO2, hul, hs1, hs2, hs3, hus⟩ := h.st
  obtain ⟨sa, sc, rfl⟩ := hO1.slice
  obtain ⟨ia, ic, rfl⟩ := hO2.slice
  have hle := h.le
  refine fun_of_vc Tryz.func60 rfl (by kernel_rfl) [4] rfl ?_
  simp -dsimp (maxSteps := 4000000) only [push_cast, fr0, Tryz.ntmps60, List.length_cons, List.length_nil, Nat.reduceAdd, Nat.reduceSub, Nat.reduceBEq, List.replicate_succ, List.replicate_zero]
  refine callK_of (cut_c s 32 (by omega) w) ?_
  rintro _ w1 ⟨rfl, hb1⟩
  have z1 := hb1.size
  have hn1 := hn.below (hb1.mono hle) hg
  simp -dsimp only [push_cast, Nat.reduceAdd, Nat.reduceLeDiff, Nat.reduceBEq, decide_true, ne_eq, eq_self, not_true_eq_false, not_false_eq_true, true_imp_iff, false_imp_iff, Int.reduceNe, Int.reduceEq, Int.reduceLT, Int.reduceLE, Bool.not_true, Bool.not_false]
  refine sliceArrAll (n := 6) (s := 1) (e := 9) (by kernel_rfl) (by kernel_rfl) (by kernel_rfl) (by rfl) rfl (by omega) ?_
  simp -dsimp only [push_cast, Nat.reduceAdd, Nat.reduceLeDiff, Nat.reduceBEq, decide_true, ne_eq, eq_self, not_true_eq_false, not_false_eq_true, true_imp_iff, false_imp_iff, Int.reduceNe, Int.reduceEq, Int.reduceLT, Int.reduceLE, Bool.not_true, Bool.not_false]
  refine callK_of (opIdx_c (cutP 32 s).1 w1 hn1) ?_
  rintro _ w1' ⟨rfl, hw1e⟩
  obtain rfl : w1 = w1' := hw1e.symm
  simp -dsimp only [push_cast, Nat.reduceAdd, Nat.reduceLeDiff, Nat.reduceBEq, decide_true, ne_eq, eq_self, not_true_eq_false, not_false_eq_true, true_imp_iff, false_imp_iff, Int.reduceNe, Int.reduceEq, Int.reduceLT, Int.reduceLE, Bool.not_true, Bool.not_false]
  refine allocK (z := [.int .i64 0, .int .i64 0, .int .i64 0]) (by kernel_rfl) ?_
  intro w2 hw2
  have z2 := hw2.size
  simp -dsimp only [push_cast, Nat.reduceAdd, Nat.reduceLeDiff, Nat.reduceBEq, decide_true, ne_eq, eq_self, not_true_eq_false, not_false_eq_true, true_imp_iff, false_imp_iff, Int.reduceNe, Int.reduceEq, Int.reduceLT, Int.reduceLE, Bool.not_true, Bool.not_false]
  refine storeAgg (n := 3) (by kernel_rfl) hw2.blk rfl (by simp) (by simp; exact ⟨rfl, rfl⟩) ?_
  intro w3 hw3
  have z3 := hw3.size
  have B3 : Blk w3 w1.heap.size 89 [.int .i64 (opOf (cutP 32 s).1), .int .i64 0, .int .i64 0] := hw3.blk
  have hb3 : Below w1.heap.size w1 w3 := hw2.below.trans (hw3.kept.below (B := w1.heap.size) (by omega) (fun i h => by omega))
  have hbw3 := hb1.trans (hb3.mono z1)
  have d30 : w3.cell? ⟨w1.heap.size, 0, none⟩ = some (.int .i64 (opOf (cutP 32 s).1)) := B3.cell rfl
  simp -dsimp only [push_cast, Nat.reduceAdd, Nat.reduceLeDiff, Nat.reduceBEq, decide_true, ne_eq, eq_self, not_true_eq_false, not_false_eq_true, true_imp_iff, false_imp_iff, Int.reduceNe, Int.reduceEq, Int.reduceLT, Int.reduceLE, Bool.not_true, Bool.not_false, d30]
  have ho : opOf (cutP 32 s).1 = 0 ∨ opOf (cutP 32 s).1 = -1 ∨ (opOf (cutP 32 s).1 = 1 ∧ (cutP 32 s).1 = [116, 97, 107, 101]) ∨ (opOf (cutP 32 s).1 = 2 ∧ (cutP 32 s).1 = [115, 112, 108, 105, 116]) ∨ (opOf (cutP 32 s).1 = 3 ∧ (cutP 32 s).1 = [106, 117, 109, 112]) ∨ (opOf (cutP 32 s).1 = 4 ∧ (cutP 32 s).1 = [101, 110, 100]) ∨ (opOf (cutP 32 s).1 = 5 ∧ (cutP 32 s).1 = [121, 101, 115]) := by
    unfold opOf
    repeat' split
    all_goals simp_all
  have k3 : Kept (fun i => i = cb ∨ B ≤ i) w w3 := Kept.of_below hbw3 (fun i h1 h2 => by omega)
  refine ⟨fun hno => ?_, fun hyes => ?_⟩
  · have hn0 : instA c s = none := by
      unfold instA
      dsimp only
      rcases ho with h | h | ⟨h, _⟩ | ⟨h, _⟩ | ⟨h, _⟩ | ⟨h, _⟩ | ⟨h, _⟩ <;> (try omega)
      · unfold opOf at h
        repeat' split at h
        all_goals first | omega | skip
        all_goals simp_all
      · unfold opOf at h
        repeat' split at h
        all_goals first | omega | skip
        all_goals simp_all
    exact ⟨by rw [hn0]; rfl, fun c' h' => (by rw [hn0] at h'; cases h'), ⟨_, h.below hbw3⟩, k3⟩
  have hyes' := Classical.not_not.1 hyes
  rcases ho with h0 | h0 | ⟨h0, hnm⟩ | ⟨h0, hnm⟩ | ⟨h0, hnm⟩ | ⟨h0, hnm⟩ | ⟨h0, hnm⟩
  · omega
  · omega
  · rw [h0] at B3
    have e21 : ¬ ((1 : Int) = 2) := by decide
    rw [h0]
    refine ⟨fun _ => ?_, fun h => absurd rfl h⟩
    have hIA := instA_take (c := c) hnm
    refine callK_of (parse_c (cutP 32 s).2.1 (by have := (cut_len 32 s).2; omega) w3 (hd.kept' (hbw3.mono hle) hg) (he.below hbw3)) ?_
    rintro r w4 ⟨hP, hb4⟩
    have z4 := hb4.size
    have B4 := B3.below hb4 (by omega)
    have hbw4 := hbw3.trans (hb4.mono (by omega))
    rcases hP with ⟨v, t, rfl, hO, hPr⟩ | ⟨hno, rfl⟩
    · have hsp := setP_of hPr
      have hIA : instA c s = some ⟨if idxS t c.sets < c.sets.length then c.sets else c.sets ++ [t], c.ins ++ [⟨1, idxS t c.sets, 0⟩]⟩ := by rw [hIA, hsp]
      have htl := right_len (setP_right hsp)
      simp -dsimp only [push_cast, Nat.reduceAdd, Nat.reduceLeDiff, Nat.reduceBEq, decide_true, ne_eq, eq_self, not_true_eq_false, not_false_eq_true, true_imp_iff, false_imp_iff, Int.reduceNe, Int.reduceEq, Int.reduceLT, Int.reduceLE, Bool.not_true, Bool.not_false]
      refine allocK (z := [.slice none 0 0]) (by kernel_rfl) ?_
      intro w5 hw5
      have z5 := hw5.size
      obtain ⟨va, vc, rfl⟩ := hO.slice
      simp -dsimp only [push_cast, Nat.reduceAdd, Nat.reduceLeDiff, Nat.reduceBEq, decide_true, ne_eq, eq_self, not_true_eq_false, not_false_eq_true, true_imp_iff, false_imp_iff, Int.reduceNe, Int.reduceEq, Int.reduceLT, Int.reduceLE, Bool.not_true, Bool.not_false]
      refine storeK_of hw5.blk (by simp) rfl ?_
      intro w6 hw6
      have z6 := hw6.size
      have hb56 : Below w4.heap.size w4 w6 := hw5.below.trans (hw6.kept.below (by omega) (fun _ h => by omega))
      have hbw6 := hbw4.trans (hb56.mono (by omega))
      have B6 := B4.below hb56 (by omega)
      have hB6 := hB.below hbw6 hB.lt
      have b60 : w6.cell? ⟨cb, 0, none⟩ = some (.slice sa us.length sc) := hB6.cell rfl
      simp -dsimp only [push_cast, Nat.reduceAdd, Nat.reduceLeDiff, Nat.reduceBEq, decide_true, ne_eq, eq_self, not_true_eq_false, not_false_eq_true, true_imp_iff, false_imp_iff, Int.reduceNe, Int.reduceEq, Int.reduceLT, Int.reduceLE, Bool.not_true, Bool.not_false, b60]
      have hSV : SetsV (fun _ => False) w6 (.slice sa us.length sc) c.sets := SetsV.of_values hul ((hO1.below hbw6).sl.weaken (fun _ h => h.elim)) (fun i u s h1 h2 => ((hus i u s h1 h2).below hbw6).weaken (fun _ h => h.elim))
      have hu6 : Sl (fun _ => False) 2 (En encR) w6 (.slice va t.length vc) t := (hO.below hb56).sl.weaken (fun _ h => h.elim)
      have S6 : Blk w6 w4.heap.size 102 [.slice va t.length vc] := hw6.blk
      have c60 : w6.cell? ⟨w4.heap.size, 0, none⟩ = some (.slice va t.length vc) := S6.cell rfl
      refine callK_of (setIdx_c t (by omega) c.sets (by omega) (fun x hx => by have := right_len (h.few x hx); omega) (fun _ => False) (fun _ => False) (.slice sa us.length sc) (.slice va t.length vc) w4.heap.size w6 hSV hu6 c60) ?_
      rintro _ w7 ⟨rfl, hb7⟩
      have z7 := hb7.size
      have hbw7 := hbw6.trans (hb7.mono (by omega))
      have B7 := B6.below hb7 (by omega)
      have S7 := S6.below hb7 (by omega)
      by_cases hix : idxS t c.sets < c.sets.length
      · rw [if_pos hix]
        rw [if_pos hix] at hIA
        simp -dsimp only [push_cast, Nat.reduceAdd, Nat.reduceLeDiff, Nat.reduceBEq, decide_true, ne_eq, eq_self, not_true_eq_false, not_false_eq_true, true_imp_iff, false_imp_iff, Int.reduceNe, Int.reduceEq, Int.reduceLT, Int.reduceLE, Bool.not_true, Bool.not_false]
        refine storeK_of B7 (by simp) rfl ?_
        intro w8 hw8
        have z8 := hw8.size
        have B8 : Blk w8 w1.heap.size 89 [.int .i64 1, .int .i64 (idxS t c.sets : Nat), .int .i64 0] := hw8.blk
        have b81 : w8.cell? ⟨w1.heap.size, 1, none⟩ = some (.int .i64 (idxS t c.sets : Nat)) := B8.cell rfl
        have hbw8 := hbw7.trans (hw8.kept.below (B := w.heap.size) (by omega) (fun i h => by omega))
        have k8 : Kept (fun i => i = cb ∨ B ≤ i) w w8 := Kept.of_below hbw8 (fun i h1 h2 => by omega)
        simp -dsimp only [push_cast, Nat.reduceAdd, Nat.reduceLeDiff, Nat.reduceBEq, decide_true, ne_eq, eq_self, not_true_eq_false, not_false_eq_true, true_imp_iff, false_imp_iff, Int.reduceNe, Int.reduceEq, Int.reduceLT, Int.reduceLE, Bool.not_true, Bool.not_false, b81]
        refine ⟨fun h0 => by omega, fun _ => ?_⟩
        have hB9 := hB.below hbw8 hB.lt
        have hul9 := hul
        have hfew9 := h.few
        have hO19 := hO1.below hbw8
        have hO29 := hO2.below hbw8
        have hus9 := fun (i : Nat) (u : SV) (s : List Rg) h1 h2 => (hus i u s h1 h2).below hbw8
        -- w8: the world; (.slice sa us.length sc): the sets' slice; B8: Blk of the instruction at it; (⟨1, (idxS t c.sets : Nat), 0⟩ : I3): the instruction; k8: Kept from w; c.sets: the sets; hB9, hO19, hO29, hus9: the code's parts at w8, its instructions those at entry
        have z9 := k8.size
        have B9d := hB9.drew
        have T9d := B8.drew
        refine wpL_lastN (fun w' => Blk w' cb 43 [(.slice sa us.length sc), .slice ia c.ins.length ic] ∧ Blk w' w1.heap.size 89 [.int .i64 (⟨1, (idxS t c.sets : Nat), 0⟩ : I3).op, .int .i64 (⟨1, (idxS t c.sets : Nat), 0⟩ : I3).a, .int .i64 (⟨1, (idxS t c.sets : Nat), 0⟩ : I3).b]) mixed (by kernel_rfl) (by simp) ⟨B9d, T9d⟩ ?_
        have f1 : (w8).drew.cell? ⟨cb, 1, none⟩ = some (.slice ia c.ins.length ic) := B9d.cell rfl
        have f2 : cellsAt (w8).drew ⟨w1.heap.size, 0, none⟩ 0 3 = some [.int .i64 (⟨1, (idxS t c.sets : Nat), 0⟩ : I3).op, .int .i64 (⟨1, (idxS t c.sets : Nat), 0⟩ : I3).a, .int .i64 (⟨1, (idxS t c.sets : Nat), 0⟩ : I3).b] := T9d.cellsAt
        simp -dsimp only [push_cast, Nat.reduceAdd, Nat.reduceLeDiff, Nat.reduceBEq, decide_true, ne_eq, eq_self, not_true_eq_false, not_false_eq_true, true_imp_iff, false_imp_iff, Int.reduceNe, Int.reduceEq, Int.reduceLT, Int.reduceLE, Bool.not_true, Bool.not_false, f1, f2]
        refine ⟨fun w'' h => by rw [h.1.cell (o := 1) rfl]; exact rfl, fun w'' h => by rw [show cellsAt w'' ⟨w1.heap.size, 0, none⟩ 0 3 = some [.int .i64 (⟨1, (idxS t c.sets : Nat), 0⟩ : I3).op, .int .i64 (⟨1, (idxS t c.sets : Nat), 0⟩ : I3).a, .int .i64 (⟨1, (idxS t c.sets : Nat), 0⟩ : I3).b] from h.2.cellsAt]; exact rfl, ?_⟩
        refine rowK elI_41 rfl rfl (by omega) ?_
        intro wa hwa
        have za : wa.heap.size = (w8).heap.size + 1 := hwa.size
        have Ba := B9d.below hwa.below B9d.lt
        have Ta := T9d.below hwa.below T9d.lt
        refine ⟨⟨Ba, Ta⟩, ?_⟩
        have hO2d : Vc.Own B 89 3 encIn (w8).drew (.slice ia c.ins.length ic) c.ins := hO29.keptX ((Kept.refl (fun _ => False) (w8)).drew) (fun _ _ h => h)
        have hOa := hO2d.new hwa
        simp -dsimp only [push_cast, Nat.reduceAdd, Nat.reduceLeDiff, Nat.reduceBEq, decide_true, ne_eq, eq_self, not_true_eq_false, not_false_eq_true, true_imp_iff, false_imp_iff, Int.reduceNe, Int.reduceEq, Int.reduceLT, Int.reduceLE, Bool.not_true, Bool.not_false]
        refine appendK2 (base := B) [(⟨1, (idxS t c.sets : Nat), 0⟩ : I3)] (enc := encIn) elI_41 hOa (by rfl) (fun j u hu => by simpa [encIn] using hwa.cell hu) (by simp [encIn, Value.oneCell']) (by simp only [List.length_cons, List.length_nil]; omega) (by show B ≤ wa.heap.size; omega) ?_
        intro vb wb hob hgb hnb
        have hiv : ∀ g, (Value.slice ia c.ins.length ic).ownBlock = some g → B ≤ g ∧ g < w.heap.size := fun g hg => hO2.block g hg
        have kb : Kept (fun j => (Value.slice ia c.ins.length ic).ownBlock = some j) (w8).drew wb := (Kept.new hwa).trans (Kept.grown hgb (fun _ h => h)) (fun _ _ h => h)
        have Bb := B9d.kept kb (fun h => hs2 h)
        have Tb := T9d.kept kb (fun h => by have := hiv _ h; omega)
        refine ⟨⟨Bb, Tb⟩, ?_⟩
        obtain ⟨ib, icb, rfl⟩ := hob.slice
        simp -dsimp only [push_cast, Nat.reduceAdd, Nat.reduceLeDiff, Nat.reduceBEq, decide_true, ne_eq, eq_self, not_true_eq_false, not_false_eq_true, true_imp_iff, false_imp_iff, Int.reduceNe, Int.reduceEq, Int.reduceLT, Int.reduceLE, Bool.not_true, Bool.not_false]
        refine storeK_of Bb (by simp) rfl ?_
        intro wc hwc
        have zc := hwc.size
        have kd9 : Kept (fun _ => False) (w8) (w8).drew := (Kept.refl _ _).drew
        have kc : Kept (fun j => (Value.slice ia c.ins.length ic).ownBlock = some j ∨ j = cb) (w8) wc := ((kd9.weaken (fun _ _ h => h.elim)).trans kb (fun _ _ h => .inl h)).trans hwc.kept (fun _ _ h => .inr h)
        have hO2c := hob.keptX hwc.kept (fun g hg hh => by have := (hob.block g hg).1; have := h.lt; omega)
        have hO1c := hO19.keptX kc (fun g hg hh => by
          rcases hh with hh | hh
          · exact ownNe hO19 hO29 (by decide) g hg hh
          · have := (hO19.block g hg).1; have := h.lt; omega)
        have kw : Kept (fun i => i = cb ∨ B ≤ i) w wc := k8.trans (kc.weaken (fun i _ hi => by
          rcases hi with hi | hi
          · exact .inr (hiv i hi).1
          · exact .inl hi)) (fun _ _ h => h)
        have Ct : Cd B cb X wc ⟨c.sets, c.ins ++ [(⟨1, (idxS t c.sets : Nat), 0⟩ : I3)]⟩ := by
          refine ⟨⟨_, _, _, hwc.blk, hO1c, hO2c, hul9, fun hh => by have := (hO1c.block _ hh).1; have := h.lt; omega, fun hh => by have := (hO2c.block _ hh).1; have := h.lt; omega, ownNe hO1c hO2c (by decide), fun i u t h1 h2 => ?_⟩, h.lt, by have := kw.size; omega, hfew9⟩
          refine (hus9 i u t h1 h2).moved (fun _ => by simp [encR]) kc (fun i hi => by
            rcases hi with hi | hi
            · exact .inr (.inr (.inr hi))
            · exact .inr (.inl hi)) (fun b hb => ?_)
          rcases hb with hb | hb | hb | hb
          · exact .inl (.inl hb)
          · exact .inl (.inr (.inl hb))
          · exact .inl (.inr (.inr (.inl hb)))
          · rcases hnb b hb with hh | hh
            · exact .inl (.inr (.inr (.inr hh)))
            · exact .inr (by omega)
        simp -dsimp only [push_cast, Nat.reduceAdd, Nat.reduceLeDiff, Nat.reduceBEq, decide_true, ne_eq, eq_self, not_true_eq_false, not_false_eq_true, true_imp_iff, false_imp_iff, Int.reduceNe, Int.reduceEq, Int.reduceLT, Int.reduceLE, Bool.not_true, Bool.not_false]
        rw [hIA]
        refine ⟨rfl, fun c' h' => ?_, ⟨_, Ct⟩, kw⟩
        cases h'
        exact Ct
      · rw [if_neg hix]
        rw [if_neg hix] at hIA
        have hil : idxS t c.sets = c.sets.length := by have := idxS_le t c.sets; omega
        simp -dsimp only [push_cast, Nat.reduceAdd, Nat.reduceLeDiff, Nat.reduceBEq, decide_true, ne_eq, eq_self, not_true_eq_false, not_false_eq_true, true_imp_iff, false_imp_iff, Int.reduceNe, Int.reduceEq, Int.reduceLT, Int.reduceLE, Bool.not_true, Bool.not_false]
        refine storeK_of B7 (by simp) rfl ?_
        intro w8 hw8
        have z8 := hw8.size
        have B8 : Blk w8 w1.heap.size 89 [.int .i64 1, .int .i64 (-1), .int .i64 0] := hw8.blk
        have b81 : w8.cell? ⟨w1.heap.size, 1, none⟩ = some (.int .i64 (-1)) := B8.cell rfl
        have hb78 : Below w.heap.size w7 w8 := hw8.kept.below (B := w.heap.size) (by omega) (fun i h => by omega)
        have hbw8 := hbw7.trans hb78
        have S8 := S7.kept hw8.kept (by omega)
        have hB8 := hB.below hbw8 hB.lt
        simp -dsimp only [push_cast, Nat.reduceAdd, Nat.reduceLeDiff, Nat.reduceBEq, decide_true, ne_eq, eq_self, not_true_eq_false, not_false_eq_true, true_imp_iff, false_imp_iff, Int.reduceNe, Int.reduceEq, Int.reduceLT, Int.reduceLE, Bool.not_true, Bool.not_false, b81]
        have kd8 : Kept (fun _ => False) w8 w8.drew := (Kept.refl _ _).drew
        refine wpL_lastN (fun w' => Blk w' cb 43 [.slice sa us.length sc, .slice ia c.ins.length ic] ∧ Blk w' w4.heap.size 102 [.slice va t.length vc]) mixed (by kernel_rfl) (by simp) ⟨hB8.drew, S8.drew⟩ ?_
        have f1 : w8.drew.cell? ⟨cb, 0, none⟩ = some (.slice sa us.length sc) := hB8.drew.cell rfl
        have f2 : w8.drew.cell? ⟨w4.heap.size, 0, none⟩ = some (.slice va t.length vc) := S8.drew.cell rfl
        simp -dsimp only [push_cast, Nat.reduceAdd, Nat.reduceLeDiff, Nat.reduceBEq, decide_true, ne_eq, eq_self, not_true_eq_false, not_false_eq_true, true_imp_iff, false_imp_iff, Int.reduceNe, Int.reduceEq, Int.reduceLT, Int.reduceLE, Bool.not_true, Bool.not_false, f1, f2]
        refine ⟨fun w'' h => by rw [h.1.cell (o := 0) rfl]; exact rfl, fun w'' h => by rw [h.2.cell (o := 0) rfl]; exact rfl, ?_⟩
        refine rowK elI_40 rfl rfl (by omega) ?_
        intro wa hwa
        have za : wa.heap.size = w8.heap.size + 1 := hwa.size
        have Ba := hB8.drew.below hwa.below hB8.lt
        have Sa := S8.drew.below hwa.below S8.lt
        refine ⟨⟨Ba, Sa⟩, ?_⟩
        have hbwd : Below w.heap.size w w8.drew := hbw8.drew
        have hO1a := (hO1.below hbwd).new hwa
        simp -dsimp only [push_cast, Nat.reduceAdd, Nat.reduceLeDiff, Nat.reduceBEq, decide_true, ne_eq, eq_self, not_true_eq_false, not_false_eq_true, true_imp_iff, false_imp_iff, Int.reduceNe, Int.reduceEq, Int.reduceLT, Int.reduceLE, Bool.not_true, Bool.not_false]
        refine appendK2 (base := B) [(⟨va, t.length, vc⟩ : SV)] (enc := encSV) elI_40 hO1a (by rfl) (fun j u hu => by simpa [encSV, SV.v] using hwa.cell hu) (by simp [encSV, SV.v, Value.oneCell']) (by simp only [List.length_cons, List.length_nil]; omega) (by show B ≤ wa.heap.size; omega) ?_
        intro vb wb hob hgb hnb
        have hsv : ∀ g, (Value.slice sa us.length sc).ownBlock = some g → B ≤ g ∧ g < w.heap.size := fun g hg => hO1.block g hg
        have kb : Kept (fun j => (Value.slice sa us.length sc).ownBlock = some j) w8.drew wb := (Kept.new hwa).trans (Kept.grown hgb (fun _ h => h)) (fun _ _ h => h)
        have Bb := hB8.drew.kept kb (fun h => hs1 h)
        have Sb := S8.drew.kept kb (fun h => by have := hsv _ h; omega)
        refine ⟨⟨Bb, Sb⟩, ?_⟩
        have zb : w8.heap.size + 1 ≤ wb.heap.size := by have := hgb.size; omega
        obtain ⟨ib, icb, rfl⟩ := hob.slice
        simp -dsimp only [push_cast, Nat.reduceAdd, Nat.reduceLeDiff, Nat.reduceBEq, decide_true, ne_eq, eq_self, not_true_eq_false, not_false_eq_true, true_imp_iff, false_imp_iff, Int.reduceNe, Int.reduceEq, Int.reduceLT, Int.reduceLE, Bool.not_true, Bool.not_false]
        refine storeK_of Bb (by simp) rfl ?_
        intro wc hwc
        have zc := hwc.size
        have Bc : Blk wc cb 43 [.slice ib (us ++ [(⟨va, t.length, vc⟩ : SV)]).length icb, .slice ia c.ins.length ic] := hwc.blk
        have c0 : wc.cell? ⟨cb, 0, none⟩ = some (.slice ib (us ++ [(⟨va, t.length, vc⟩ : SV)]).length icb) := Bc.cell rfl
        have kc : Kept (fun j => (Value.slice sa us.length sc).ownBlock = some j ∨ j = cb) w8 wc := ((kd8.weaken (fun _ _ h => h.elim)).trans kb (fun _ _ h => .inl h)).trans hwc.kept (fun _ _ h => .inr h)
        have Tc := B8.kept kc (fun hh => by
          rcases hh with hh | hh
          · have := hsv _ hh; omega
          · have := h.lt; omega)
        have hlu : (us ++ [(⟨va, t.length, vc⟩ : SV)]).length = c.sets.length + 1 := by simp [hul]
        simp -dsimp only [push_cast, Nat.reduceAdd, Nat.reduceLeDiff, Nat.reduceBEq, decide_true, ne_eq, eq_self, not_true_eq_false, not_false_eq_true, true_imp_iff, false_imp_iff, Int.reduceNe, Int.reduceEq, Int.reduceLT, Int.reduceLE, Bool.not_true, Bool.not_false, c0]
        refine ⟨by rw [hlu]; omega, ?_⟩
        refine storeK_of Tc (by simp) rfl ?_
        intro wd hwd
        have zd := hwd.size
        have hil2 : (((us ++ [(⟨va, t.length, vc⟩ : SV)]).length : Nat) : Int) - 1 = (idxS t c.sets : Nat) := by rw [hlu, hil]; omega
        have Bd : Blk wd w1.heap.size 89 [.int .i64 1, .int .i64 (idxS t c.sets : Nat), .int .i64 0] := by
          rw [← hil2]
          exact hwd.blk
        have kd : Kept (fun j => (Value.slice sa us.length sc).ownBlock = some j ∨ j = cb ∨ j = w1.heap.size) w8 wd := (kc.weaken (fun j _ hj => by
          rcases hj with hj | hj
          · exact .inl hj
          · exact .inr (.inl hj))).trans hwd.kept (fun _ _ h => .inr (.inr h))
        have kwd : Kept (fun i => i = cb ∨ B ≤ i) w wd := (Kept.of_below hbw8 (X := fun i => i = cb ∨ B ≤ i) (fun i h1 h2 => by omega)).trans kd (fun i _ hi => by
          rcases hi with hi | hi | hi
          · exact .inr (hsv i hi).1
          · exact .inl hi
          · exact .inr (by omega))
        have hB9 : Blk wd cb 43 [.slice ib (us ++ [(⟨va, t.length, vc⟩ : SV)]).length icb, .slice ia c.ins.length ic] := Bc.kept hwd.kept (by have := h.lt; omega)
        have hul9 : (us ++ [(⟨va, t.length, vc⟩ : SV)]).length = (c.sets ++ [t]).length := by rw [hlu]; simp
        have hfew9 : ∀ x ∈ c.sets ++ [t], setRight (-2) x = true := fun x hx => by
          rw [List.mem_append, List.mem_singleton] at hx
          rcases hx with hx | rfl
          · exact h.few x hx
          · exact setP_right hsp
        have hO19 : Vc.Own B 102 1 encSV wd (.slice ib (us ++ [(⟨va, t.length, vc⟩ : SV)]).length icb) (us ++ [(⟨va, t.length, vc⟩ : SV)]) := (hob.keptX hwc.kept (fun g hg hh => by have := (hob.block g hg).1; have := h.lt; omega)).keptX hwd.kept (fun g hg hh => by
          rcases hnb g hg with h1 | h1
          · have := hsv g h1; omega
          · have : wa.heap.size ≤ g := h1
            omega)
        have hO29 : Vc.Own B 89 3 encIn wd (.slice ia c.ins.length ic) c.ins := (hO2.below hbw8).keptX kd (fun g hg hh => by
          have hg2 := hO2.block g hg
          rcases hh with hh | hh | hh
          · exact hs3 g hh hg
          · have := h.lt; omega
          · omega)
        have hmem : ∀ b, (X b ∨ b = cb ∨ (Value.slice ib (us ++ [(⟨va, t.length, vc⟩ : SV)]).length icb).ownBlock = some b ∨ (Value.slice ia c.ins.length ic).ownBlock = some b) → (X b ∨ b = cb ∨ (Value.slice sa us.length sc).ownBlock = some b ∨ (Value.slice ia c.ins.length ic).ownBlock = some b) ∨ w8.heap.size ≤ b := fun b hb => by
          rcases hb with hb | hb | hb | hb
          · exact .inl (.inl hb)
          · exact .inl (.inr (.inl hb))
          · rcases hnb b hb with h1 | h1
            · exact .inl (.inr (.inr (.inl h1)))
            · have : wa.heap.size ≤ b := h1
              exact .inr (by omega)
          · exact .inl (.inr (.inr (.inr hb)))
        have hus9 : ∀ (i : Nat) (u : SV) (x : List Rg), (us ++ [(⟨va, t.length, vc⟩ : SV)])[i]? = some u → (c.sets ++ [t])[i]? = some x → Sl (fun b => X b ∨ b = cb ∨ (Value.slice ib (us ++ [(⟨va, t.length, vc⟩ : SV)]).length icb).ownBlock = some b ∨ (Value.slice ia c.ins.length ic).ownBlock = some b) 2 (En encR) wd u.v x := fun i u x h1 h2 => by
          have hlt : i < (us ++ [(⟨va, t.length, vc⟩ : SV)]).length := (List.getElem?_eq_some_iff.1 h1).1
          by_cases hi : i < us.length
          · rw [List.getElem?_append_left hi] at h1
            rw [List.getElem?_append_left (by omega)] at h2
            have h4 := Sl.fresh (enc := encR) (h := hus i u x h1 h2) (X' := fun b => (X b ∨ b = cb ∨ (Value.slice sa us.length sc).ownBlock = some b ∨ (Value.slice ia c.ins.length ic).ownBlock = some b) ∨ w.heap.size ≤ b) (fun _ => by simp [encR]) (fun b hb => hb)
            exact ((h4.below hbw8).kept kd (fun i hi => by
              rcases hi with hi | hi | hi
              · exact .inl (.inr (.inr (.inl hi)))
              · exact .inl (.inr (.inl hi))
              · exact .inr (by omega))).weaken (fun b hb => by
                rcases hmem b hb with h5 | h5
                · exact .inl h5
                · exact .inr (by omega))
          · have e : i = us.length := by have : i < us.length + 1 := by rw [List.length_append] at hlt; simpa using hlt
                                         omega
            subst e
            rw [List.getElem?_append_right (Nat.le_refl _), Nat.sub_self] at h1
            rw [hul, List.getElem?_append_right (Nat.le_refl _), Nat.sub_self] at h2
            simp at h1 h2
            subst h1; subst h2
            have hOg : ∀ g, (Value.slice va t.length vc).ownBlock = some g → w3.heap.size ≤ g ∧ g < w4.heap.size := fun g hg => hO.block g hg
            have h3 := ((((hO.below hb56).below hb7).keptX hw8.kept (fun g hg hh => by have := hOg g hg; omega)).slOwn)
            refine (h3.kept kd (fun i hi hh => ?_)).weaken (fun b hb hh => ?_)
            · have := hOg i hh
              rcases hi with hi | hi | hi
              · have := hsv i hi; omega
              · have := h.lt; omega
              · omega
            · have := hOg b hh
              rcases hmem b hb with h5 | h5
              · rcases h5 with h5 | h5 | h5 | h5
                · have := hX b h5; omega
                · have := h.lt; omega
                · have := hsv b h5; omega
                · have := hO2.block b h5; omega
              · omega
        simp -dsimp only [push_cast, Nat.reduceAdd, Nat.reduceLeDiff, Nat.reduceBEq, decide_true, ne_eq, eq_self, not_true_eq_false, not_false_eq_true, true_imp_iff, false_imp_iff, Int.reduceNe, Int.reduceEq, Int.reduceLT, Int.reduceLE, Bool.not_true, Bool.not_false]
        -- wd: the world; (.slice ib (us ++ [(⟨va, t.length, vc⟩ : SV)]).length icb): the sets' slice; Bd: Blk of the instruction at it; (⟨1, (idxS t c.sets : Nat), 0⟩ : I3): the instruction; kwd: Kept from w; (c.sets ++ [t]): the sets; hB9, hO19, hO29, hus9: the code's parts at wd, its instructions those at entry
        have z9 := kwd.size
        have B9d := hB9.drew
        have T9d := Bd.drew
        refine wpL_lastN (fun w' => Blk w' cb 43 [(.slice ib (us ++ [(⟨va, t.length, vc⟩ : SV)]).length icb), .slice ia c.ins.length ic] ∧ Blk w' w1.heap.size 89 [.int .i64 (⟨1, (idxS t c.sets : Nat), 0⟩ : I3).op, .int .i64 (⟨1, (idxS t c.sets : Nat), 0⟩ : I3).a, .int .i64 (⟨1, (idxS t c.sets : Nat), 0⟩ : I3).b]) mixed (by kernel_rfl) (by simp) ⟨B9d, T9d⟩ ?_
        have f1 : (wd).drew.cell? ⟨cb, 1, none⟩ = some (.slice ia c.ins.length ic) := B9d.cell rfl
        have f2 : cellsAt (wd).drew ⟨w1.heap.size, 0, none⟩ 0 3 = some [.int .i64 (⟨1, (idxS t c.sets : Nat), 0⟩ : I3).op, .int .i64 (⟨1, (idxS t c.sets : Nat), 0⟩ : I3).a, .int .i64 (⟨1, (idxS t c.sets : Nat), 0⟩ : I3).b] := T9d.cellsAt
        simp -dsimp only [push_cast, Nat.reduceAdd, Nat.reduceLeDiff, Nat.reduceBEq, decide_true, ne_eq, eq_self, not_true_eq_false, not_false_eq_true, true_imp_iff, false_imp_iff, Int.reduceNe, Int.reduceEq, Int.reduceLT, Int.reduceLE, Bool.not_true, Bool.not_false, f1, f2]
        refine ⟨fun w'' h => by rw [h.1.cell (o := 1) rfl]; exact rfl, fun w'' h => by rw [show cellsAt w'' ⟨w1.heap.size, 0, none⟩ 0 3 = some [.int .i64 (⟨1, (idxS t c.sets : Nat), 0⟩ : I3).op, .int .i64 (⟨1, (idxS t c.sets : Nat), 0⟩ : I3).a, .int .i64 (⟨1, (idxS t c.sets : Nat), 0⟩ : I3).b] from h.2.cellsAt]; exact rfl, ?_⟩
        refine rowK elI_41 rfl rfl (by omega) ?_
        intro wa hwa
        have za : wa.heap.size = (wd).heap.size + 1 := hwa.size
        have Ba := B9d.below hwa.below B9d.lt
        have Ta := T9d.below hwa.below T9d.lt
        refine ⟨⟨Ba, Ta⟩, ?_⟩
        have hO2d : Vc.Own B 89 3 encIn (wd).drew (.slice ia c.ins.length ic) c.ins := hO29.keptX ((Kept.refl (fun _ => False) (wd)).drew) (fun _ _ h => h)
        have hOa := hO2d.new hwa
        simp -dsimp only [push_cast, Nat.reduceAdd, Nat.reduceLeDiff, Nat.reduceBEq, decide_true, ne_eq, eq_self, not_true_eq_false, not_false_eq_true, true_imp_iff, false_imp_iff, Int.reduceNe, Int.reduceEq, Int.reduceLT, Int.reduceLE, Bool.not_true, Bool.not_false]
        refine appendK2 (base := B) [(⟨1, (idxS t c.sets : Nat), 0⟩ : I3)] (enc := encIn) elI_41 hOa (by rfl) (fun j u hu => by simpa [encIn] using hwa.cell hu) (by simp [encIn, Value.oneCell']) (by simp only [List.length_cons, List.length_nil]; omega) (by show B ≤ wa.heap.size; omega) ?_
        intro vb wb hob hgb hnb
        have hiv : ∀ g, (Value.slice ia c.ins.length ic).ownBlock = some g → B ≤ g ∧ g < w.heap.size := fun g hg => hO2.block g hg
        have kb : Kept (fun j => (Value.slice ia c.ins.length ic).ownBlock = some j) (wd).drew wb := (Kept.new hwa).trans (Kept.grown hgb (fun _ h => h)) (fun _ _ h => h)
        have Bb := B9d.kept kb (fun h => hs2 h)
        have Tb := T9d.kept kb (fun h => by have := hiv _ h; omega)
        refine ⟨⟨Bb, Tb⟩, ?_⟩
        obtain ⟨ib, icb, rfl⟩ := hob.slice
        simp -dsimp only [push_cast, Nat.reduceAdd, Nat.reduceLeDiff, Nat.reduceBEq, decide_true, ne_eq, eq_self, not_true_eq_false, not_false_eq_true, true_imp_iff, false_imp_iff, Int.reduceNe, Int.reduceEq, Int.reduceLT, Int.reduceLE, Bool.not_true, Bool.not_false]
        refine storeK_of Bb (by simp) rfl ?_
        intro wc hwc
        have zc := hwc.size
        have kd9 : Kept (fun _ => False) (wd) (wd).drew := (Kept.refl _ _).drew
        have kc : Kept (fun j => (Value.slice ia c.ins.length ic).ownBlock = some j ∨ j = cb) (wd) wc := ((kd9.weaken (fun _ _ h => h.elim)).trans kb (fun _ _ h => .inl h)).trans hwc.kept (fun _ _ h => .inr h)
        have hO2c := hob.keptX hwc.kept (fun g hg hh => by have := (hob.block g hg).1; have := h.lt; omega)
        have hO1c := hO19.keptX kc (fun g hg hh => by
          rcases hh with hh | hh
          · exact ownNe hO19 hO29 (by decide) g hg hh
          · have := (hO19.block g hg).1; have := h.lt; omega)
        have kw : Kept (fun i => i = cb ∨ B ≤ i) w wc := kwd.trans (kc.weaken (fun i _ hi => by
          rcases hi with hi | hi
          · exact .inr (hiv i hi).1
          · exact .inl hi)) (fun _ _ h => h)
        have Ct : Cd B cb X wc ⟨(c.sets ++ [t]), c.ins ++ [(⟨1, (idxS t c.sets : Nat), 0⟩ : I3)]⟩ := by
          refine ⟨⟨_, _, _, hwc.blk, hO1c, hO2c, hul9, fun hh => by have := (hO1c.block _ hh).1; have := h.lt; omega, fun hh => by have := (hO2c.block _ hh).1; have := h.lt; omega, ownNe hO1c hO2c (by decide), fun i u t h1 h2 => ?_⟩, h.lt, by have := kw.size; omega, hfew9⟩
          refine (hus9 i u t h1 h2).moved (fun _ => by simp [encR]) kc (fun i hi => by
            rcases hi with hi | hi
            · exact .inr (.inr (.inr hi))
            · exact .inr (.inl hi)) (fun b hb => ?_)
          rcases hb with hb | hb | hb | hb
          · exact .inl (.inl hb)
          · exact .inl (.inr (.inl hb))
          · exact .inl (.inr (.inr (.inl hb)))
          · rcases hnb b hb with hh | hh
            · exact .inl (.inr (.inr (.inr hh)))
            · exact .inr (by omega)
        simp -dsimp only [push_cast, Nat.reduceAdd, Nat.reduceLeDiff, Nat.reduceBEq, decide_true, ne_eq, eq_self, not_true_eq_false, not_false_eq_true, true_imp_iff, false_imp_iff, Int.reduceNe, Int.reduceEq, Int.reduceLT, Int.reduceLE, Bool.not_true, Bool.not_false]
        rw [hIA]
        refine ⟨rfl, fun c' h' => ?_, ⟨_, Ct⟩, kw⟩
        cases h'
        exact Ct
    · rw [setP_no hno] at hIA
      have hIA : instA c s = none := by rw [hIA]
      simp -dsimp only [push_cast, Nat.reduceAdd, Nat.reduceLeDiff, Nat.reduceBEq, decide_true, ne_eq, eq_self, not_true_eq_false, not_false_eq_true, true_imp_iff, false_imp_iff, Int.reduceNe, Int.reduceEq, Int.reduceLT, Int.reduceLE, Bool.not_true, Bool.not_false]
      refine allocK (z := [.slice none 0 0]) (by kernel_rfl) ?_
      intro w5 hw5
      have z5 := hw5.size
      simp -dsimp only [push_cast, Nat.reduceAdd, Nat.reduceLeDiff, Nat.reduceBEq, decide_true, ne_eq, eq_self, not_true_eq_false, not_false_eq_true, true_imp_iff, false_imp_iff, Int.reduceNe, Int.reduceEq, Int.reduceLT, Int.reduceLE, Bool.not_true, Bool.not_false]
      refine storeK_of hw5.blk (by simp) rfl ?_
      intro w6 hw6
      have z6 := hw6.size
      have hb56 : Below w4.heap.size w4 w6 := hw5.below.trans (hw6.kept.below (by omega) (fun _ h => by omega))
      have hbw6 := hbw4.trans (hb56.mono (by omega))
      have B6 := B4.below hb56 (by omega)
      have k6 : Kept (fun i => i = cb ∨ B ≤ i) w w6 := Kept.of_below hbw6 (fun i h1 h2 => by omega)
      have hB9 := hB.below hbw6 hB.lt
      have hul9 := hul
      have hfew9 := h.few
      have hO19 := hO1.below hbw6
      have hO29 := hO2.below hbw6
      have hus9 := fun (i : Nat) (u : SV) (s : List Rg) h1 h2 => (hus i u s h1 h2).below hbw6
      simp -dsimp only [push_cast, Nat.reduceAdd, Nat.reduceLeDiff, Nat.reduceBEq, decide_true, ne_eq, eq_self, not_true_eq_false, not_false_eq_true, true_imp_iff, false_imp_iff, Int.reduceNe, Int.reduceEq, Int.reduceLT, Int.reduceLE, Bool.not_true, Bool.not_false]
      -- w6: the world; (.slice sa us.length sc): the sets' slice; B6: Blk of the instruction at it; (⟨1, 0, 0⟩ : I3): the instruction; k6: Kept from w; c.sets: the sets; hB9, hO19, hO29, hus9: the code's parts at w6, its instructions those at entry
      have z9 := k6.size
      have B9d := hB9.drew
      have T9d := B6.drew
      refine wpL_lastN (fun w' => Blk w' cb 43 [(.slice sa us.length sc), .slice ia c.ins.length ic] ∧ Blk w' w1.heap.size 89 [.int .i64 (⟨1, 0, 0⟩ : I3).op, .int .i64 (⟨1, 0, 0⟩ : I3).a, .int .i64 (⟨1, 0, 0⟩ : I3).b]) mixed (by kernel_rfl) (by simp) ⟨B9d, T9d⟩ ?_
      have f1 : (w6).drew.cell? ⟨cb, 1, none⟩ = some (.slice ia c.ins.length ic) := B9d.cell rfl
      have f2 : cellsAt (w6).drew ⟨w1.heap.size, 0, none⟩ 0 3 = some [.int .i64 (⟨1, 0, 0⟩ : I3).op, .int .i64 (⟨1, 0, 0⟩ : I3).a, .int .i64 (⟨1, 0, 0⟩ : I3).b] := T9d.cellsAt
      simp -dsimp only [push_cast, Nat.reduceAdd, Nat.reduceLeDiff, Nat.reduceBEq, decide_true, ne_eq, eq_self, not_true_eq_false, not_false_eq_true, true_imp_iff, false_imp_iff, Int.reduceNe, Int.reduceEq, Int.reduceLT, Int.reduceLE, Bool.not_true, Bool.not_false, f1, f2]
      refine ⟨fun w'' h => by rw [h.1.cell (o := 1) rfl]; exact rfl, fun w'' h => by rw [show cellsAt w'' ⟨w1.heap.size, 0, none⟩ 0 3 = some [.int .i64 (⟨1, 0, 0⟩ : I3).op, .int .i64 (⟨1, 0, 0⟩ : I3).a, .int .i64 (⟨1, 0, 0⟩ : I3).b] from h.2.cellsAt]; exact rfl, ?_⟩
      refine rowK elI_41 rfl rfl (by omega) ?_
      intro wa hwa
      have za : wa.heap.size = (w6).heap.size + 1 := hwa.size
      have Ba := B9d.below hwa.below B9d.lt
      have Ta := T9d.below hwa.below T9d.lt
      refine ⟨⟨Ba, Ta⟩, ?_⟩
      have hO2d : Vc.Own B 89 3 encIn (w6).drew (.slice ia c.ins.length ic) c.ins := hO29.keptX ((Kept.refl (fun _ => False) (w6)).drew) (fun _ _ h => h)
      have hOa := hO2d.new hwa
      simp -dsimp only [push_cast, Nat.reduceAdd, Nat.reduceLeDiff, Nat.reduceBEq, decide_true, ne_eq, eq_self, not_true_eq_false, not_false_eq_true, true_imp_iff, false_imp_iff, Int.reduceNe, Int.reduceEq, Int.reduceLT, Int.reduceLE, Bool.not_true, Bool.not_false]
      refine appendK2 (base := B) [(⟨1, 0, 0⟩ : I3)] (enc := encIn) elI_41 hOa (by rfl) (fun j u hu => by simpa [encIn] using hwa.cell hu) (by simp [encIn, Value.oneCell']) (by simp only [List.length_cons, List.length_nil]; omega) (by show B ≤ wa.heap.size; omega) ?_
      intro vb wb hob hgb hnb
      have hiv : ∀ g, (Value.slice ia c.ins.length ic).ownBlock = some g → B ≤ g ∧ g < w.heap.size := fun g hg => hO2.block g hg
      have kb : Kept (fun j => (Value.slice ia c.ins.length ic).ownBlock = some j) (w6).drew wb := (Kept.new hwa).trans (Kept.grown hgb (fun _ h => h)) (fun _ _ h => h)
      have Bb := B9d.kept kb (fun h => hs2 h)
      have Tb := T9d.kept kb (fun h => by have := hiv _ h; omega)
      refine ⟨⟨Bb, Tb⟩, ?_⟩
      obtain ⟨ib, icb, rfl⟩ := hob.slice
      simp -dsimp only [push_cast, Nat.reduceAdd, Nat.reduceLeDiff, Nat.reduceBEq, decide_true, ne_eq, eq_self, not_true_eq_false, not_false_eq_true, true_imp_iff, false_imp_iff, Int.reduceNe, Int.reduceEq, Int.reduceLT, Int.reduceLE, Bool.not_true, Bool.not_false]
      refine storeK_of Bb (by simp) rfl ?_
      intro wc hwc
      have zc := hwc.size
      have kd9 : Kept (fun _ => False) (w6) (w6).drew := (Kept.refl _ _).drew
      have kc : Kept (fun j => (Value.slice ia c.ins.length ic).ownBlock = some j ∨ j = cb) (w6) wc := ((kd9.weaken (fun _ _ h => h.elim)).trans kb (fun _ _ h => .inl h)).trans hwc.kept (fun _ _ h => .inr h)
      have hO2c := hob.keptX hwc.kept (fun g hg hh => by have := (hob.block g hg).1; have := h.lt; omega)
      have hO1c := hO19.keptX kc (fun g hg hh => by
        rcases hh with hh | hh
        · exact ownNe hO19 hO29 (by decide) g hg hh
        · have := (hO19.block g hg).1; have := h.lt; omega)
      have kw : Kept (fun i => i = cb ∨ B ≤ i) w wc := k6.trans (kc.weaken (fun i _ hi => by
        rcases hi with hi | hi
        · exact .inr (hiv i hi).1
        · exact .inl hi)) (fun _ _ h => h)
      have Ct : Cd B cb X wc ⟨c.sets, c.ins ++ [(⟨1, 0, 0⟩ : I3)]⟩ := by
        refine ⟨⟨_, _, _, hwc.blk, hO1c, hO2c, hul9, fun hh => by have := (hO1c.block _ hh).1; have := h.lt; omega, fun hh => by have := (hO2c.block _ hh).1; have := h.lt; omega, ownNe hO1c hO2c (by decide), fun i u t h1 h2 => ?_⟩, h.lt, by have := kw.size; omega, hfew9⟩
        refine (hus9 i u t h1 h2).moved (fun _ => by simp [encR]) kc (fun i hi => by
          rcases hi with hi | hi
          · exact .inr (.inr (.inr hi))
          · exact .inr (.inl hi)) (fun b hb => ?_)
        rcases hb with hb | hb | hb | hb
        · exact .inl (.inl hb)
        · exact .inl (.inr (.inl hb))
        · exact .inl (.inr (.inr (.inl hb)))
        · rcases hnb b hb with hh | hh
          · exact .inl (.inr (.inr (.inr hh)))
          · exact .inr (by omega)
      simp -dsimp only [push_cast, Nat.reduceAdd, Nat.reduceLeDiff, Nat.reduceBEq, decide_true, ne_eq, eq_self, not_true_eq_false, not_false_eq_true, true_imp_iff, false_imp_iff, Int.reduceNe, Int.reduceEq, Int.reduceLT, Int.reduceLE, Bool.not_true, Bool.not_false]
      rw [hIA]
      exact ⟨rfl, fun c' h' => (by cases h'), ⟨_, Ct⟩, kw⟩
  · rw [h0] at B3
    rw [h0]
    refine ⟨fun h => by omega, fun _ => ⟨fun _ => ?_, fun h => absurd rfl h⟩⟩
    have hIA := instA_split (c := c) hnm
    have hcl := cut_len 32 s
    refine callK_of (cut_c (cutP 32 s).2.1 32 (by omega) w3) ?_
    rintro _ w4 ⟨rfl, hb4⟩
    have z4 := hb4.size
    have hcl2 := cut_len 32 (cutP 32 s).2.1
    have hbw4 := hbw3.trans (hb4.mono (by omega))
    have B4 := B3.below hb4 (by omega)
    have num : ∀ (x : List UInt8) (r : Value), ((∃ v, numA x = some v ∧ r = .tuple #[.int .i64 v, .bool true]) ∨ (numA x = none ∧ ∃ v, r = .tuple #[.int .i64 v, .bool false])) → ∃ v b, r = .tuple #[.int .i64 v, .bool b] ∧ numA x = if b then some v else none := fun x r h => by
      rcases h with ⟨v, h1, h2⟩ | ⟨h1, v, h2⟩
      · exact ⟨v, true, h2, by rw [h1]; rfl⟩
      · exact ⟨v, false, h2, by rw [h1]; rfl⟩
    simp -dsimp only [push_cast, Nat.reduceAdd, Nat.reduceLeDiff, Nat.reduceBEq, decide_true, ne_eq, eq_self, not_true_eq_false, not_false_eq_true, true_imp_iff, false_imp_iff, Int.reduceNe, Int.reduceEq, Int.reduceLT, Int.reduceLE, Bool.not_true, Bool.not_false]
    refine callK_of (number_c (cutP 32 (cutP 32 s).2.1).1 (by omega) w4 (he.below hbw4) (hp.below (hbw4.mono hle) hg) (by omega)) ?_
    rintro _ w5 ⟨hr5, hb5⟩
    obtain ⟨v1, b1, rfl, hv1⟩ := num _ _ hr5
    have z5 := hb5.size
    have hbw5 := hbw4.trans (hb5.mono (by omega))
    have B5 := B4.below hb5 (by omega)
    simp -dsimp only [push_cast, Nat.reduceAdd, Nat.reduceLeDiff, Nat.reduceBEq, decide_true, ne_eq, eq_self, not_true_eq_false, not_false_eq_true, true_imp_iff, false_imp_iff, Int.reduceNe, Int.reduceEq, Int.reduceLT, Int.reduceLE, Bool.not_true, Bool.not_false]
    refine storeK_of B5 (by simp) rfl ?_
    intro w6 hw6
    have z6 := hw6.size
    have B6 : Blk w6 w1.heap.size 89 [.int .i64 2, .int .i64 v1, .int .i64 0] := hw6.blk
    have hbw6 := hbw5.trans (hw6.kept.below (B := w.heap.size) (by omega) (fun i h => by omega))
    simp -dsimp only [push_cast, Nat.reduceAdd, Nat.reduceLeDiff, Nat.reduceBEq, decide_true, ne_eq, eq_self, not_true_eq_false, not_false_eq_true, true_imp_iff, false_imp_iff, Int.reduceNe, Int.reduceEq, Int.reduceLT, Int.reduceLE, Bool.not_true, Bool.not_false]
    refine callK_of (number_c (cutP 32 (cutP 32 s).2.1).2.1 (by omega) w6 (he.below hbw6) (hp.below (hbw6.mono hle) hg) (by omega)) ?_
    rintro _ w7 ⟨hr7, hb7⟩
    obtain ⟨v2, b2, rfl, hv2⟩ := num _ _ hr7
    have z7 := hb7.size
    have hbw7 := hbw6.trans (hb7.mono (by omega))
    have B7 := B6.below hb7 (by omega)
    simp -dsimp only [push_cast, Nat.reduceAdd, Nat.reduceLeDiff, Nat.reduceBEq, decide_true, ne_eq, eq_self, not_true_eq_false, not_false_eq_true, true_imp_iff, false_imp_iff, Int.reduceNe, Int.reduceEq, Int.reduceLT, Int.reduceLE, Bool.not_true, Bool.not_false]
    refine storeK_of B7 (by simp) rfl ?_
    intro w8 hw8
    have z8 := hw8.size
    have B8 : Blk w8 w1.heap.size 89 [.int .i64 2, .int .i64 v1, .int .i64 v2] := hw8.blk
    have hbw8 := hbw7.trans (hw8.kept.below (B := w.heap.size) (by omega) (fun i h => by omega))
    have k8 : Kept (fun i => i = cb ∨ B ≤ i) w w8 := Kept.of_below hbw8 (fun i h1 h2 => by omega)
    rw [hv1, hv2] at hIA
    have hB9 := hB.below hbw8 hB.lt
    have hul9 := hul
    have hfew9 := h.few
    have hO19 := hO1.below hbw8
    have hO29 := hO2.below hbw8
    have hus9 := fun (i : Nat) (u : SV) (s : List Rg) h1 h2 => (hus i u s h1 h2).below hbw8
    cases b1 with
    | true =>
      cases b2 with
      | true =>
        cases hm : (cutP 32 (cutP 32 s).2.1).2.2 with
        | true =>
          simp -dsimp only [push_cast, Nat.reduceAdd, Nat.reduceLeDiff, Nat.reduceBEq, decide_true, ne_eq, eq_self, not_true_eq_false, not_false_eq_true, true_imp_iff, false_imp_iff, Int.reduceNe, Int.reduceEq, Int.reduceLT, Int.reduceLE, Bool.not_true, Bool.not_false]
          -- w8: the world; (.slice sa us.length sc): the sets' slice; B8: Blk of the instruction at it; (⟨2, v1, v2⟩ : I3): the instruction; k8: Kept from w; c.sets: the sets; hB9, hO19, hO29, hus9: the code's parts at w8, its instructions those at entry
          have z9 := k8.size
          have B9d := hB9.drew
          have T9d := B8.drew
          refine wpL_lastN (fun w' => Blk w' cb 43 [(.slice sa us.length sc), .slice ia c.ins.length ic] ∧ Blk w' w1.heap.size 89 [.int .i64 (⟨2, v1, v2⟩ : I3).op, .int .i64 (⟨2, v1, v2⟩ : I3).a, .int .i64 (⟨2, v1, v2⟩ : I3).b]) mixed (by kernel_rfl) (by simp) ⟨B9d, T9d⟩ ?_
          have f1 : (w8).drew.cell? ⟨cb, 1, none⟩ = some (.slice ia c.ins.length ic) := B9d.cell rfl
          have f2 : cellsAt (w8).drew ⟨w1.heap.size, 0, none⟩ 0 3 = some [.int .i64 (⟨2, v1, v2⟩ : I3).op, .int .i64 (⟨2, v1, v2⟩ : I3).a, .int .i64 (⟨2, v1, v2⟩ : I3).b] := T9d.cellsAt
          simp -dsimp only [push_cast, Nat.reduceAdd, Nat.reduceLeDiff, Nat.reduceBEq, decide_true, ne_eq, eq_self, not_true_eq_false, not_false_eq_true, true_imp_iff, false_imp_iff, Int.reduceNe, Int.reduceEq, Int.reduceLT, Int.reduceLE, Bool.not_true, Bool.not_false, f1, f2]
          refine ⟨fun w'' h => by rw [h.1.cell (o := 1) rfl]; exact rfl, fun w'' h => by rw [show cellsAt w'' ⟨w1.heap.size, 0, none⟩ 0 3 = some [.int .i64 (⟨2, v1, v2⟩ : I3).op, .int .i64 (⟨2, v1, v2⟩ : I3).a, .int .i64 (⟨2, v1, v2⟩ : I3).b] from h.2.cellsAt]; exact rfl, ?_⟩
          refine rowK elI_41 rfl rfl (by omega) ?_
          intro wa hwa
          have za : wa.heap.size = (w8).heap.size + 1 := hwa.size
          have Ba := B9d.below hwa.below B9d.lt
          have Ta := T9d.below hwa.below T9d.lt
          refine ⟨⟨Ba, Ta⟩, ?_⟩
          have hO2d : Vc.Own B 89 3 encIn (w8).drew (.slice ia c.ins.length ic) c.ins := hO29.keptX ((Kept.refl (fun _ => False) (w8)).drew) (fun _ _ h => h)
          have hOa := hO2d.new hwa
          simp -dsimp only [push_cast, Nat.reduceAdd, Nat.reduceLeDiff, Nat.reduceBEq, decide_true, ne_eq, eq_self, not_true_eq_false, not_false_eq_true, true_imp_iff, false_imp_iff, Int.reduceNe, Int.reduceEq, Int.reduceLT, Int.reduceLE, Bool.not_true, Bool.not_false]
          refine appendK2 (base := B) [(⟨2, v1, v2⟩ : I3)] (enc := encIn) elI_41 hOa (by rfl) (fun j u hu => by simpa [encIn] using hwa.cell hu) (by simp [encIn, Value.oneCell']) (by simp only [List.length_cons, List.length_nil]; omega) (by show B ≤ wa.heap.size; omega) ?_
          intro vb wb hob hgb hnb
          have hiv : ∀ g, (Value.slice ia c.ins.length ic).ownBlock = some g → B ≤ g ∧ g < w.heap.size := fun g hg => hO2.block g hg
          have kb : Kept (fun j => (Value.slice ia c.ins.length ic).ownBlock = some j) (w8).drew wb := (Kept.new hwa).trans (Kept.grown hgb (fun _ h => h)) (fun _ _ h => h)
          have Bb := B9d.kept kb (fun h => hs2 h)
          have Tb := T9d.kept kb (fun h => by have := hiv _ h; omega)
          refine ⟨⟨Bb, Tb⟩, ?_⟩
          obtain ⟨ib, icb, rfl⟩ := hob.slice
          simp -dsimp only [push_cast, Nat.reduceAdd, Nat.reduceLeDiff, Nat.reduceBEq, decide_true, ne_eq, eq_self, not_true_eq_false, not_false_eq_true, true_imp_iff, false_imp_iff, Int.reduceNe, Int.reduceEq, Int.reduceLT, Int.reduceLE, Bool.not_true, Bool.not_false]
          refine storeK_of Bb (by simp) rfl ?_
          intro wc hwc
          have zc := hwc.size
          have kd9 : Kept (fun _ => False) (w8) (w8).drew := (Kept.refl _ _).drew
          have kc : Kept (fun j => (Value.slice ia c.ins.length ic).ownBlock = some j ∨ j = cb) (w8) wc := ((kd9.weaken (fun _ _ h => h.elim)).trans kb (fun _ _ h => .inl h)).trans hwc.kept (fun _ _ h => .inr h)
          have hO2c := hob.keptX hwc.kept (fun g hg hh => by have := (hob.block g hg).1; have := h.lt; omega)
          have hO1c := hO19.keptX kc (fun g hg hh => by
            rcases hh with hh | hh
            · exact ownNe hO19 hO29 (by decide) g hg hh
            · have := (hO19.block g hg).1; have := h.lt; omega)
          have kw : Kept (fun i => i = cb ∨ B ≤ i) w wc := k8.trans (kc.weaken (fun i _ hi => by
            rcases hi with hi | hi
            · exact .inr (hiv i hi).1
            · exact .inl hi)) (fun _ _ h => h)
          have Ct : Cd B cb X wc ⟨c.sets, c.ins ++ [(⟨2, v1, v2⟩ : I3)]⟩ := by
            refine ⟨⟨_, _, _, hwc.blk, hO1c, hO2c, hul9, fun hh => by have := (hO1c.block _ hh).1; have := h.lt; omega, fun hh => by have := (hO2c.block _ hh).1; have := h.lt; omega, ownNe hO1c hO2c (by decide), fun i u t h1 h2 => ?_⟩, h.lt, by have := kw.size; omega, hfew9⟩
            refine (hus9 i u t h1 h2).moved (fun _ => by simp [encR]) kc (fun i hi => by
              rcases hi with hi | hi
              · exact .inr (.inr (.inr hi))
              · exact .inr (.inl hi)) (fun b hb => ?_)
            rcases hb with hb | hb | hb | hb
            · exact .inl (.inl hb)
            · exact .inl (.inr (.inl hb))
            · exact .inl (.inr (.inr (.inl hb)))
            · rcases hnb b hb with hh | hh
              · exact .inl (.inr (.inr (.inr hh)))
              · exact .inr (by omega)
          simp -dsimp only [push_cast, Nat.reduceAdd, Nat.reduceLeDiff, Nat.reduceBEq, decide_true, ne_eq, eq_self, not_true_eq_false, not_false_eq_true, true_imp_iff, false_imp_iff, Int.reduceNe, Int.reduceEq, Int.reduceLT, Int.reduceLE, Bool.not_true, Bool.not_false]
          have hIB : instA c s = some ⟨c.sets, c.ins ++ [⟨2, v1, v2⟩]⟩ := by rw [hIA, hm]; rfl
          rw [hIB]
          refine ⟨rfl, fun c' h' => ?_, ⟨_, Ct⟩, kw⟩
          cases h'
          exact Ct
        | false =>
          simp -dsimp only [push_cast, Nat.reduceAdd, Nat.reduceLeDiff, Nat.reduceBEq, decide_true, ne_eq, eq_self, not_true_eq_false, not_false_eq_true, true_imp_iff, false_imp_iff, Int.reduceNe, Int.reduceEq, Int.reduceLT, Int.reduceLE, Bool.not_true, Bool.not_false]
          -- w8: the world; (.slice sa us.length sc): the sets' slice; B8: Blk of the instruction at it; (⟨2, v1, v2⟩ : I3): the instruction; k8: Kept from w; c.sets: the sets; hB9, hO19, hO29, hus9: the code's parts at w8, its instructions those at entry
          have z9 := k8.size
          have B9d := hB9.drew
          have T9d := B8.drew
          refine wpL_lastN (fun w' => Blk w' cb 43 [(.slice sa us.length sc), .slice ia c.ins.length ic] ∧ Blk w' w1.heap.size 89 [.int .i64 (⟨2, v1, v2⟩ : I3).op, .int .i64 (⟨2, v1, v2⟩ : I3).a, .int .i64 (⟨2, v1, v2⟩ : I3).b]) mixed (by kernel_rfl) (by simp) ⟨B9d, T9d⟩ ?_
          have f1 : (w8).drew.cell? ⟨cb, 1, none⟩ = some (.slice ia c.ins.length ic) := B9d.cell rfl
          have f2 : cellsAt (w8).drew ⟨w1.heap.size, 0, none⟩ 0 3 = some [.int .i64 (⟨2, v1, v2⟩ : I3).op, .int .i64 (⟨2, v1, v2⟩ : I3).a, .int .i64 (⟨2, v1, v2⟩ : I3).b] := T9d.cellsAt
          simp -dsimp only [push_cast, Nat.reduceAdd, Nat.reduceLeDiff, Nat.reduceBEq, decide_true, ne_eq, eq_self, not_true_eq_false, not_false_eq_true, true_imp_iff, false_imp_iff, Int.reduceNe, Int.reduceEq, Int.reduceLT, Int.reduceLE, Bool.not_true, Bool.not_false, f1, f2]
          refine ⟨fun w'' h => by rw [h.1.cell (o := 1) rfl]; exact rfl, fun w'' h => by rw [show cellsAt w'' ⟨w1.heap.size, 0, none⟩ 0 3 = some [.int .i64 (⟨2, v1, v2⟩ : I3).op, .int .i64 (⟨2, v1, v2⟩ : I3).a, .int .i64 (⟨2, v1, v2⟩ : I3).b] from h.2.cellsAt]; exact rfl, ?_⟩
          refine rowK elI_41 rfl rfl (by omega) ?_
          intro wa hwa
          have za : wa.heap.size = (w8).heap.size + 1 := hwa.size
          have Ba := B9d.below hwa.below B9d.lt
          have Ta := T9d.below hwa.below T9d.lt
          refine ⟨⟨Ba, Ta⟩, ?_⟩
          have hO2d : Vc.Own B 89 3 encIn (w8).drew (.slice ia c.ins.length ic) c.ins := hO29.keptX ((Kept.refl (fun _ => False) (w8)).drew) (fun _ _ h => h)
          have hOa := hO2d.new hwa
          simp -dsimp only [push_cast, Nat.reduceAdd, Nat.reduceLeDiff, Nat.reduceBEq, decide_true, ne_eq, eq_self, not_true_eq_false, not_false_eq_true, true_imp_iff, false_imp_iff, Int.reduceNe, Int.reduceEq, Int.reduceLT, Int.reduceLE, Bool.not_true, Bool.not_false]
          refine appendK2 (base := B) [(⟨2, v1, v2⟩ : I3)] (enc := encIn) elI_41 hOa (by rfl) (fun j u hu => by simpa [encIn] using hwa.cell hu) (by simp [encIn, Value.oneCell']) (by simp only [List.length_cons, List.length_nil]; omega) (by show B ≤ wa.heap.size; omega) ?_
          intro vb wb hob hgb hnb
          have hiv : ∀ g, (Value.slice ia c.ins.length ic).ownBlock = some g → B ≤ g ∧ g < w.heap.size := fun g hg => hO2.block g hg
          have kb : Kept (fun j => (Value.slice ia c.ins.length ic).ownBlock = some j) (w8).drew wb := (Kept.new hwa).trans (Kept.grown hgb (fun _ h => h)) (fun _ _ h => h)
          have Bb := B9d.kept kb (fun h => hs2 h)
          have Tb := T9d.kept kb (fun h => by have := hiv _ h; omega)
          refine ⟨⟨Bb, Tb⟩, ?_⟩
          obtain ⟨ib, icb, rfl⟩ := hob.slice
          simp -dsimp only [push_cast, Nat.reduceAdd, Nat.reduceLeDiff, Nat.reduceBEq, decide_true, ne_eq, eq_self, not_true_eq_false, not_false_eq_true, true_imp_iff, false_imp_iff, Int.reduceNe, Int.reduceEq, Int.reduceLT, Int.reduceLE, Bool.not_true, Bool.not_false]
          refine storeK_of Bb (by simp) rfl ?_
          intro wc hwc
          have zc := hwc.size
          have kd9 : Kept (fun _ => False) (w8) (w8).drew := (Kept.refl _ _).drew
          have kc : Kept (fun j => (Value.slice ia c.ins.length ic).ownBlock = some j ∨ j = cb) (w8) wc := ((kd9.weaken (fun _ _ h => h.elim)).trans kb (fun _ _ h => .inl h)).trans hwc.kept (fun _ _ h => .inr h)
          have hO2c := hob.keptX hwc.kept (fun g hg hh => by have := (hob.block g hg).1; have := h.lt; omega)
          have hO1c := hO19.keptX kc (fun g hg hh => by
            rcases hh with hh | hh
            · exact ownNe hO19 hO29 (by decide) g hg hh
            · have := (hO19.block g hg).1; have := h.lt; omega)
          have kw : Kept (fun i => i = cb ∨ B ≤ i) w wc := k8.trans (kc.weaken (fun i _ hi => by
            rcases hi with hi | hi
            · exact .inr (hiv i hi).1
            · exact .inl hi)) (fun _ _ h => h)
          have Ct : Cd B cb X wc ⟨c.sets, c.ins ++ [(⟨2, v1, v2⟩ : I3)]⟩ := by
            refine ⟨⟨_, _, _, hwc.blk, hO1c, hO2c, hul9, fun hh => by have := (hO1c.block _ hh).1; have := h.lt; omega, fun hh => by have := (hO2c.block _ hh).1; have := h.lt; omega, ownNe hO1c hO2c (by decide), fun i u t h1 h2 => ?_⟩, h.lt, by have := kw.size; omega, hfew9⟩
            refine (hus9 i u t h1 h2).moved (fun _ => by simp [encR]) kc (fun i hi => by
              rcases hi with hi | hi
              · exact .inr (.inr (.inr hi))
              · exact .inr (.inl hi)) (fun b hb => ?_)
            rcases hb with hb | hb | hb | hb
            · exact .inl (.inl hb)
            · exact .inl (.inr (.inl hb))
            · exact .inl (.inr (.inr (.inl hb)))
            · rcases hnb b hb with hh | hh
              · exact .inl (.inr (.inr (.inr hh)))
              · exact .inr (by omega)
          simp -dsimp only [push_cast, Nat.reduceAdd, Nat.reduceLeDiff, Nat.reduceBEq, decide_true, ne_eq, eq_self, not_true_eq_false, not_false_eq_true, true_imp_iff, false_imp_iff, Int.reduceNe, Int.reduceEq, Int.reduceLT, Int.reduceLE, Bool.not_true, Bool.not_false]
          have hIB : instA c s = none := by rw [hIA]; first | rfl | (rw [hm]; rfl)
          rw [hIB]
          exact ⟨rfl, fun c' h' => (by cases h'), ⟨_, Ct⟩, kw⟩
      | false =>
        simp -dsimp only [push_cast, Nat.reduceAdd, Nat.reduceLeDiff, Nat.reduceBEq, decide_true, ne_eq, eq_self, not_true_eq_false, not_false_eq_true, true_imp_iff, false_imp_iff, Int.reduceNe, Int.reduceEq, Int.reduceLT, Int.reduceLE, Bool.not_true, Bool.not_false]
        -- w8: the world; (.slice sa us.length sc): the sets' slice; B8: Blk of the instruction at it; (⟨2, v1, v2⟩ : I3): the instruction; k8: Kept from w; c.sets: the sets; hB9, hO19, hO29, hus9: the code's parts at w8, its instructions those at entry
        have z9 := k8.size
        have B9d := hB9.drew
        have T9d := B8.drew
        refine wpL_lastN (fun w' => Blk w' cb 43 [(.slice sa us.length sc), .slice ia c.ins.length ic] ∧ Blk w' w1.heap.size 89 [.int .i64 (⟨2, v1, v2⟩ : I3).op, .int .i64 (⟨2, v1, v2⟩ : I3).a, .int .i64 (⟨2, v1, v2⟩ : I3).b]) mixed (by kernel_rfl) (by simp) ⟨B9d, T9d⟩ ?_
        have f1 : (w8).drew.cell? ⟨cb, 1, none⟩ = some (.slice ia c.ins.length ic) := B9d.cell rfl
        have f2 : cellsAt (w8).drew ⟨w1.heap.size, 0, none⟩ 0 3 = some [.int .i64 (⟨2, v1, v2⟩ : I3).op, .int .i64 (⟨2, v1, v2⟩ : I3).a, .int .i64 (⟨2, v1, v2⟩ : I3).b] := T9d.cellsAt
        simp -dsimp only [push_cast, Nat.reduceAdd, Nat.reduceLeDiff, Nat.reduceBEq, decide_true, ne_eq, eq_self, not_true_eq_false, not_false_eq_true, true_imp_iff, false_imp_iff, Int.reduceNe, Int.reduceEq, Int.reduceLT, Int.reduceLE, Bool.not_true, Bool.not_false, f1, f2]
        refine ⟨fun w'' h => by rw [h.1.cell (o := 1) rfl]; exact rfl, fun w'' h => by rw [show cellsAt w'' ⟨w1.heap.size, 0, none⟩ 0 3 = some [.int .i64 (⟨2, v1, v2⟩ : I3).op, .int .i64 (⟨2, v1, v2⟩ : I3).a, .int .i64 (⟨2, v1, v2⟩ : I3).b] from h.2.cellsAt]; exact rfl, ?_⟩
        refine rowK elI_41 rfl rfl (by omega) ?_
        intro wa hwa
        have za : wa.heap.size = (w8).heap.size + 1 := hwa.size
        have Ba := B9d.below hwa.below B9d.lt
        have Ta := T9d.below hwa.below T9d.lt
        refine ⟨⟨Ba, Ta⟩, ?_⟩
        have hO2d : Vc.Own B 89 3 encIn (w8).drew (.slice ia c.ins.length ic) c.ins := hO29.keptX ((Kept.refl (fun _ => False) (w8)).drew) (fun _ _ h => h)
        have hOa := hO2d.new hwa
        simp -dsimp only [push_cast, Nat.reduceAdd, Nat.reduceLeDiff, Nat.reduceBEq, decide_true, ne_eq, eq_self, not_true_eq_false, not_false_eq_true, true_imp_iff, false_imp_iff, Int.reduceNe, Int.reduceEq, Int.reduceLT, Int.reduceLE, Bool.not_true, Bool.not_false]
        refine appendK2 (base := B) [(⟨2, v1, v2⟩ : I3)] (enc := encIn) elI_41 hOa (by rfl) (fun j u hu => by simpa [encIn] using hwa.cell hu) (by simp [encIn, Value.oneCell']) (by simp only [List.length_cons, List.length_nil]; omega) (by show B ≤ wa.heap.size; omega) ?_
        intro vb wb hob hgb hnb
        have hiv : ∀ g, (Value.slice ia c.ins.length ic).ownBlock = some g → B ≤ g ∧ g < w.heap.size := fun g hg => hO2.block g hg
        have kb : Kept (fun j => (Value.slice ia c.ins.length ic).ownBlock = some j) (w8).drew wb := (Kept.new hwa).trans (Kept.grown hgb (fun _ h => h)) (fun _ _ h => h)
        have Bb := B9d.kept kb (fun h => hs2 h)
        have Tb := T9d.kept kb (fun h => by have := hiv _ h; omega)
        refine ⟨⟨Bb, Tb⟩, ?_⟩
        obtain ⟨ib, icb, rfl⟩ := hob.slice
        simp -dsimp only [push_cast, Nat.reduceAdd, Nat.reduceLeDiff, Nat.reduceBEq, decide_true, ne_eq, eq_self, not_true_eq_false, not_false_eq_true, true_imp_iff, false_imp_iff, Int.reduceNe, Int.reduceEq, Int.reduceLT, Int.reduceLE, Bool.not_true, Bool.not_false]
        refine storeK_of Bb (by simp) rfl ?_
        intro wc hwc
        have zc := hwc.size
        have kd9 : Kept (fun _ => False) (w8) (w8).drew := (Kept.refl _ _).drew
        have kc : Kept (fun j => (Value.slice ia c.ins.length ic).ownBlock = some j ∨ j = cb) (w8) wc := ((kd9.weaken (fun _ _ h => h.elim)).trans kb (fun _ _ h => .inl h)).trans hwc.kept (fun _ _ h => .inr h)
        have hO2c := hob.keptX hwc.kept (fun g hg hh => by have := (hob.block g hg).1; have := h.lt; omega)
        have hO1c := hO19.keptX kc (fun g hg hh => by
          rcases hh with hh | hh
          · exact ownNe hO19 hO29 (by decide) g hg hh
          · have := (hO19.block g hg).1; have := h.lt; omega)
        have kw : Kept (fun i => i = cb ∨ B ≤ i) w wc := k8.trans (kc.weaken (fun i _ hi => by
          rcases hi with hi | hi
          · exact .inr (hiv i hi).1
          · exact .inl hi)) (fun _ _ h => h)
        have Ct : Cd B cb X wc ⟨c.sets, c.ins ++ [(⟨2, v1, v2⟩ : I3)]⟩ := by
          refine ⟨⟨_, _, _, hwc.blk, hO1c, hO2c, hul9, fun hh => by have := (hO1c.block _ hh).1; have := h.lt; omega, fun hh => by have := (hO2c.block _ hh).1; have := h.lt; omega, ownNe hO1c hO2c (by decide), fun i u t h1 h2 => ?_⟩, h.lt, by have := kw.size; omega, hfew9⟩
          refine (hus9 i u t h1 h2).moved (fun _ => by simp [encR]) kc (fun i hi => by
            rcases hi with hi | hi
            · exact .inr (.inr (.inr hi))
            · exact .inr (.inl hi)) (fun b hb => ?_)
          rcases hb with hb | hb | hb | hb
          · exact .inl (.inl hb)
          · exact .inl (.inr (.inl hb))
          · exact .inl (.inr (.inr (.inl hb)))
          · rcases hnb b hb with hh | hh
            · exact .inl (.inr (.inr (.inr hh)))
            · exact .inr (by omega)
        simp -dsimp only [push_cast, Nat.reduceAdd, Nat.reduceLeDiff, Nat.reduceBEq, decide_true, ne_eq, eq_self, not_true_eq_false, not_false_eq_true, true_imp_iff, false_imp_iff, Int.reduceNe, Int.reduceEq, Int.reduceLT, Int.reduceLE, Bool.not_true, Bool.not_false]
        have hIB : instA c s = none := by rw [hIA]; first | rfl | (rw [hm]; rfl)
        rw [hIB]
        exact ⟨rfl, fun c' h' => (by cases h'), ⟨_, Ct⟩, kw⟩
    | false =>
      simp -dsimp only [push_cast, Nat.reduceAdd, Nat.reduceLeDiff, Nat.reduceBEq, decide_true, ne_eq, eq_self, not_true_eq_false, not_false_eq_true, true_imp_iff, false_imp_iff, Int.reduceNe, Int.reduceEq, Int.reduceLT, Int.reduceLE, Bool.not_true, Bool.not_false]
      -- w8: the world; (.slice sa us.length sc): the sets' slice; B8: Blk of the instruction at it; (⟨2, v1, v2⟩ : I3): the instruction; k8: Kept from w; c.sets: the sets; hB9, hO19, hO29, hus9: the code's parts at w8, its instructions those at entry
      have z9 := k8.size
      have B9d := hB9.drew
      have T9d := B8.drew
      refine wpL_lastN (fun w' => Blk w' cb 43 [(.slice sa us.length sc), .slice ia c.ins.length ic] ∧ Blk w' w1.heap.size 89 [.int .i64 (⟨2, v1, v2⟩ : I3).op, .int .i64 (⟨2, v1, v2⟩ : I3).a, .int .i64 (⟨2, v1, v2⟩ : I3).b]) mixed (by kernel_rfl) (by simp) ⟨B9d, T9d⟩ ?_
      have f1 : (w8).drew.cell? ⟨cb, 1, none⟩ = some (.slice ia c.ins.length ic) := B9d.cell rfl
      have f2 : cellsAt (w8).drew ⟨w1.heap.size, 0, none⟩ 0 3 = some [.int .i64 (⟨2, v1, v2⟩ : I3).op, .int .i64 (⟨2, v1, v2⟩ : I3).a, .int .i64 (⟨2, v1, v2⟩ : I3).b] := T9d.cellsAt
      simp -dsimp only [push_cast, Nat.reduceAdd, Nat.reduceLeDiff, Nat.reduceBEq, decide_true, ne_eq, eq_self, not_true_eq_false, not_false_eq_true, true_imp_iff, false_imp_iff, Int.reduceNe, Int.reduceEq, Int.reduceLT, Int.reduceLE, Bool.not_true, Bool.not_false, f1, f2]
      refine ⟨fun w'' h => by rw [h.1.cell (o := 1) rfl]; exact rfl, fun w'' h => by rw [show cellsAt w'' ⟨w1.heap.size, 0, none⟩ 0 3 = some [.int .i64 (⟨2, v1, v2⟩ : I3).op, .int .i64 (⟨2, v1, v2⟩ : I3).a, .int .i64 (⟨2, v1, v2⟩ : I3).b] from h.2.cellsAt]; exact rfl, ?_⟩
      refine rowK elI_41 rfl rfl (by omega) ?_
      intro wa hwa
      have za : wa.heap.size = (w8).heap.size + 1 := hwa.size
      have Ba := B9d.below hwa.below B9d.lt
      have Ta := T9d.below hwa.below T9d.lt
      refine ⟨⟨Ba, Ta⟩, ?_⟩
      have hO2d : Vc.Own B 89 3 encIn (w8).drew (.slice ia c.ins.length ic) c.ins := hO29.keptX ((Kept.refl (fun _ => False) (w8)).drew) (fun _ _ h => h)
      have hOa := hO2d.new hwa
      simp -dsimp only [push_cast, Nat.reduceAdd, Nat.reduceLeDiff, Nat.reduceBEq, decide_true, ne_eq, eq_self, not_true_eq_false, not_false_eq_true, true_imp_iff, false_imp_iff, Int.reduceNe, Int.reduceEq, Int.reduceLT, Int.reduceLE, Bool.not_true, Bool.not_false]
      refine appendK2 (base := B) [(⟨2, v1, v2⟩ : I3)] (enc := encIn) elI_41 hOa (by rfl) (fun j u hu => by simpa [encIn] using hwa.cell hu) (by simp [encIn, Value.oneCell']) (by simp only [List.length_cons, List.length_nil]; omega) (by show B ≤ wa.heap.size; omega) ?_
      intro vb wb hob hgb hnb
      have hiv : ∀ g, (Value.slice ia c.ins.length ic).ownBlock = some g → B ≤ g ∧ g < w.heap.size := fun g hg => hO2.block g hg
      have kb : Kept (fun j => (Value.slice ia c.ins.length ic).ownBlock = some j) (w8).drew wb := (Kept.new hwa).trans (Kept.grown hgb (fun _ h => h)) (fun _ _ h => h)
      have Bb := B9d.kept kb (fun h => hs2 h)
      have Tb := T9d.kept kb (fun h => by have := hiv _ h; omega)
      refine ⟨⟨Bb, Tb⟩, ?_⟩
      obtain ⟨ib, icb, rfl⟩ := hob.slice
      simp -dsimp only [push_cast, Nat.reduceAdd, Nat.reduceLeDiff, Nat.reduceBEq, decide_true, ne_eq, eq_self, not_true_eq_false, not_false_eq_true, true_imp_iff, false_imp_iff, Int.reduceNe, Int.reduceEq, Int.reduceLT, Int.reduceLE, Bool.not_true, Bool.not_false]
      refine storeK_of Bb (by simp) rfl ?_
      intro wc hwc
      have zc := hwc.size
      have kd9 : Kept (fun _ => False) (w8) (w8).drew := (Kept.refl _ _).drew
      have kc : Kept (fun j => (Value.slice ia c.ins.length ic).ownBlock = some j ∨ j = cb) (w8) wc := ((kd9.weaken (fun _ _ h => h.elim)).trans kb (fun _ _ h => .inl h)).trans hwc.kept (fun _ _ h => .inr h)
      have hO2c := hob.keptX hwc.kept (fun g hg hh => by have := (hob.block g hg).1; have := h.lt; omega)
      have hO1c := hO19.keptX kc (fun g hg hh => by
        rcases hh with hh | hh
        · exact ownNe hO19 hO29 (by decide) g hg hh
        · have := (hO19.block g hg).1; have := h.lt; omega)
      have kw : Kept (fun i => i = cb ∨ B ≤ i) w wc := k8.trans (kc.weaken (fun i _ hi => by
        rcases hi with hi | hi
        · exact .inr (hiv i hi).1
        · exact .inl hi)) (fun _ _ h => h)
      have Ct : Cd B cb X wc ⟨c.sets, c.ins ++ [(⟨2, v1, v2⟩ : I3)]⟩ := by
        refine ⟨⟨_, _, _, hwc.blk, hO1c, hO2c, hul9, fun hh => by have := (hO1c.block _ hh).1; have := h.lt; omega, fun hh => by have := (hO2c.block _ hh).1; have := h.lt; omega, ownNe hO1c hO2c (by decide), fun i u t h1 h2 => ?_⟩, h.lt, by have := kw.size; omega, hfew9⟩
        refine (hus9 i u t h1 h2).moved (fun _ => by simp [encR]) kc (fun i hi => by
          rcases hi with hi | hi
          · exact .inr (.inr (.inr hi))
          · exact .inr (.inl hi)) (fun b hb => ?_)
        rcases hb with hb | hb | hb | hb
        · exact .inl (.inl hb)
        · exact .inl (.inr (.inl hb))
        · exact .inl (.inr (.inr (.inl hb)))
        · rcases hnb b hb with hh | hh
          · exact .inl (.inr (.inr (.inr hh)))
          · exact .inr (by omega)
      simp -dsimp only [push_cast, Nat.reduceAdd, Nat.reduceLeDiff, Nat.reduceBEq, decide_true, ne_eq, eq_self, not_true_eq_false, not_false_eq_true, true_imp_iff, false_imp_iff, Int.reduceNe, Int.reduceEq, Int.reduceLT, Int.reduceLE, Bool.not_true, Bool.not_false]
      have hIB : instA c s = none := by rw [hIA]; first | rfl | (rw [hm]; rfl)
      rw [hIB]
      exact ⟨rfl, fun c' h' => (by cases h'), ⟨_, Ct⟩, kw⟩
  · rw [h0] at B3
    rw [h0]
    refine ⟨fun h => by omega, fun _ => ⟨fun h => by omega, fun _ => ⟨fun _ => ?_, fun h => absurd rfl h⟩⟩⟩
    have hIA := instA_jump (c := c) hnm
    have hcl := cut_len 32 s
    refine callK_of (number_c (cutP 32 s).2.1 (by omega) w3 (he.below hbw3) (hp.below (hbw3.mono hle) hg) (by omega)) ?_
    rintro _ w5 ⟨hr5, hb5⟩
    have hr : ∃ v b, (‹Value› : Value) = .tuple #[.int .i64 v, .bool b] ∧ numA (cutP 32 s).2.1 = if b then some v else none := by
      rcases hr5 with ⟨v, h1, h2⟩ | ⟨h1, v, h2⟩
      · exact ⟨v, true, h2, by rw [h1]; rfl⟩
      · exact ⟨v, false, h2, by rw [h1]; rfl⟩
    obtain ⟨v1, b1, rfl, hv1⟩ := hr
    have z5 := hb5.size
    have hbw5 := hbw3.trans (hb5.mono (by omega))
    have B5 := B3.below hb5 (by omega)
    simp -dsimp only [push_cast, Nat.reduceAdd, Nat.reduceLeDiff, Nat.reduceBEq, decide_true, ne_eq, eq_self, not_true_eq_false, not_false_eq_true, true_imp_iff, false_imp_iff, Int.reduceNe, Int.reduceEq, Int.reduceLT, Int.reduceLE, Bool.not_true, Bool.not_false]
    refine storeK_of B5 (by simp) rfl ?_
    intro w6 hw6
    have z6 := hw6.size
    have B6 : Blk w6 w1.heap.size 89 [.int .i64 3, .int .i64 v1, .int .i64 0] := hw6.blk
    have hbw6 := hbw5.trans (hw6.kept.below (B := w.heap.size) (by omega) (fun i h => by omega))
    have k6 : Kept (fun i => i = cb ∨ B ≤ i) w w6 := Kept.of_below hbw6 (fun i h1 h2 => by omega)
    have hB9 := hB.below hbw6 hB.lt
    have hul9 := hul
    have hfew9 := h.few
    have hO19 := hO1.below hbw6
    have hO29 := hO2.below hbw6
    have hus9 := fun (i : Nat) (u : SV) (s : List Rg) h1 h2 => (hus i u s h1 h2).below hbw6
    rw [hv1] at hIA
    simp -dsimp only [push_cast, Nat.reduceAdd, Nat.reduceLeDiff, Nat.reduceBEq, decide_true, ne_eq, eq_self, not_true_eq_false, not_false_eq_true, true_imp_iff, false_imp_iff, Int.reduceNe, Int.reduceEq, Int.reduceLT, Int.reduceLE, Bool.not_true, Bool.not_false]
    -- w6: the world; (.slice sa us.length sc): the sets' slice; B6: Blk of the instruction at it; (⟨3, v1, 0⟩ : I3): the instruction; k6: Kept from w; c.sets: the sets; hB9, hO19, hO29, hus9: the code's parts at w6, its instructions those at entry
    have z9 := k6.size
    have B9d := hB9.drew
    have T9d := B6.drew
    refine wpL_lastN (fun w' => Blk w' cb 43 [(.slice sa us.length sc), .slice ia c.ins.length ic] ∧ Blk w' w1.heap.size 89 [.int .i64 (⟨3, v1, 0⟩ : I3).op, .int .i64 (⟨3, v1, 0⟩ : I3).a, .int .i64 (⟨3, v1, 0⟩ : I3).b]) mixed (by kernel_rfl) (by simp) ⟨B9d, T9d⟩ ?_
    have f1 : (w6).drew.cell? ⟨cb, 1, none⟩ = some (.slice ia c.ins.length ic) := B9d.cell rfl
    have f2 : cellsAt (w6).drew ⟨w1.heap.size, 0, none⟩ 0 3 = some [.int .i64 (⟨3, v1, 0⟩ : I3).op, .int .i64 (⟨3, v1, 0⟩ : I3).a, .int .i64 (⟨3, v1, 0⟩ : I3).b] := T9d.cellsAt
    simp -dsimp only [push_cast, Nat.reduceAdd, Nat.reduceLeDiff, Nat.reduceBEq, decide_true, ne_eq, eq_self, not_true_eq_false, not_false_eq_true, true_imp_iff, false_imp_iff, Int.reduceNe, Int.reduceEq, Int.reduceLT, Int.reduceLE, Bool.not_true, Bool.not_false, f1, f2]
    refine ⟨fun w'' h => by rw [h.1.cell (o := 1) rfl]; exact rfl, fun w'' h => by rw [show cellsAt w'' ⟨w1.heap.size, 0, none⟩ 0 3 = some [.int .i64 (⟨3, v1, 0⟩ : I3).op, .int .i64 (⟨3, v1, 0⟩ : I3).a, .int .i64 (⟨3, v1, 0⟩ : I3).b] from h.2.cellsAt]; exact rfl, ?_⟩
    refine rowK elI_41 rfl rfl (by omega) ?_
    intro wa hwa
    have za : wa.heap.size = (w6).heap.size + 1 := hwa.size
    have Ba := B9d.below hwa.below B9d.lt
    have Ta := T9d.below hwa.below T9d.lt
    refine ⟨⟨Ba, Ta⟩, ?_⟩
    have hO2d : Vc.Own B 89 3 encIn (w6).drew (.slice ia c.ins.length ic) c.ins := hO29.keptX ((Kept.refl (fun _ => False) (w6)).drew) (fun _ _ h => h)
    have hOa := hO2d.new hwa
    simp -dsimp only [push_cast, Nat.reduceAdd, Nat.reduceLeDiff, Nat.reduceBEq, decide_true, ne_eq, eq_self, not_true_eq_false, not_false_eq_true, true_imp_iff, false_imp_iff, Int.reduceNe, Int.reduceEq, Int.reduceLT, Int.reduceLE, Bool.not_true, Bool.not_false]
    refine appendK2 (base := B) [(⟨3, v1, 0⟩ : I3)] (enc := encIn) elI_41 hOa (by rfl) (fun j u hu => by simpa [encIn] using hwa.cell hu) (by simp [encIn, Value.oneCell']) (by simp only [List.length_cons, List.length_nil]; omega) (by show B ≤ wa.heap.size; omega) ?_
    intro vb wb hob hgb hnb
    have hiv : ∀ g, (Value.slice ia c.ins.length ic).ownBlock = some g → B ≤ g ∧ g < w.heap.size := fun g hg => hO2.block g hg
    have kb : Kept (fun j => (Value.slice ia c.ins.length ic).ownBlock = some j) (w6).drew wb := (Kept.new hwa).trans (Kept.grown hgb (fun _ h => h)) (fun _ _ h => h)
    have Bb := B9d.kept kb (fun h => hs2 h)
    have Tb := T9d.kept kb (fun h => by have := hiv _ h; omega)
    refine ⟨⟨Bb, Tb⟩, ?_⟩
    obtain ⟨ib, icb, rfl⟩ := hob.slice
    simp -dsimp only [push_cast, Nat.reduceAdd, Nat.reduceLeDiff, Nat.reduceBEq, decide_true, ne_eq, eq_self, not_true_eq_false, not_false_eq_true, true_imp_iff, false_imp_iff, Int.reduceNe, Int.reduceEq, Int.reduceLT, Int.reduceLE, Bool.not_true, Bool.not_false]
    refine storeK_of Bb (by simp) rfl ?_
    intro wc hwc
    have zc := hwc.size
    have kd9 : Kept (fun _ => False) (w6) (w6).drew := (Kept.refl _ _).drew
    have kc : Kept (fun j => (Value.slice ia c.ins.length ic).ownBlock = some j ∨ j = cb) (w6) wc := ((kd9.weaken (fun _ _ h => h.elim)).trans kb (fun _ _ h => .inl h)).trans hwc.kept (fun _ _ h => .inr h)
    have hO2c := hob.keptX hwc.kept (fun g hg hh => by have := (hob.block g hg).1; have := h.lt; omega)
    have hO1c := hO19.keptX kc (fun g hg hh => by
      rcases hh with hh | hh
      · exact ownNe hO19 hO29 (by decide) g hg hh
      · have := (hO19.block g hg).1; have := h.lt; omega)
    have kw : Kept (fun i => i = cb ∨ B ≤ i) w wc := k6.trans (kc.weaken (fun i _ hi => by
      rcases hi with hi | hi
      · exact .inr (hiv i hi).1
      · exact .inl hi)) (fun _ _ h => h)
    have Ct : Cd B cb X wc ⟨c.sets, c.ins ++ [(⟨3, v1, 0⟩ : I3)]⟩ := by
      refine ⟨⟨_, _, _, hwc.blk, hO1c, hO2c, hul9, fun hh => by have := (hO1c.block _ hh).1; have := h.lt; omega, fun hh => by have := (hO2c.block _ hh).1; have := h.lt; omega, ownNe hO1c hO2c (by decide), fun i u t h1 h2 => ?_⟩, h.lt, by have := kw.size; omega, hfew9⟩
      refine (hus9 i u t h1 h2).moved (fun _ => by simp [encR]) kc (fun i hi => by
        rcases hi with hi | hi
        · exact .inr (.inr (.inr hi))
        · exact .inr (.inl hi)) (fun b hb => ?_)
      rcases hb with hb | hb | hb | hb
      · exact .inl (.inl hb)
      · exact .inl (.inr (.inl hb))
      · exact .inl (.inr (.inr (.inl hb)))
      · rcases hnb b hb with hh | hh
        · exact .inl (.inr (.inr (.inr hh)))
        · exact .inr (by omega)
    simp -dsimp only [push_cast, Nat.reduceAdd, Nat.reduceLeDiff, Nat.reduceBEq, decide_true, ne_eq, eq_self, not_true_eq_false, not_false_eq_true, true_imp_iff, false_imp_iff, Int.reduceNe, Int.reduceEq, Int.reduceLT, Int.reduceLE, Bool.not_true, Bool.not_false]
    rw [hIA]
    refine ⟨by cases b1 <;> rfl, fun c' h' => ?_, ⟨_, Ct⟩, kw⟩
    cases b1 with
    | true => cases h'; exact Ct
    | false => cases h'
  · rw [h0] at B3
    rw [h0]
    refine ⟨fun h => by omega, fun _ => ⟨fun h => by omega, fun _ => ⟨fun h => by omega, fun _ => ?_⟩⟩⟩
    have hB9 := hB.below hbw3 hB.lt
    have hul9 := hul
    have hfew9 := h.few
    have hO19 := hO1.below hbw3
    have hO29 := hO2.below hbw3
    have hus9 := fun (i : Nat) (u : SV) (s : List Rg) h1 h2 => (hus i u s h1 h2).below hbw3
    -- w3: the world; (.slice sa us.length sc): the sets' slice; B3: Blk of the instruction at it; (⟨4, 0, 0⟩ : I3): the instruction; k3: Kept from w; c.sets: the sets; hB9, hO19, hO29, hus9: the code's parts at w3, its instructions those at entry
    have z9 := k3.size
    have B9d := hB9.drew
    have T9d := B3.drew
    refine wpL_lastN (fun w' => Blk w' cb 43 [(.slice sa us.length sc), .slice ia c.ins.length ic] ∧ Blk w' w1.heap.size 89 [.int .i64 (⟨4, 0, 0⟩ : I3).op, .int .i64 (⟨4, 0, 0⟩ : I3).a, .int .i64 (⟨4, 0, 0⟩ : I3).b]) mixed (by kernel_rfl) (by simp) ⟨B9d, T9d⟩ ?_
    have f1 : (w3).drew.cell? ⟨cb, 1, none⟩ = some (.slice ia c.ins.length ic) := B9d.cell rfl
    have f2 : cellsAt (w3).drew ⟨w1.heap.size, 0, none⟩ 0 3 = some [.int .i64 (⟨4, 0, 0⟩ : I3).op, .int .i64 (⟨4, 0, 0⟩ : I3).a, .int .i64 (⟨4, 0, 0⟩ : I3).b] := T9d.cellsAt
    simp -dsimp only [push_cast, Nat.reduceAdd, Nat.reduceLeDiff, Nat.reduceBEq, decide_true, ne_eq, eq_self, not_true_eq_false, not_false_eq_true, true_imp_iff, false_imp_iff, Int.reduceNe, Int.reduceEq, Int.reduceLT, Int.reduceLE, Bool.not_true, Bool.not_false, f1, f2]
    refine ⟨fun w'' h => by rw [h.1.cell (o := 1) rfl]; exact rfl, fun w'' h => by rw [show cellsAt w'' ⟨w1.heap.size, 0, none⟩ 0 3 = some [.int .i64 (⟨4, 0, 0⟩ : I3).op, .int .i64 (⟨4, 0, 0⟩ : I3).a, .int .i64 (⟨4, 0, 0⟩ : I3).b] from h.2.cellsAt]; exact rfl, ?_⟩
    refine rowK elI_41 rfl rfl (by omega) ?_
    intro wa hwa
    have za : wa.heap.size = (w3).heap.size + 1 := hwa.size
    have Ba := B9d.below hwa.below B9d.lt
    have Ta := T9d.below hwa.below T9d.lt
    refine ⟨⟨Ba, Ta⟩, ?_⟩
    have hO2d : Vc.Own B 89 3 encIn (w3).drew (.slice ia c.ins.length ic) c.ins := hO29.keptX ((Kept.refl (fun _ => False) (w3)).drew) (fun _ _ h => h)
    have hOa := hO2d.new hwa
    simp -dsimp only [push_cast, Nat.reduceAdd, Nat.reduceLeDiff, Nat.reduceBEq, decide_true, ne_eq, eq_self, not_true_eq_false, not_false_eq_true, true_imp_iff, false_imp_iff, Int.reduceNe, Int.reduceEq, Int.reduceLT, Int.reduceLE, Bool.not_true, Bool.not_false]
    refine appendK2 (base := B) [(⟨4, 0, 0⟩ : I3)] (enc := encIn) elI_41 hOa (by rfl) (fun j u hu => by simpa [encIn] using hwa.cell hu) (by simp [encIn, Value.oneCell']) (by simp only [List.length_cons, List.length_nil]; omega) (by show B ≤ wa.heap.size; omega) ?_
    intro vb wb hob hgb hnb
    have hiv : ∀ g, (Value.slice ia c.ins.length ic).ownBlock = some g → B ≤ g ∧ g < w.heap.size := fun g hg => hO2.block g hg
    have kb : Kept (fun j => (Value.slice ia c.ins.length ic).ownBlock = some j) (w3).drew wb := (Kept.new hwa).trans (Kept.grown hgb (fun _ h => h)) (fun _ _ h => h)
    have Bb := B9d.kept kb (fun h => hs2 h)
    have Tb := T9d.kept kb (fun h => by have := hiv _ h; omega)
    refine ⟨⟨Bb, Tb⟩, ?_⟩
    obtain ⟨ib, icb, rfl⟩ := hob.slice
    simp -dsimp only [push_cast, Nat.reduceAdd, Nat.reduceLeDiff, Nat.reduceBEq, decide_true, ne_eq, eq_self, not_true_eq_false, not_false_eq_true, true_imp_iff, false_imp_iff, Int.reduceNe, Int.reduceEq, Int.reduceLT, Int.reduceLE, Bool.not_true, Bool.not_false]
    refine storeK_of Bb (by simp) rfl ?_
    intro wc hwc
    have zc := hwc.size
    have kd9 : Kept (fun _ => False) (w3) (w3).drew := (Kept.refl _ _).drew
    have kc : Kept (fun j => (Value.slice ia c.ins.length ic).ownBlock = some j ∨ j = cb) (w3) wc := ((kd9.weaken (fun _ _ h => h.elim)).trans kb (fun _ _ h => .inl h)).trans hwc.kept (fun _ _ h => .inr h)
    have hO2c := hob.keptX hwc.kept (fun g hg hh => by have := (hob.block g hg).1; have := h.lt; omega)
    have hO1c := hO19.keptX kc (fun g hg hh => by
      rcases hh with hh | hh
      · exact ownNe hO19 hO29 (by decide) g hg hh
      · have := (hO19.block g hg).1; have := h.lt; omega)
    have kw : Kept (fun i => i = cb ∨ B ≤ i) w wc := k3.trans (kc.weaken (fun i _ hi => by
      rcases hi with hi | hi
      · exact .inr (hiv i hi).1
      · exact .inl hi)) (fun _ _ h => h)
    have Ct : Cd B cb X wc ⟨c.sets, c.ins ++ [(⟨4, 0, 0⟩ : I3)]⟩ := by
      refine ⟨⟨_, _, _, hwc.blk, hO1c, hO2c, hul9, fun hh => by have := (hO1c.block _ hh).1; have := h.lt; omega, fun hh => by have := (hO2c.block _ hh).1; have := h.lt; omega, ownNe hO1c hO2c (by decide), fun i u t h1 h2 => ?_⟩, h.lt, by have := kw.size; omega, hfew9⟩
      refine (hus9 i u t h1 h2).moved (fun _ => by simp [encR]) kc (fun i hi => by
        rcases hi with hi | hi
        · exact .inr (.inr (.inr hi))
        · exact .inr (.inl hi)) (fun b hb => ?_)
      rcases hb with hb | hb | hb | hb
      · exact .inl (.inl hb)
      · exact .inl (.inr (.inl hb))
      · exact .inl (.inr (.inr (.inl hb)))
      · rcases hnb b hb with hh | hh
        · exact .inl (.inr (.inr (.inr hh)))
        · exact .inr (by omega)
    simp -dsimp only [push_cast, Nat.reduceAdd, Nat.reduceLeDiff, Nat.reduceBEq, decide_true, ne_eq, eq_self, not_true_eq_false, not_false_eq_true, true_imp_iff, false_imp_iff, Int.reduceNe, Int.reduceEq, Int.reduceLT, Int.reduceLE, Bool.not_true, Bool.not_false]
    have hIA := instA_end (c := c) hnm
    rw [hIA]
    refine ⟨by cases (cutP 32 s).2.2 <;> rfl, fun c' h' => ?_, ⟨_, Ct⟩, kw⟩
    cases hm : (cutP 32 s).2.2 with
    | true => rw [hm] at h'; cases h'
    | false => rw [hm] at h'; cases h'; exact Ct
  · rw [h0] at B3
    rw [h0]
    refine ⟨fun h => by omega, fun _ => ⟨fun h => by omega, fun _ => ⟨fun h => by omega, fun _ => ?_⟩⟩⟩
    have hB9 := hB.below hbw3 hB.lt
    have hul9 := hul
    have hfew9 := h.few
    have hO19 := hO1.below hbw3
    have hO29 := hO2.below hbw3
    have hus9 := fun (i : Nat) (u : SV) (s : List Rg) h1 h2 => (hus i u s h1 h2).below hbw3
    -- w3: the world; (.slice sa us.length sc): the sets' slice; B3: Blk of the instruction at it; (⟨5, 0, 0⟩ : I3): the instruction; k3: Kept from w; c.sets: the sets; hB9, hO19, hO29, hus9: the code's parts at w3, its instructions those at entry
    have z9 := k3.size
    have B9d := hB9.drew
    have T9d := B3.drew
    refine wpL_lastN (fun w' => Blk w' cb 43 [(.slice sa us.length sc), .slice ia c.ins.length ic] ∧ Blk w' w1.heap.size 89 [.int .i64 (⟨5, 0, 0⟩ : I3).op, .int .i64 (⟨5, 0, 0⟩ : I3).a, .int .i64 (⟨5, 0, 0⟩ : I3).b]) mixed (by kernel_rfl) (by simp) ⟨B9d, T9d⟩ ?_
    have f1 : (w3).drew.cell? ⟨cb, 1, none⟩ = some (.slice ia c.ins.length ic) := B9d.cell rfl
    have f2 : cellsAt (w3).drew ⟨w1.heap.size, 0, none⟩ 0 3 = some [.int .i64 (⟨5, 0, 0⟩ : I3).op, .int .i64 (⟨5, 0, 0⟩ : I3).a, .int .i64 (⟨5, 0, 0⟩ : I3).b] := T9d.cellsAt
    simp -dsimp only [push_cast, Nat.reduceAdd, Nat.reduceLeDiff, Nat.reduceBEq, decide_true, ne_eq, eq_self, not_true_eq_false, not_false_eq_true, true_imp_iff, false_imp_iff, Int.reduceNe, Int.reduceEq, Int.reduceLT, Int.reduceLE, Bool.not_true, Bool.not_false, f1, f2]
    refine ⟨fun w'' h => by rw [h.1.cell (o := 1) rfl]; exact rfl, fun w'' h => by rw [show cellsAt w'' ⟨w1.heap.size, 0, none⟩ 0 3 = some [.int .i64 (⟨5, 0, 0⟩ : I3).op, .int .i64 (⟨5, 0, 0⟩ : I3).a, .int .i64 (⟨5, 0, 0⟩ : I3).b] from h.2.cellsAt]; exact rfl, ?_⟩
    refine rowK elI_41 rfl rfl (by omega) ?_
    intro wa hwa
    have za : wa.heap.size = (w3).heap.size + 1 := hwa.size
    have Ba := B9d.below hwa.below B9d.lt
    have Ta := T9d.below hwa.below T9d.lt
    refine ⟨⟨Ba, Ta⟩, ?_⟩
    have hO2d : Vc.Own B 89 3 encIn (w3).drew (.slice ia c.ins.length ic) c.ins := hO29.keptX ((Kept.refl (fun _ => False) (w3)).drew) (fun _ _ h => h)
    have hOa := hO2d.new hwa
    simp -dsimp only [push_cast, Nat.reduceAdd, Nat.reduceLeDiff, Nat.reduceBEq, decide_true, ne_eq, eq_self, not_true_eq_false, not_false_eq_true, true_imp_iff, false_imp_iff, Int.reduceNe, Int.reduceEq, Int.reduceLT, Int.reduceLE, Bool.not_true, Bool.not_false]
    refine appendK2 (base := B) [(⟨5, 0, 0⟩ : I3)] (enc := encIn) elI_41 hOa (by rfl) (fun j u hu => by simpa [encIn] using hwa.cell hu) (by simp [encIn, Value.oneCell']) (by simp only [List.length_cons, List.length_nil]; omega) (by show B ≤ wa.heap.size; omega) ?_
    intro vb wb hob hgb hnb
    have hiv : ∀ g, (Value.slice ia c.ins.length ic).ownBlock = some g → B ≤ g ∧ g < w.heap.size := fun g hg => hO2.block g hg
    have kb : Kept (fun j => (Value.slice ia c.ins.length ic).ownBlock = some j) (w3).drew wb := (Kept.new hwa).trans (Kept.grown hgb (fun _ h => h)) (fun _ _ h => h)
    have Bb := B9d.kept kb (fun h => hs2 h)
    have Tb := T9d.kept kb (fun h => by have := hiv _ h; omega)
    refine ⟨⟨Bb, Tb⟩, ?_⟩
    obtain ⟨ib, icb, rfl⟩ := hob.slice
    simp -dsimp only [push_cast, Nat.reduceAdd, Nat.reduceLeDiff, Nat.reduceBEq, decide_true, ne_eq, eq_self, not_true_eq_false, not_false_eq_true, true_imp_iff, false_imp_iff, Int.reduceNe, Int.reduceEq, Int.reduceLT, Int.reduceLE, Bool.not_true, Bool.not_false]
    refine storeK_of Bb (by simp) rfl ?_
    intro wc hwc
    have zc := hwc.size
    have kd9 : Kept (fun _ => False) (w3) (w3).drew := (Kept.refl _ _).drew
    have kc : Kept (fun j => (Value.slice ia c.ins.length ic).ownBlock = some j ∨ j = cb) (w3) wc := ((kd9.weaken (fun _ _ h => h.elim)).trans kb (fun _ _ h => .inl h)).trans hwc.kept (fun _ _ h => .inr h)
    have hO2c := hob.keptX hwc.kept (fun g hg hh => by have := (hob.block g hg).1; have := h.lt; omega)
    have hO1c := hO19.keptX kc (fun g hg hh => by
      rcases hh with hh | hh
      · exact ownNe hO19 hO29 (by decide) g hg hh
      · have := (hO19.block g hg).1; have := h.lt; omega)
    have kw : Kept (fun i => i = cb ∨ B ≤ i) w wc := k3.trans (kc.weaken (fun i _ hi => by
      rcases hi with hi | hi
      · exact .inr (hiv i hi).1
      · exact .inl hi)) (fun _ _ h => h)
    have Ct : Cd B cb X wc ⟨c.sets, c.ins ++ [(⟨5, 0, 0⟩ : I3)]⟩ := by
      refine ⟨⟨_, _, _, hwc.blk, hO1c, hO2c, hul9, fun hh => by have := (hO1c.block _ hh).1; have := h.lt; omega, fun hh => by have := (hO2c.block _ hh).1; have := h.lt; omega, ownNe hO1c hO2c (by decide), fun i u t h1 h2 => ?_⟩, h.lt, by have := kw.size; omega, hfew9⟩
      refine (hus9 i u t h1 h2).moved (fun _ => by simp [encR]) kc (fun i hi => by
        rcases hi with hi | hi
        · exact .inr (.inr (.inr hi))
        · exact .inr (.inl hi)) (fun b hb => ?_)
      rcases hb with hb | hb | hb | hb
      · exact .inl (.inl hb)
      · exact .inl (.inr (.inl hb))
      · exact .inl (.inr (.inr (.inl hb)))
      · rcases hnb b hb with hh | hh
        · exact .inl (.inr (.inr (.inr hh)))
        · exact .inr (by omega)
    simp -dsimp only [push_cast, Nat.reduceAdd, Nat.reduceLeDiff, Nat.reduceBEq, decide_true, ne_eq, eq_self, not_true_eq_false, not_false_eq_true, true_imp_iff, false_imp_iff, Int.reduceNe, Int.reduceEq, Int.reduceLT, Int.reduceLE, Bool.not_true, Bool.not_false]
    have hIA := instA_yes (c := c) hnm
    rw [hIA]
    refine ⟨by cases (cutP 32 s).2.2 <;> rfl, fun c' h' => ?_, ⟨_, Ct⟩, kw⟩
    cases hm : (cutP 32 s).2.2 with
    | true => rw [hm] at h'; cases h'
    | false => rw [hm] at h'; cases h'; exact Ct
end Go.Proofs.YtiofleijieepgaaGreatDoor
end
