import Derived.Test.YtimjpijbcnjaaaaDoorImr2
namespace Go.Proofs.YtimjpijbcnjaaaaDoor
open Go.Vc Go.Proofs Go.RowKit Cae
set_option maxRecDepth 100000
set_option linter.unusedSimpArgs false
set_option linter.unusedVariables false
attribute [local irreducible] wpL callK valK unitK runK Fun Sl Own vc vcOps opK pureK
set_option maxHeartbeats 4000000

theorem codeBytes_c (c : CodeP) (hc : codeRight c = true) (hlen : SetsLen c) (hll : (codeB c).length < 10000000000000) (X : Nat → Prop) (v : Value) (w : World) (hv : CodeV X w v c) :
    Fun Tryd.prog 68 [v] w fun r w' => r = str (codeB c) ∧ Below w.heap.size w w' := by
  obtain ⟨sv, iv, rfl, hsv, hiv⟩ := hv
  obtain ⟨a1, c1, rfl, hc1⟩ := hsv.shape
  obtain ⟨a2, c2, rfl, hc2⟩ := hiv.shape
  have hcr := CR.of hc
  have hcs := hcr.sets
  have hcm := hcr.many
  have hcl : (codeB c).length = (numB c.sets.length).length + (c.sets.flatMap setB).length + (numB c.ins.length).length + (c.ins.flatMap insB).length := by simp only [codeB, List.length_append]
  refine fun_of_vc Tryd.func68 rfl (by kernel_rfl) [2] rfl ?_
  simp -dsimp only [push_cast, fr0, Tryd.ntmps68, List.length_cons, List.length_nil, Nat.reduceAdd, Nat.reduceSub, Nat.reduceBEq, List.replicate_succ, List.replicate_zero]
  refine boxK_of ?_
  intro w1 hw1
  have hw1 : New w w1 25 [.slice a1 c.sets.length c1, .slice a2 c.ins.length c2] := hw1
  have sz1 := hw1.size
  have d0 : w1.cell? ⟨w.heap.size, 0, none⟩ = some (.slice a1 c.sets.length c1) := hw1.cell rfl
  simp -dsimp only [push_cast, Nat.reduceAdd, Nat.reduceLeDiff, Nat.reduceBEq, decide_true, d0]
  refine callK_of (numberR_c c.sets.length (by omega) w1) ?_
  rintro _ w2 ⟨rfl, hb2⟩
  have sz2 := hb2.size
  have hL2 := hw1.below.trans (hb2.mono (by omega))
  have hP2 : Blk w2 w.heap.size 25 [.slice a1 c.sets.length c1, .slice a2 c.ins.length c2] := hw1.blk.below hb2 (by omega)
  have e0 : w2.cell? ⟨w.heap.size, 0, none⟩ = some (.slice a1 c.sets.length c1) := hP2.cell rfl
  simp -dsimp only [push_cast, Nat.reduceAdd, Nat.reduceLeDiff, Nat.reduceBEq, decide_true, e0]
  refine wpL_loop [3, 5, 7, 17, 18, 19, 20, 21, 22, 23, 24, 25, 26, 27, 28, 29, 30, 31, 32, 33, 34, 35, 36, 37, 38, 39, 40, 41, 42] (fun z wx => ∃ (i : Nat), z 17 = .int .i64 i ∧ i ≤ c.sets.length ∧ z 3 = str (numB c.sets.length ++ (c.sets.take i).flatMap setB) ∧ Below w2.heap.size w2 wx) (fun z _ => c.sets.length - (intOf (z 17)).toNat) ?_ ?_
  · exact ⟨0, rfl, Nat.zero_le _, (by simp : str (numB c.sets.length) = str (numB c.sets.length ++ (c.sets.take 0).flatMap setB)), Below.refl _ _⟩
  · intro z wx hI
    obtain ⟨i, h17, hi, h3, hbx⟩ := hI
    have hLx := hL2.trans (hbx.mono hL2.size)
    have szx := hbx.size
    simp -dsimp only [push_cast, Nat.reduceAdd, Nat.reduceLeDiff, Nat.reduceBEq, decide_true, h17, h3]
    refine ⟨fun hlt => ?_, fun hge => ?_⟩
    · have hex := lt_get (l := c.sets) (i := i) (by omega)
      obtain ⟨s, hex⟩ := hex
      have hsm := hex.2.1
      have ht := hex.2.2.2
      have hfl := flat_len (f := setB) hex.1
      have hget := Sl.getR (SetsV.below hsv hLx) hex.1
      obtain ⟨b, o, cs, rfl, hX, hk, hcell, u, rfl, hu⟩ := hget
      have cu : wx.cell? ⟨b, o + i, none⟩ = some u := by simpa using hcell 0 u rfl
      have hsh := hu.shape
      obtain ⟨a3, c3, rfl, hc3⟩ := hsh
      simp -dsimp only [push_cast, Nat.reduceAdd, Nat.reduceLeDiff, Nat.reduceBEq, decide_true, cu]
      have hsl : (setB s).length = (numB s.length).length + (s.flatMap rangeB).length := by simp only [setB, List.length_append]
      have hsn := hlen s hsm
      refine ⟨⟨by omega, by omega⟩, ?_⟩
      refine callK_of (numberR_c s.length (by omega) wx) ?_
      rintro _ w3 ⟨rfl, hb3⟩
      have sz3 := hb3.size
      have hb23 := hbx.trans (hb3.mono hbx.size)
      simp -dsimp only [push_cast, Nat.reduceAdd, Nat.reduceLeDiff, Nat.reduceBEq, decide_true]
      refine ⟨by first | omega | (simp only [List.length_append]; omega), ?_⟩
      refine wpL_loop [3, 7, 28, 29, 30, 31, 32, 33, 34, 35, 36, 37, 38, 39, 40, 41] (fun z' wy => ∃ (j : Nat), z' 28 = .int .i64 j ∧ j ≤ s.length ∧ z' 3 = str (numB c.sets.length ++ (c.sets.take i).flatMap setB ++ numB s.length ++ (s.take j).flatMap rangeB) ∧ Below w3.heap.size w3 wy) (fun z' _ => s.length - (intOf (z' 28)).toNat) ?_ ?_
      · exact ⟨0, rfl, Nat.zero_le _, (by simp : str (numB c.sets.length ++ (c.sets.take i).flatMap setB ++ numB s.length) = str (numB c.sets.length ++ (c.sets.take i).flatMap setB ++ numB s.length ++ (s.take 0).flatMap rangeB)), Below.refl _ _⟩
      · intro z' wy hI
        obtain ⟨j, h28, hj, h3', hby⟩ := hI
        have szy := hby.size
        simp -dsimp only [push_cast, Nat.reduceAdd, Nat.reduceLeDiff, Nat.reduceBEq, decide_true, h28, h3']
        refine ⟨fun hlt2 => ?_, fun hge2 => ?_⟩
        · have hex := lt_get (l := s) (i := j) (by omega)
          obtain ⟨r, hex⟩ := hex
          have hrm := hex.2.1
          have hrt := hex.2.2.2
          have hr12 := range_small hc hsm hrm
          have hr1 := hr12.1
          have hr2 := hr12.2
          have hfl2 := flat_len (f := rangeB) hex.1
          have hget := ((hu.below hb3).below hby).get hex.1
          obtain ⟨b3, o3, rfl, hX3, hcell3⟩ := hget
          have ce : cellsAt wy ⟨b3, o3 + j * 2, none⟩ 0 2 = some [.int .i64 r.1, .int .i64 r.2] := cellsAt_of (encR r) 0 (fun k u hu => by simpa using hcell3 k u hu)
          simp -dsimp only [push_cast, Nat.reduceAdd, Nat.reduceLeDiff, Nat.reduceBEq, decide_true, ce]
          have hrl : (rangeB r).length = (numB r.1.toNat).length + (numB r.2.toNat).length := by simp only [rangeB, List.length_append]
          refine ⟨⟨by omega, by omega⟩, ?_⟩
          refine allocK (z := [.int .i64 0, .int .i64 0]) (by kernel_rfl) ?_
          intro w4 hw4
          simp -dsimp only [push_cast, Nat.reduceAdd, Nat.reduceLeDiff, Nat.reduceBEq, decide_true]
          refine storeAgg (n := 2) (by kernel_rfl) hw4.blk rfl (by simp) (by simp [Value.oneCell']) ?_
          intro w5 hw5
          have sz4 := hw4.size
          have sz5 := hw5.size
          have hB5 : Blk w5 wy.heap.size 79 [.int .i64 r.1, .int .i64 r.2] := hw5.blk
          have hL5 : Below wy.heap.size wy w5 := hw4.below.trans (hw5.kept.below (by omega) (fun _ h => by omega))
          simp -dsimp only [push_cast, Nat.reduceAdd, Nat.reduceLeDiff, Nat.reduceBEq, decide_true]
          refine wpL_draw (fun w' => Blk w' wy.heap.size 79 [.int .i64 r.1, .int .i64 r.2]) mixed (by kernel_rfl) hB5.drew ?_
          have f0 : w5.drew.cell? ⟨wy.heap.size, 0, none⟩ = some (.int .i64 r.1) := hB5.drew.cell rfl
          simp -dsimp only [push_cast, Nat.reduceAdd, Nat.reduceLeDiff, Nat.reduceBEq, decide_true, f0]
          refine ⟨fun w'' hC => by rw [hC.cell (o := 0) rfl]; exact rfl, ?_⟩
          refine callK_of (numberRI_c r.1 hr1.1 hr1.2 w5.drew) ?_
          rintro _ w6 ⟨rfl, hb6⟩
          have hB6 := hB5.drew.below hb6 (by show wy.heap.size < w5.heap.size; omega)
          refine ⟨hB6, ?_⟩
          have f1 : w6.cell? ⟨wy.heap.size, 1, none⟩ = some (.int .i64 r.2) := hB6.cell rfl
          simp -dsimp only [push_cast, Nat.reduceAdd, Nat.reduceLeDiff, Nat.reduceBEq, decide_true, f1]
          refine ⟨fun w'' hC => by rw [hC.cell (o := 1) rfl]; exact rfl, ?_⟩
          have sz6 : w5.heap.size ≤ w6.heap.size := hb6.size
          refine callK_of (numberRI_c r.2 hr2.1 hr2.2 w6) ?_
          rintro _ w7 ⟨rfl, hb7⟩
          refine ⟨hB6.below hb7 (by omega), ?_⟩
          simp -dsimp only [push_cast, Nat.reduceAdd, Nat.reduceLeDiff, Nat.reduceBEq, decide_true]
          have hL7 : Below wy.heap.size wy w7 := hL5.drew.trans ((hb6.mono (by show wy.heap.size ≤ w5.heap.size; omega)).trans (hb7.mono (by omega)))
          refine ⟨by first | omega | (simp only [List.length_append]; omega), by first | omega | (simp only [List.length_append]; omega), ⟨by omega, by omega⟩, ⟨j + 1, rfl, by omega, ?_, hby.trans (hL7.mono szy)⟩, by rw [h28]; simp only [intOf]; omega⟩
          rw [flat_take hrt]
          simp only [rangeB, List.append_assoc]
        · have hj2 : s.take j = s := List.take_of_length_le (by omega)
          rw [hj2]
          refine ⟨⟨by omega, by omega⟩, ⟨i + 1, rfl, by omega, ?_, hb23.trans (hby.mono (by omega))⟩, by rw [h17]; simp only [intOf]; omega⟩
          rw [flat_take ht]
          simp only [setB, List.append_assoc]
    · have hi2 : c.sets.take i = c.sets := List.take_of_length_le (by omega)
      rw [hi2]
      have hPx := hP2.below hbx hP2.lt
      have f1 : wx.cell? ⟨w.heap.size, 1, none⟩ = some (.slice a2 c.ins.length c2) := hPx.cell rfl
      simp -dsimp only [push_cast, Nat.reduceAdd, Nat.reduceLeDiff, Nat.reduceBEq, decide_true, f1]
      refine callK_of (numberR_c c.ins.length (by omega) wx) ?_
      rintro _ w3 ⟨rfl, hb3⟩
      have sz3 := hb3.size
      have hL3 := hLx.trans (hb3.mono hLx.size)
      have hP3 := hPx.below hb3 hPx.lt
      have f3 : w3.cell? ⟨w.heap.size, 1, none⟩ = some (.slice a2 c.ins.length c2) := hP3.cell rfl
      simp -dsimp only [push_cast, Nat.reduceAdd, Nat.reduceLeDiff, Nat.reduceBEq, decide_true, f3]
      refine ⟨by first | omega | (simp only [List.length_append]; omega), ?_⟩
      refine wpL_loop [3, 9, 52, 53, 54, 55, 56, 57, 58, 59, 60, 61, 62, 63, 64, 65, 66, 67, 68, 69] (fun z' wy => ∃ (j : Nat), z' 52 = .int .i64 j ∧ j ≤ c.ins.length ∧ z' 3 = str (numB c.sets.length ++ c.sets.flatMap setB ++ numB c.ins.length ++ (c.ins.take j).flatMap insB) ∧ Below w3.heap.size w3 wy) (fun z' _ => c.ins.length - (intOf (z' 52)).toNat) ?_ ?_
      · exact ⟨0, rfl, Nat.zero_le _, (by simp : str (numB c.sets.length ++ c.sets.flatMap setB ++ numB c.ins.length) = str (numB c.sets.length ++ c.sets.flatMap setB ++ numB c.ins.length ++ (c.ins.take 0).flatMap insB)), Below.refl _ _⟩
      · intro z' wy hI
        obtain ⟨j, h52, hj, h3', hby⟩ := hI
        have szy := hby.size
        simp -dsimp only [push_cast, Nat.reduceAdd, Nat.reduceLeDiff, Nat.reduceBEq, decide_true, h52, h3']
        refine ⟨fun hlt2 => ?_, fun hge2 => ?_⟩
        · have hex := lt_get (l := c.ins) (i := j) (by omega)
          obtain ⟨x, hex⟩ := hex
          have hxm := hex.2.1
          have hxt := hex.2.2.2
          have hx123 := ins_small hc hxm
          have hx1 := hx123.1
          have hx2 := hx123.2.1
          have hx3 := hx123.2.2
          have hfl2 := flat_len (f := insB) hex.1
          have hget := ((hiv.below hL3).below hby).get hex.1
          obtain ⟨b3, o3, rfl, hX3, hcell3⟩ := hget
          have ce : cellsAt wy ⟨b3, o3 + j * 3, none⟩ 0 3 = some [.int .i64 x.op, .int .i64 x.a, .int .i64 x.b] := cellsAt_of (encIn x) 0 (fun k u hu => by simpa using hcell3 k u hu)
          simp -dsimp only [push_cast, Nat.reduceAdd, Nat.reduceLeDiff, Nat.reduceBEq, decide_true, ce]
          have hxl : (insB x).length = (numB x.op.toNat).length + (numB x.a.toNat).length + (numB x.b.toNat).length := by simp only [insB, List.length_append]
          refine ⟨⟨by omega, by omega⟩, ?_⟩
          refine allocK (z := [.int .i64 0, .int .i64 0, .int .i64 0]) (by kernel_rfl) ?_
          intro w4 hw4
          simp -dsimp only [push_cast, Nat.reduceAdd, Nat.reduceLeDiff, Nat.reduceBEq, decide_true]
          refine storeAgg (n := 3) (by kernel_rfl) hw4.blk rfl (by simp) (by simp [Value.oneCell']) ?_
          intro w5 hw5
          have sz4 := hw4.size
          have sz5 := hw5.size
          have hB5 : Blk w5 wy.heap.size 37 [.int .i64 x.op, .int .i64 x.a, .int .i64 x.b] := hw5.blk
          have hL5 : Below wy.heap.size wy w5 := hw4.below.trans (hw5.kept.below (by omega) (fun _ h => by omega))
          simp -dsimp only [push_cast, Nat.reduceAdd, Nat.reduceLeDiff, Nat.reduceBEq, decide_true]
          refine wpL_draw (fun w' => Blk w' wy.heap.size 37 [.int .i64 x.op, .int .i64 x.a, .int .i64 x.b]) mixed (by kernel_rfl) hB5.drew ?_
          have f0 : w5.drew.cell? ⟨wy.heap.size, 0, none⟩ = some (.int .i64 x.op) := hB5.drew.cell rfl
          simp -dsimp only [push_cast, Nat.reduceAdd, Nat.reduceLeDiff, Nat.reduceBEq, decide_true, f0]
          refine ⟨fun w'' hC => by rw [hC.cell (o := 0) rfl]; exact rfl, ?_⟩
          refine callK_of (numberRI_c x.op hx1.1 hx1.2 w5.drew) ?_
          rintro _ w6 ⟨rfl, hb6⟩
          have hB6 := hB5.drew.below hb6 (by show wy.heap.size < w5.heap.size; omega)
          refine ⟨hB6, ?_⟩
          have f1 : w6.cell? ⟨wy.heap.size, 1, none⟩ = some (.int .i64 x.a) := hB6.cell rfl
          simp -dsimp only [push_cast, Nat.reduceAdd, Nat.reduceLeDiff, Nat.reduceBEq, decide_true, f1]
          refine ⟨fun w'' hC => by rw [hC.cell (o := 1) rfl]; exact rfl, ?_⟩
          have sz6 : w5.heap.size ≤ w6.heap.size := hb6.size
          refine callK_of (numberRI_c x.a hx2.1 hx2.2 w6) ?_
          rintro _ w7 ⟨rfl, hb7⟩
          have hB7 := hB6.below hb7 (by omega)
          have sz7 := hb7.size
          refine ⟨hB7, ?_⟩
          have f2 : w7.cell? ⟨wy.heap.size, 2, none⟩ = some (.int .i64 x.b) := hB7.cell rfl
          simp -dsimp only [push_cast, Nat.reduceAdd, Nat.reduceLeDiff, Nat.reduceBEq, decide_true, f2]
          refine ⟨by first | omega | (simp only [List.length_append]; omega), fun w'' hC => by rw [hC.cell (o := 2) rfl]; exact rfl, ?_⟩
          refine callK_of (numberRI_c x.b hx3.1 hx3.2 w7) ?_
          rintro _ w8 ⟨rfl, hb8⟩
          refine ⟨hB7.below hb8 (by omega), ?_⟩
          simp -dsimp only [push_cast, Nat.reduceAdd, Nat.reduceLeDiff, Nat.reduceBEq, decide_true]
          have hL8 : Below wy.heap.size wy w8 := hL5.drew.trans ((hb6.mono (by show wy.heap.size ≤ w5.heap.size; omega)).trans ((hb7.mono (by omega)).trans (hb8.mono (by omega))))
          refine ⟨by first | omega | (simp only [List.length_append]; omega), by first | omega | (simp only [List.length_append]; omega), ⟨by omega, by omega⟩, ⟨j + 1, rfl, by omega, ?_, hby.trans (hL8.mono szy)⟩, by rw [h52]; simp only [intOf]; omega⟩
          rw [flat_take hxt]
          simp only [insB, List.append_assoc]
        · have hj2 : c.ins.take j = c.ins := List.take_of_length_le (by omega)
          rw [hj2]
          exact ⟨by simp only [codeB, List.append_assoc], hL3.trans (hby.mono hL3.size)⟩
end Go.Proofs.YtimjpijbcnjaaaaDoor
