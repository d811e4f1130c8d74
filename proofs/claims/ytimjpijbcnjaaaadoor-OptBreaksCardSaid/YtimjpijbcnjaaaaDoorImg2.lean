import Derived.Test.YtimjpijbcnjaaaaDoorImg1
namespace Go.Proofs.YtimjpijbcnjaaaaDoor
open Go.Vc Go.Proofs Go.RowKit Cae
set_option maxRecDepth 100000
set_option linter.unusedSimpArgs false
set_option linter.unusedVariables false
attribute [local irreducible] wpL callK valK unitK runK Fun Sl Own vc vcOps opK pureK
set_option maxHeartbeats 4000000

theorem flat_len {α : Type} {f : α → List UInt8} : ∀ {l : List α} {i : Nat} {x : α}, l[i]? = some x → ((l.take i).flatMap f).length + (f x).length ≤ (l.flatMap f).length
  | [], i, x, h => by simp at h
  | y :: l, 0, x, h => by simp at h; subst h; simp
  | y :: l, i + 1, x, h => by
    have := flat_len (f := f) (l := l) (i := i) (x := x) (by simpa using h)
    simp only [List.take_succ_cons, List.flatMap_cons, List.length_append]
    omega
theorem flat_take {α : Type} {f : α → List UInt8} {l : List α} {i : Nat} {x : α} (h : l.take (i + 1) = l.take i ++ [x]) : (l.take (i + 1)).flatMap f = (l.take i).flatMap f ++ f x := by
  rw [h, List.flatMap_append]; simp

theorem number_cI (base : Nat) (z : Int) (l : List UInt8) (h0 : 0 ≤ z) (hz : z < 2147483648) (hll : l.length + (numB z.toNat).length < 1000000000) (v : Value) (w : World) (ho : Own base 5 1 encB w v l) (hb : base ≤ w.heap.size) :
    Fun Tryd.prog 69 [v, .int .i64 z] w fun v' w' => Own base 5 1 encB w' v' (l ++ numB z.toNat) ∧ Grow w w' v v' := by
  have e : z = ((z.toNat : Nat) : Int) := by omega
  have := number_c base z.toNat l (by omega) hll v w ho hb
  rwa [← e] at this

/-- What an instruction's numbers are, at most. -/
theorem ins_small {c : CodeP} (h : codeRight c = true) {x : I3} (hx : x ∈ c.ins) : (0 ≤ x.op ∧ x.op < 2147483648) ∧ (0 ≤ x.a ∧ x.a < 2147483648) ∧ (0 ≤ x.b ∧ x.b < 2147483648) := by
  have hc := CR.of h
  obtain ⟨i, hi⟩ := List.getElem?_of_mem hx
  have hr := insRight_cases (hc.ins i x hi)
  have := hc.sets
  have := hc.many
  omega
theorem range_small {c : CodeP} (h : codeRight c = true) {s : List Rg} (hs : s ∈ c.sets) {r : Rg} (hr : r ∈ s) : (0 ≤ r.1 ∧ r.1 < 2147483648) ∧ (0 ≤ r.2 ∧ r.2 < 2147483648) := by
  have hc := CR.of h
  obtain ⟨i, hi⟩ := List.getElem?_of_mem hr
  obtain ⟨h1, h2, h3, _⟩ := setRight_sorted s (-2) (hc.set s hs) i r hi
  omega

theorem wcode_c (base : Nat) (c : CodeP) (hc : codeRight c = true) (l : List UInt8) (hll : l.length + (codeB c).length < 1000000000) (v cv : Value) (w : World) (ho : Own base 5 1 encB w v l) (hb : base ≤ w.heap.size)
    (hcv : CodeV (fun j => base ≤ j) w cv c) : Fun Tryd.prog 71 [v, cv] w fun v' w' => Own base 5 1 encB w' v' (l ++ codeB c) ∧ Grow w w' v v' := by
  obtain ⟨sv, iv, rfl, hsv, hiv⟩ := hcv
  obtain ⟨a1, c1, rfl, hc1⟩ := hsv.shape
  obtain ⟨a2, c2, rfl, hc2⟩ := hiv.shape
  have hcr := CR.of hc
  have hcs := hcr.sets
  have hcm := hcr.many
  have hvb : ∀ i, v.ownBlock = some i → base ≤ i := fun i hi => (ho.block i hi).1
  have hvs : v.ownBlock ≠ some w.heap.size := fun h => by have := (ho.block _ h).2; omega
  have hcl : (codeB c).length = (numB c.sets.length).length + (c.sets.flatMap setB).length + (numB c.ins.length).length + (c.ins.flatMap insB).length := by simp only [codeB, List.length_append]
  refine fun_of_vc Tryd.func71 rfl (by kernel_rfl) [4] rfl ?_
  simp -dsimp only [push_cast, fr0, Tryd.ntmps71, List.length_cons, List.length_nil, Nat.reduceAdd, Nat.reduceSub, Nat.reduceBEq, List.replicate_succ, List.replicate_zero]
  refine boxK_of ?_
  intro w1 hw1
  have d0 : w1.cell? ⟨w.heap.size, 0, none⟩ = some (.slice a1 c.sets.length c1) := hw1.cell rfl
  have s1 := hw1.size
  simp -dsimp only [push_cast, Nat.reduceAdd, Nat.reduceLeDiff, Nat.reduceBEq, decide_true, d0]
  refine callK_of (number_c base c.sets.length l (by have := hcr.sets; omega) (by omega) v w1 (ho.new hw1) (by omega)) ?_
  rintro v1 w2 ⟨ho2, hg2⟩
  have hG2 : Grow w w2 v v1 := (Grow.still v (Kept.new hw1)).trans hg2
  have e0 : w2.cell? ⟨w.heap.size, 0, none⟩ = some (.slice a1 c.sets.length c1) := hg2.1.cell d0 hvs
  have e1 : w2.cell? ⟨w.heap.size, 1, none⟩ = some (.slice a2 c.ins.length c2) := hg2.1.cell (hw1.cell rfl) hvs
  have hv1s : v1.ownBlock ≠ some w.heap.size := hg2.apart (by omega) hvs
  simp -dsimp only [push_cast, Nat.reduceAdd, Nat.reduceLeDiff, Nat.reduceBEq, decide_true, e0]
  refine wpL_loop [0, 6, 8, 19, 20, 21, 22, 23, 24, 25, 26, 27, 28, 29, 30, 31, 32, 33, 34, 35, 36, 37, 38, 39, 40, 41] (fun z wx => ∃ (i : Nat), z 19 = .int .i64 i ∧ i ≤ c.sets.length ∧ Own base 5 1 encB wx (z 0) (l ++ numB c.sets.length ++ (c.sets.take i).flatMap setB) ∧ Grow w2 wx v1 (z 0)) (fun z _ => c.sets.length - (intOf (z 19)).toNat) ?_ ?_
  · exact ⟨0, rfl, Nat.zero_le _, (by simpa using ho2 : Own base 5 1 encB w2 v1 (l ++ numB c.sets.length ++ (c.sets.take 0).flatMap setB)), Grow.refl _ _⟩
  · intro z wx hI
    obtain ⟨i, h19, hi, hox, hgx⟩ := hI
    have hGx := hG2.trans hgx
    have sx := hGx.1.size
    simp -dsimp only [push_cast, Nat.reduceAdd, Nat.reduceLeDiff, Nat.reduceBEq, decide_true, h19]
    refine ⟨fun hlt => ?_, fun hge => ?_⟩
    · obtain ⟨s, hs, hsm, hd, ht⟩ := lt_get (l := c.sets) (i := i) (by omega)
      have hfl := flat_len (f := setB) hs
      obtain ⟨b, o, cs, rfl, hX, hk, hcell, u, rfl, hu⟩ := Sl.getR (SetsV.kept hsv hGx.1 hvb) hs
      have cu : wx.cell? ⟨b, o + i, none⟩ = some u := by simpa using hcell 0 u rfl
      obtain ⟨a3, c3, rfl, hc3⟩ := hu.shape
      simp -dsimp only [push_cast, Nat.reduceAdd, Nat.reduceLeDiff, Nat.reduceBEq, decide_true, cu]
      have hsl : (setB s).length = (numB s.length).length + (s.flatMap rangeB).length := by simp only [setB, List.length_append]
      have hslen := numB_pos s.length
      refine ⟨⟨by omega, by omega⟩, ?_⟩
      have hsn : s.length < 1000000000 := by have := flatMap_len rangeB_pos s; omega
      refine callK_of (number_c base s.length _ (by omega) (by simp only [List.length_append]; omega) (z 0) wx hox (by omega)) ?_
      rintro v3 w3 ⟨ho3, hg3⟩
      have hG3 := hGx.trans hg3
      have s3 := hG3.1.size
      have hu3 := Sl.kept hu hg3.1 (fun j hj => (hox.block j hj).1)
      simp -dsimp only [push_cast, Nat.reduceAdd, Nat.reduceLeDiff, Nat.reduceBEq, decide_true]
      refine wpL_loop [0, 8, 29, 30, 31, 32, 33, 34, 35, 36, 37, 38, 39, 40] (fun z' wy => ∃ (j : Nat), z' 29 = .int .i64 j ∧ j ≤ s.length ∧ Own base 5 1 encB wy (z' 0) (l ++ numB c.sets.length ++ (c.sets.take i).flatMap setB ++ numB s.length ++ (s.take j).flatMap rangeB) ∧ Grow w3 wy v3 (z' 0)) (fun z' _ => s.length - (intOf (z' 29)).toNat) ?_ ?_
      · exact ⟨0, rfl, Nat.zero_le _, (by simpa using ho3 : Own base 5 1 encB w3 v3 (l ++ numB c.sets.length ++ (c.sets.take i).flatMap setB ++ numB s.length ++ (s.take 0).flatMap rangeB)), Grow.refl _ _⟩
      · intro z' wy hI
        obtain ⟨j, h29, hj, hoy, hgy⟩ := hI
        have hGy := hG3.trans hgy
        have sy := hGy.1.size
        simp -dsimp only [push_cast, Nat.reduceAdd, Nat.reduceLeDiff, Nat.reduceBEq, decide_true, h29]
        refine ⟨fun hlt2 => ?_, fun hge2 => ?_⟩
        · have hex := lt_get (l := s) (i := j) (by omega)
          obtain ⟨r, hx⟩ := hex
          have hr := hx.1
          have hrm := hx.2.1
          have hrt := hx.2.2.2
          have hr12 := range_small hc hsm hrm
          have hr1 := hr12.1
          have hr2 := hr12.2
          have hfl2 := flat_len (f := rangeB) hr
          have hget := (Sl.kept hu3 hgy.1 (fun j hj => (ho3.block j hj).1)).get hr
          obtain ⟨b3, o3, rfl, hX3, hcell3⟩ := hget
          have ce : cellsAt wy ⟨b3, o3 + j * 2, none⟩ 0 2 = some [.int .i64 r.1, .int .i64 r.2] := cellsAt_of (encR r) 0 (fun k u hu => by simpa using hcell3 k u hu)
          simp -dsimp only [push_cast, Nat.reduceAdd, Nat.reduceLeDiff, Nat.reduceBEq, decide_true, ce]
          have hrl : (rangeB r).length = (numB r.1.toNat).length + (numB r.2.toNat).length := by simp only [rangeB, List.length_append]
          refine ⟨⟨by omega, by omega⟩, ?_⟩
          refine allocK (z := [.int .i64 0, .int .i64 0]) (by kernel_rfl) ?_
          intro w4 hw4
          simp -dsimp only [push_cast, Nat.reduceAdd, Nat.reduceLeDiff, Nat.reduceBEq, decide_true]
          refine storeAgg (n := 2) (by kernel_rfl) hw4.blk rfl (by simp) (by simp [Value.oneCell']) ?_
          intro w5 hw5
          have s4 := hw4.size
          have hB5 : Blk w5 wy.heap.size 79 [.int .i64 r.1, .int .i64 r.2] := hw5.blk
          have hG5 : Grow wy w5 (z' 0) (z' 0) := (Grow.still _ (Kept.new hw4)).put hw5 (Nat.le_refl _)
          have ho5 : Own base 5 1 encB w5 (z' 0) _ := (hoy.new hw4).keptX hw5.kept (fun g hg hh => by have := (hoy.block g hg).2; omega)
          have hap : (z' 0).ownBlock ≠ some wy.heap.size := fun h => by have := (hoy.block _ h).2; omega
          simp -dsimp only [push_cast, Nat.reduceAdd, Nat.reduceLeDiff, Nat.reduceBEq, decide_true]
          have s5 := hG5.1.size
          have s6 := hw5.size
          refine wpL_draw (fun w' => Blk w' wy.heap.size 79 [.int .i64 r.1, .int .i64 r.2]) mixed (by kernel_rfl) hB5.drew ?_
          have f0 : w5.drew.cell? ⟨wy.heap.size, 0, none⟩ = some (.int .i64 r.1) := hB5.drew.cell rfl
          simp -dsimp only [push_cast, Nat.reduceAdd, Nat.reduceLeDiff, Nat.reduceBEq, decide_true, f0]
          refine ⟨fun w'' hC => by rw [hC.cell (o := 0) rfl]; exact rfl, ?_⟩
          refine callK_of (number_cI base r.1 _ hr1.1 hr1.2 (by simp only [List.length_append]; omega) (z' 0) w5.drew (ownStill ho5 (Kept.refl _ _).drew) (by show base ≤ w5.heap.size; omega)) ?_
          rintro v6 w6 ⟨ho6, hg6⟩
          have hB6 := hB5.drew.kept hg6.1 hap
          refine ⟨hB6, ?_⟩
          have f1 : w6.cell? ⟨wy.heap.size, 1, none⟩ = some (.int .i64 r.2) := hB6.cell rfl
          simp -dsimp only [push_cast, Nat.reduceAdd, Nat.reduceLeDiff, Nat.reduceBEq, decide_true, f1]
          refine ⟨fun w'' hC => by rw [hC.cell (o := 1) rfl]; exact rfl, ?_⟩
          have s7 := hg6.1.size
          refine callK_of (number_cI base r.2 _ hr2.1 hr2.2 (by simp only [List.length_append]; omega) v6 w6 ho6 (by have : w5.heap.size ≤ w6.heap.size := s7; omega)) ?_
          rintro v7 w7 ⟨ho7, hg7⟩
          have hB7 := hB6.kept hg7.1 (hg6.apart (by show wy.heap.size < w5.heap.size; omega) hap)
          refine ⟨hB7, ?_⟩
          simp -dsimp only [push_cast, Nat.reduceAdd, Nat.reduceLeDiff, Nat.reduceBEq, decide_true]
          refine ⟨⟨by omega, by omega⟩, ⟨j + 1, rfl, by omega, ?_, hgy.trans (hG5.trans ((Grow.still _ (Kept.refl _ _).drew).trans (hg6.trans hg7)))⟩, by rw [h29]; simp only [intOf]; omega⟩
          rw [flat_take hrt]
          simpa only [rangeB, List.append_assoc] using ho7
        · have hj2 : s.take j = s := List.take_of_length_le (by omega)
          rw [hj2] at hoy
          refine ⟨⟨by omega, by omega⟩, ⟨i + 1, rfl, by omega, ?_, hgx.trans (hg3.trans hgy)⟩, by rw [h19]; simp only [intOf]; omega⟩
          rw [flat_take ht]
          simpa only [setB, List.append_assoc] using hoy
    · have hi2 : c.sets.take i = c.sets := List.take_of_length_le (by omega)
      rw [hi2] at hox
      have f1 := hgx.1.cell e1 hv1s
      have hap1 := hgx.apart (by have := hG2.1.size; have := hg2.1.size; omega) hv1s
      have hcm := hcr.many
      simp -dsimp only [push_cast, Nat.reduceAdd, Nat.reduceLeDiff, Nat.reduceBEq, decide_true, f1]
      refine callK_of (number_c base c.ins.length _ (by omega) (by simp only [List.length_append]; omega) (z 0) wx hox (by omega)) ?_
      rintro v3 w3 ⟨ho3, hg3⟩
      have hG3 := hGx.trans hg3
      have f3 := hg3.1.cell f1 hap1
      simp -dsimp only [push_cast, Nat.reduceAdd, Nat.reduceLeDiff, Nat.reduceBEq, decide_true, f3]
      refine wpL_loop [0, 10, 50, 51, 52, 53, 54, 55, 56, 57, 58, 59, 60, 61, 62, 63, 64] (fun z' wy => ∃ (j : Nat), z' 50 = .int .i64 j ∧ j ≤ c.ins.length ∧ Own base 5 1 encB wy (z' 0) (l ++ numB c.sets.length ++ c.sets.flatMap setB ++ numB c.ins.length ++ (c.ins.take j).flatMap insB) ∧ Grow w3 wy v3 (z' 0)) (fun z' _ => c.ins.length - (intOf (z' 50)).toNat) ?_ ?_
      · exact ⟨0, rfl, Nat.zero_le _, (by simpa using ho3 : Own base 5 1 encB w3 v3 (l ++ numB c.sets.length ++ c.sets.flatMap setB ++ numB c.ins.length ++ (c.ins.take 0).flatMap insB)), Grow.refl _ _⟩
      · intro z' wy hI
        obtain ⟨j, h50, hj, hoy, hgy⟩ := hI
        have hGy := hG3.trans hgy
        have sy := hGy.1.size
        simp -dsimp only [push_cast, Nat.reduceAdd, Nat.reduceLeDiff, Nat.reduceBEq, decide_true, h50]
        refine ⟨fun hlt2 => ?_, fun hge2 => ?_⟩
        · have hex := lt_get (l := c.ins) (i := j) (by omega)
          obtain ⟨x, hxx⟩ := hex
          have hx := hxx.1
          have hxm := hxx.2.1
          have hxt := hxx.2.2.2
          have hx123 := ins_small hc hxm
          have hx1 := hx123.1
          have hx2 := hx123.2.1
          have hx3 := hx123.2.2
          have hfl2 := flat_len (f := insB) hx
          have hget := (Sl.kept hiv hGy.1 hvb).get hx
          obtain ⟨b3, o3, rfl, hX3, hcell3⟩ := hget
          have ce : cellsAt wy ⟨b3, o3 + j * 3, none⟩ 0 3 = some [.int .i64 x.op, .int .i64 x.a, .int .i64 x.b] := cellsAt_of (encIn x) 0 (fun k u hu => by simpa using hcell3 k u hu)
          simp -dsimp only [push_cast, Nat.reduceAdd, Nat.reduceLeDiff, Nat.reduceBEq, decide_true, ce]
          have hxl : (insB x).length = (numB x.op.toNat).length + (numB x.a.toNat).length + (numB x.b.toNat).length := by simp only [insB, List.length_append]
          refine ⟨⟨by omega, by omega⟩, ?_⟩
          refine allocK (z := [.int .i64 0, .int .i64 0, .int .i64 0]) (by kernel_rfl) ?_
          intro w4 hw4
          simp -dsimp only [push_cast, Nat.reduceAdd, Nat.reduceLeDiff, Nat.reduceBEq, decide_true]
          refine storeAgg (n := 3) (by kernel_rfl) hw4.blk rfl (by simp) (by simp [Value.oneCell']) ?_
          intro w5 hw5
          have s4 := hw4.size
          have hB5 : Blk w5 wy.heap.size 37 [.int .i64 x.op, .int .i64 x.a, .int .i64 x.b] := hw5.blk
          have hG5 : Grow wy w5 (z' 0) (z' 0) := (Grow.still _ (Kept.new hw4)).put hw5 (Nat.le_refl _)
          have ho5 : Own base 5 1 encB w5 (z' 0) _ := (hoy.new hw4).keptX hw5.kept (fun g hg hh => by have := (hoy.block g hg).2; omega)
          have hap : (z' 0).ownBlock ≠ some wy.heap.size := fun h => by have := (hoy.block _ h).2; omega
          simp -dsimp only [push_cast, Nat.reduceAdd, Nat.reduceLeDiff, Nat.reduceBEq, decide_true]
          have s5 := hG5.1.size
          have s6 := hw5.size
          refine wpL_draw (fun w' => Blk w' wy.heap.size 37 [.int .i64 x.op, .int .i64 x.a, .int .i64 x.b]) mixed (by kernel_rfl) hB5.drew ?_
          have f0 : w5.drew.cell? ⟨wy.heap.size, 0, none⟩ = some (.int .i64 x.op) := hB5.drew.cell rfl
          simp -dsimp only [push_cast, Nat.reduceAdd, Nat.reduceLeDiff, Nat.reduceBEq, decide_true, f0]
          refine ⟨fun w'' hC => by rw [hC.cell (o := 0) rfl]; exact rfl, ?_⟩
          refine callK_of (number_cI base x.op _ hx1.1 hx1.2 (by simp only [List.length_append]; omega) (z' 0) w5.drew (ownStill ho5 (Kept.refl _ _).drew) (by show base ≤ w5.heap.size; omega)) ?_
          rintro v6 w6 ⟨ho6, hg6⟩
          have hB6 := hB5.drew.kept hg6.1 hap
          have hap6 := hg6.apart (by show wy.heap.size < w5.heap.size; omega) hap
          refine ⟨hB6, ?_⟩
          have f1 : w6.cell? ⟨wy.heap.size, 1, none⟩ = some (.int .i64 x.a) := hB6.cell rfl
          simp -dsimp only [push_cast, Nat.reduceAdd, Nat.reduceLeDiff, Nat.reduceBEq, decide_true, f1]
          refine ⟨fun w'' hC => by rw [hC.cell (o := 1) rfl]; exact rfl, ?_⟩
          have s7 : w5.heap.size ≤ w6.heap.size := hg6.1.size
          refine callK_of (number_cI base x.a _ hx2.1 hx2.2 (by simp only [List.length_append]; omega) v6 w6 ho6 (by omega)) ?_
          rintro v7 w7 ⟨ho7, hg7⟩
          have hB7 := hB6.kept hg7.1 hap6
          have hap7 := hg7.apart (by omega) hap6
          refine ⟨hB7, ?_⟩
          have f2 : w7.cell? ⟨wy.heap.size, 2, none⟩ = some (.int .i64 x.b) := hB7.cell rfl
          simp -dsimp only [push_cast, Nat.reduceAdd, Nat.reduceLeDiff, Nat.reduceBEq, decide_true, f2]
          refine ⟨fun w'' hC => by rw [hC.cell (o := 2) rfl]; exact rfl, ?_⟩
          have s8 := hg7.1.size
          refine callK_of (number_cI base x.b _ hx3.1 hx3.2 (by simp only [List.length_append]; omega) v7 w7 ho7 (by omega)) ?_
          rintro v8 w8 ⟨ho8, hg8⟩
          refine ⟨hB7.kept hg8.1 hap7, ?_⟩
          simp -dsimp only [push_cast, Nat.reduceAdd, Nat.reduceLeDiff, Nat.reduceBEq, decide_true]
          refine ⟨⟨by omega, by omega⟩, ⟨j + 1, rfl, by omega, ?_, hgy.trans (hG5.trans ((Grow.still _ (Kept.refl _ _).drew).trans (hg6.trans (hg7.trans hg8))))⟩, by rw [h50]; simp only [intOf]; omega⟩
          rw [flat_take hxt]
          simpa only [insB, List.append_assoc] using ho8
        · have hj2 : c.ins.take j = c.ins := List.take_of_length_le (by omega)
          rw [hj2] at hoy
          refine ⟨?_, hGy⟩
          simpa only [codeB, List.append_assoc] using hoy
end Go.Proofs.YtimjpijbcnjaaaaDoor
