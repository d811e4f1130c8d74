import Derived.Test.YtimjpijbcnjaaaaDoorOp2
import Derived.Test.YtimjpijbcnjaaaaDoorOp3
import Derived.Test.YtimjpijbcnjaaaaDoorVo
import Derived.Test.YtimjpijbcnjaaaaDoorSw
import Derived.Test.YtimjpijbcnjaaaaDoorVw
namespace Go.Proofs.YtimjpijbcnjaaaaDoor
open Go.Vc Go.Proofs Go.RowKit Cae
set_option maxRecDepth 100000
set_option linter.unusedSimpArgs false
set_option linter.unusedVariables false
attribute [local irreducible] wpL callK valK unitK runK Fun Sl Own vc vcOps opK pureK
set_option maxHeartbeats 8000000

/-! Lists as they stand while less code is written. -/
def toL (c : CodeP) (is : List Bool) (i : Nat) : List Nat := (List.range (c.ins.length + 1)).map fun j => if j < i then toP c is j else 0
def isL (c : CodeP) (is : List Bool) (i : Nat) : List Bool := (List.range c.ins.length).map fun j => if j < i then keepP c is j else decide (is[j]? = some true)
def natV (l : List Nat) : List Value := l.map fun (n : Nat) => Value.int .i64 (n : Int)
theorem toL_get {c : CodeP} {is : List Bool} {i j : Nat} (h : j < c.ins.length + 1) : (toL c is i)[j]? = some (if j < i then toP c is j else 0) := by simp [toL, h]
theorem isL_get {c : CodeP} {is : List Bool} {i j : Nat} (h : j < c.ins.length) : (isL c is i)[j]? = some (if j < i then keepP c is j else decide (is[j]? = some true)) := by simp [isL, h]
theorem isL_len (c : CodeP) (is : List Bool) (i : Nat) : (isL c is i).length = c.ins.length := by simp [isL]
theorem toL_len (c : CodeP) (is : List Bool) (i : Nat) : (toL c is i).length = c.ins.length + 1 := by simp [toL]
theorem toL_zero (c : CodeP) (is : List Bool) : natV (toL c is 0) = List.replicate (c.ins.length + 1) (.int .i64 0) := by
  apply List.ext_getElem?
  intro j
  unfold natV
  rw [List.getElem?_map, List.getElem?_replicate]
  by_cases h : j < c.ins.length + 1
  · rw [toL_get h, if_pos h]; rfl
  · rw [List.getElem?_eq_none (by rw [toL_len]; omega), if_neg h]; rfl
theorem isL_zero {c : CodeP} {is : List Bool} (h : is.length = c.ins.length) : isL c is 0 = is := by
  apply List.ext_getElem?
  intro j
  by_cases hj : j < c.ins.length
  · rw [isL_get hj, if_neg (by omega), List.getElem?_eq_getElem (by omega)]
    cases is[j] <;> simp
  · rw [List.getElem?_eq_none (by rw [isL_len]; omega), List.getElem?_eq_none (by omega)]
theorem toL_step {c : CodeP} {is : List Bool} {i : Nat} (h : i < c.ins.length + 1) : (natV (toL c is i)).set i (.int .i64 (toP c is i : Int)) = natV (toL c is (i + 1)) := by
  apply List.ext_getElem?
  intro j
  unfold natV
  rw [List.getElem?_set, List.getElem?_map, List.getElem?_map, List.length_map, toL_len]
  by_cases hj : j < c.ins.length + 1
  · rw [toL_get hj, toL_get hj]
    by_cases e : i = j
    · subst e; rw [if_pos rfl, if_pos h, if_pos (by omega)]; rfl
    · rw [if_neg e]
      by_cases h1 : j < i
      · rw [if_pos h1, if_pos (by omega)]
      · rw [if_neg h1, if_neg (by omega)]
  · rw [List.getElem?_eq_none (by rw [toL_len]; omega), List.getElem?_eq_none (by rw [toL_len]; omega), if_neg (by omega)]
theorem isL_step {c : CodeP} {is : List Bool} {i : Nat} (h : i < c.ins.length) (hs : skipP c is i = true) : (isV (isL c is i)).set i (.bool false) = isV (isL c is (i + 1)) := by
  apply List.ext_getElem?
  intro j
  unfold isV
  rw [List.getElem?_set, List.getElem?_map, List.getElem?_map, List.length_map, isL_len]
  by_cases hj : j < c.ins.length
  · rw [isL_get hj, isL_get hj]
    by_cases e : i = j
    · subst e; rw [if_pos rfl, if_pos h, if_pos (by omega)]; unfold keepP; rw [hs]; simp
    · rw [if_neg e]
      by_cases h1 : j < i
      · rw [if_pos h1, if_pos (by omega)]
      · rw [if_neg h1, if_neg (by omega)]
  · rw [List.getElem?_eq_none (by rw [isL_len]; omega), List.getElem?_eq_none (by rw [isL_len]; omega), if_neg (by omega)]
theorem isL_same {c : CodeP} {is : List Bool} {i : Nat} (h : i < c.ins.length) (hs : skipP c is i = false) : isL c is (i + 1) = isL c is i := by
  apply List.ext_getElem?
  intro j
  by_cases hj : j < c.ins.length
  · rw [isL_get hj, isL_get hj]
    by_cases e : i = j
    · subst e; rw [if_pos (by omega), if_neg (by omega)]; unfold keepP; rw [hs]; simp
    · by_cases h1 : j < i
      · rw [if_pos h1, if_pos (by omega)]
      · rw [if_neg h1, if_neg (by omega)]
  · rw [List.getElem?_eq_none (by rw [isL_len]; omega), List.getElem?_eq_none (by rw [isL_len]; omega)]
theorem nextFrom_congr {is is' : List Bool} (hl : is.length = is'.length) : ∀ (f k : Nat), (∀ j, k ≤ j → is[j]? = is'[j]?) → nextFrom is f k = nextFrom is' f k
  | 0, k, h => by rw [nextFrom, nextFrom, hl]
  | f + 1, k, h => by
    rw [nextFrom, nextFrom, h k (Nat.le_refl _), hl, nextFrom_congr hl f (k + 1) (fun j hj => h j (by omega))]
theorem nextP_isL {c : CodeP} {is : List Bool} (hl : is.length = c.ins.length) {i : Nat} : nextP (isL c is i) i = nextP is i := by
  unfold nextP
  rw [isL_len, ← hl]
  apply nextFrom_congr (by rw [isL_len, hl])
  intro j hj
  by_cases h : j < c.ins.length
  · rw [isL_get h, if_neg (by omega), List.getElem?_eq_getElem (by omega)]
    cases is[j] <;> simp
  · rw [List.getElem?_eq_none (by rw [isL_len]; omega), List.getElem?_eq_none (by omega)]

theorem assoc_used (k : Nat) : ∀ (used : List Nat) (n : Nat), assocG k ((used.zipIdx n).map fun p => (p.1, Value.int .i64 (p.2 : Int))) = if k ∈ used then some (.int .i64 ((idxN k used + n : Nat) : Int)) else none
  | [], n => rfl
  | a :: l, n => by
    rw [List.zipIdx_cons, List.map_cons, assocG, idxN]
    by_cases h : k = a
    · subst h; simp
    · rw [if_neg h, if_neg (Ne.symm h), assoc_used k l (n + 1)]
      simp only [List.mem_cons, h, false_or]
      congr 3
      omega
theorem used_more (l : List Nat) (k : Nat) : ((l ++ [k]).zipIdx.map fun p => (p.1, Value.int .i64 (p.2 : Int))) = (l.zipIdx.map fun p => (p.1, Value.int .i64 (p.2 : Int))) ++ [(k, Value.int .i64 (l.length : Int))] := by
  rw [List.zipIdx_append, List.map_append]
  simp

theorem less_c (c : CodeP) (hc : CR c) (X : Nat → Prop) (v : Value) (w : World) (hX : ∀ b, X b → b < w.heap.size) (hv : CodeV X w v c) (hlens : SetsLen c) :
    Fun Tryd.prog 60 [v] w fun r w' => (∃ is sv iv, r = .agg #[sv, iv] ∧ Closed c is ∧ SetsV (fun b => X b ∨ iv.ownBlock = some b) w' sv (lessP c is).sets ∧ Own w.heap.size 37 3 encIn w' iv (lessP c is).ins) ∧ Below w.heap.size w w' := by
  have hm := hc.many
  have hone := hc.one
  have hsm := hc.sets
  have hv0 : CodeV (fun _ => False) w v c := hv.mono (fun _ _ _ => rfl) (fun _ h => h.elim)
  obtain ⟨sv, iv, rfl, hsv, hiv⟩ := hv
  obtain ⟨a, cp, rfl, hcp⟩ := hiv.shape
  have hsv0 := hsv.shape
  obtain ⟨sa, sc, rfl, hsc⟩ := hsv0
  refine fun_of_vcC Tryd.func60 rfl (by kernel_rfl) [.cell 2 25] rfl ?_
  simp -dsimp only [push_cast, fr0, Tryd.ntmps60, List.length_cons, List.length_nil, Nat.reduceAdd, Nat.reduceSub, Nat.reduceBEq, List.replicate_succ, List.replicate_zero]
  refine boxK_of ?_
  intro w1 hw1
  have hw1 : New w w1 25 [.slice sa c.sets.length sc, .slice a c.ins.length cp] := hw1
  have sz1 := hw1.size
  simp -dsimp only [push_cast, Nat.reduceAdd, Nat.reduceLeDiff, Nat.reduceBEq, decide_true]
  refine allocK (z := [.slice none 0 0, .slice none 0 0]) (by kernel_rfl) ?_
  intro w2 hw2
  have sz2 := hw2.size
  have hb2 : Below w.heap.size w w2 := hw1.below.trans (hw2.below.mono (by omega))
  have hC2 : Blk w2 w.heap.size 25 [.slice sa c.sets.length sc, .slice a c.ins.length cp] := hw1.blk.below hw2.below (by omega)
  have hR2 : Blk w2 w1.heap.size 25 [.slice none 0 0, .slice none 0 0] := hw2.blk
  have q2 := hC2.cellsAt
  simp only [List.length_cons, List.length_nil, Nat.zero_add, Nat.reduceAdd] at q2
  simp -dsimp only [push_cast, Nat.reduceAdd, Nat.reduceLeDiff, Nat.reduceBEq, decide_true, ne_eq, eq_self, not_true_eq_false, not_false_eq_true, true_imp_iff, false_imp_iff, Int.reduceNe, Int.reduceEq, Int.reduceLT, Int.reduceLE, Bool.not_true, Bool.not_false, q2]
  refine callK_of (reached_c c hc _ w2 (hv0.below hb2)) ?_
  rintro _ w3 ⟨⟨is, sb, rfl, hS3, hCl, hsb⟩, hb3⟩
  have sz3 := hb3.size
  have hC3 := hC2.below hb3 (by omega)
  have hR3 := hR2.below hb3 (by omega)
  have c3 : w3.cell? ⟨w.heap.size, 1, none⟩ = some (.slice a c.ins.length cp) := hC3.cell rfl
  have hsl := hS3.lt
  simp -dsimp only [push_cast, Nat.reduceAdd, Nat.reduceLeDiff, Nat.reduceBEq, decide_true, ne_eq, eq_self, not_true_eq_false, not_false_eq_true, true_imp_iff, false_imp_iff, Int.reduceNe, Int.reduceEq, Int.reduceLT, Int.reduceLE, Bool.not_true, Bool.not_false, c3]
  refine ⟨⟨by omega, by omega⟩, ?_⟩
  have ecast : ((c.ins.length : Int) + 1) = ((c.ins.length + 1 : Nat) : Int) := by omega
  rw [ecast]
  refine makeK (z := .int .i64 0) elI_26 (by kernel_rfl) rfl (by omega) (by omega) ?_
  intro w4 hw4
  have sz4 := hw4.size
  have hC4 := hC3.below hw4.below (by omega)
  have hR4 := hR3.below hw4.below (by omega)
  have hS4 := hS3.below hw4.below (by omega)
  have hT4 : Blk w4 w3.heap.size 3 (natV (toL c is 0)) := by rw [toL_zero]; exact hw4.blk
  have hb4 : Below w.heap.size w w4 := hb2.trans ((hb3.mono (by omega)).trans (hw4.below.mono (by omega)))
  have c4 : w4.cell? ⟨w.heap.size, 1, none⟩ = some (.slice a c.ins.length cp) := hC4.cell rfl
  simp -dsimp only [push_cast, Nat.reduceAdd, Nat.reduceLeDiff, Nat.reduceBEq, decide_true, ne_eq, eq_self, not_true_eq_false, not_false_eq_true, true_imp_iff, false_imp_iff, Int.reduceNe, Int.reduceEq, Int.reduceLT, Int.reduceLE, Bool.not_true, Bool.not_false, c4]
  refine wpL_loop [5, 6, 7, 8, 25, 26, 27, 28, 29, 30, 31, 32, 33, 34, 35, 36, 37, 38, 39, 40, 41, 42, 43, 44, 45, 46, 47, 48, 49, 50, 51, 52, 53, 54, 55, 56, 57, 58, 59, 60, 61, 62, 63, 64, 65] (fun z wx => ∃ (i : Nat), z 25 = .int .i64 i ∧ z 5 = .int .i64 (toP c is i : Int) ∧ i ≤ c.ins.length ∧ Blk wx sb 4 (isV (isL c is i)) ∧ Blk wx w3.heap.size 3 (natV (toL c is i)) ∧
      Blk wx w.heap.size 25 [.slice sa c.sets.length sc, .slice a c.ins.length cp] ∧ Blk wx w1.heap.size 25 [.slice none 0 0, .slice none 0 0] ∧ Below w.heap.size w wx ∧ w4.heap.size ≤ wx.heap.size) (fun z _ => c.ins.length - (intOf (z 25)).toNat) ?_ ?_
  · exact ⟨0, rfl, rfl, Nat.zero_le _, by rw [isL_zero hCl.len]; exact hS4, hT4, hC4, hR4, hb4, Nat.le_refl _⟩
  · intro z wx hI
    obtain ⟨i, h25, h5, hi, hSx, hTx, hCx, hRx, hbx, szx⟩ := hI
    simp -dsimp only [push_cast, Nat.reduceAdd, Nat.reduceLeDiff, Nat.reduceBEq, decide_true, ne_eq, eq_self, not_true_eq_false, not_false_eq_true, true_imp_iff, false_imp_iff, Int.reduceNe, Int.reduceEq, Int.reduceLT, Int.reduceLE, Bool.not_true, Bool.not_false, h25, h5]
    refine ⟨fun hlt => ?_, fun hge => ?_⟩
    · have hg := lt_get (l := c.ins) (i := i) (by omega)
      obtain ⟨x, hx, hxm, _⟩ := hg
      have hg := (hiv.below hbx).get hx
      obtain ⟨ib, io, rfl, _, hic⟩ := hg
      have ci : cellsAt wx ⟨ib, io + i * 3, none⟩ 0 3 = some [.int .i64 x.op, .int .i64 x.a, .int .i64 x.b] := cellsAt_of (encIn x) 0 (fun j u hu => by simpa using hic j u hu)
      simp -dsimp only [push_cast, Nat.reduceAdd, Nat.reduceLeDiff, Nat.reduceBEq, decide_true, ne_eq, eq_self, not_true_eq_false, not_false_eq_true, true_imp_iff, false_imp_iff, Int.reduceNe, Int.reduceEq, Int.reduceLT, Int.reduceLE, Bool.not_true, Bool.not_false, ci]
      refine ⟨⟨by omega, by omega⟩, ?_⟩
      refine allocK (z := [.int .i64 0, .int .i64 0, .int .i64 0]) (by kernel_rfl) ?_
      intro w5 hw5
      have sz5 := hw5.size
      simp -dsimp only [push_cast, Nat.reduceAdd, Nat.reduceLeDiff, Nat.reduceBEq, decide_true]
      refine storeAgg (n := 3) (by kernel_rfl) hw5.blk rfl (by simp) (by simp [Value.oneCell']) ?_
      intro w6 hw6
      have sz6 := hw6.size
      have hX6 : Blk w6 wx.heap.size 37 [.int .i64 x.op, .int .i64 x.a, .int .i64 x.b] := hw6.blk
      have k6 : Kept (fun j => j = wx.heap.size) wx w6 := (Kept.new hw5).trans hw6.kept (fun _ _ h => h)
      have hS6 := hSx.kept k6 (by omega)
      have hT6 := hTx.kept k6 (by omega)
      have hC6 := hCx.kept k6 (by omega)
      have hR6 := hRx.kept k6 (by omega)
      have hb6 : Below w.heap.size w w6 := hbx.trans (k6.below (by omega) (fun _ h => by omega))
      simp -dsimp only [push_cast, Nat.reduceAdd, Nat.reduceLeDiff, Nat.reduceBEq, decide_true, ne_eq, eq_self, not_true_eq_false, not_false_eq_true, true_imp_iff, false_imp_iff, Int.reduceNe, Int.reduceEq, Int.reduceLT, Int.reduceLE, Bool.not_true, Bool.not_false]
      refine ⟨⟨by omega, by omega⟩, ?_⟩
      refine storeK_of hT6 (by unfold natV; rw [List.length_map, toL_len]; omega) rfl ?_
      intro w7 hw7
      have hT7 := hw7.blk
      rw [toL_step (by omega)] at hT7
      have sz7 := hw7.size
      have hS7 := hS6.kept hw7.kept (by omega)
      have hX7 := hX6.kept hw7.kept (by omega)
      have hC7 := hC6.kept hw7.kept (by omega)
      have hR7 := hR6.kept hw7.kept (by omega)
      have hb7 : Below w.heap.size w w7 := hb6.trans (hw7.kept.below (by omega) (fun _ h => by omega))
      simp -dsimp only [push_cast, Nat.reduceAdd, Nat.reduceLeDiff, Nat.reduceBEq, decide_true, ne_eq, eq_self, not_true_eq_false, not_false_eq_true, true_imp_iff, false_imp_iff, Int.reduceNe, Int.reduceEq, Int.reduceLT, Int.reduceLE, Bool.not_true, Bool.not_false]
      refine wpL_draw (fun w' => w' = w7.drew) mixed (by kernel_rfl) rfl ?_
      have t0 : w7.drew.cell? ⟨wx.heap.size, 0, none⟩ = some (.int .i64 x.op) := hX7.drew.cell rfl
      have t1 : w7.drew.cell? ⟨wx.heap.size, 1, none⟩ = some (.int .i64 x.a) := hX7.drew.cell rfl
      have hgb : ∃ bi, decide (is[i]? = some true) = bi := ⟨_, rfl⟩
      obtain ⟨bi, hbi⟩ := hgb
      have b0 : w7.drew.cell? ⟨sb, i, none⟩ = some (.bool bi) := hS7.drew.cell (by unfold isV; rw [List.getElem?_map, isL_get (by omega), if_neg (by omega), hbi]; rfl)
      have hskd : skipP c is i = decide (x.op = 3 ∧ (nextP is i : Int) = x.a ∧ (i : Int) < x.a) := by unfold skipP; rw [hx]
      simp -dsimp only [push_cast, Nat.reduceAdd, Nat.reduceLeDiff, Nat.reduceBEq, decide_true, ne_eq, eq_self, not_true_eq_false, not_false_eq_true, true_imp_iff, false_imp_iff, Int.reduceNe, Int.reduceEq, Int.reduceLT, Int.reduceLE, Bool.not_true, Bool.not_false, t0, t1]
      refine ⟨fun w'' hC => by rw [hC]; exact optBlk hX7.drew rfl, fun h3 => ?_, fun h3 => ?_⟩
      · refine callK_of (next_c (isL c is i) (by rw [isL_len]; omega) i (fun _ => False) _ w7.drew ?_ (by rw [isL_len]; omega)) ?_
        · exact slBlk (f := Value.bool) hS7.drew (isL_len c is i).symm (by rw [isL_len]; omega)
        · rintro _ w8 ⟨rfl, rfl⟩
          rw [nextP_isL hCl.len]
          refine ⟨rfl, ?_⟩
          by_cases hgt : (i : Int) < x.a
          · have he : decide ((i : Int) < x.a) = true := decide_eq_true hgt
            simp -dsimp only [push_cast, Nat.reduceAdd, Nat.reduceLeDiff, Nat.reduceBEq, decide_true, ne_eq, eq_self, not_true_eq_false, not_false_eq_true, true_imp_iff, false_imp_iff, Int.reduceNe, Int.reduceEq, Int.reduceLT, Int.reduceLE, Bool.not_true, Bool.not_false, t0, t1, he]
            refine ⟨fun w'' hC => by rw [hC]; exact optBlk hX7.drew rfl, fun hnx => ⟨fun w'' hC => by rw [hC]; exact optBlk hX7.drew rfl, ?_⟩, fun hnx => ?_⟩
            · have hsk : skipP c is i = true := by rw [hskd]; exact decide_eq_true ⟨h3, hnx, hgt⟩
              have hkk : keepP c is i = false := by unfold keepP; rw [hsk]; simp
              have hto : toP c is (i + 1) = toP c is i := by rw [toP, if_neg (by rw [hkk]; simp)]
              have hS7d : Blk w7.drew sb 4 (isV (isL c is i)) := hS7.drew
              have hfin : ∀ w8, Put w7.drew w8 sb 4 ((isV (isL c is i)).set i (.bool false)) → Blk w8 sb 4 (isV (isL c is (i + 1))) ∧ Blk w8 w3.heap.size 3 (natV (toL c is (i + 1))) ∧ Blk w8 w.heap.size 25 [.slice sa c.sets.length sc, .slice (some ⟨ib, io, none⟩) c.ins.length cp] ∧ Blk w8 w1.heap.size 25 [.slice none 0 0, .slice none 0 0] ∧ Below w.heap.size w w8 ∧ w4.heap.size ≤ w8.heap.size := fun w8 hw8 => by
                have sz8 : w8.heap.size = w7.heap.size := hw8.size
                refine ⟨by rw [← isL_step (by omega) hsk]; exact hw8.blk, hT7.drew.kept hw8.kept (by omega), hC7.drew.kept hw8.kept (by omega), hR7.drew.kept hw8.kept (by omega), hb7.drew.trans (hw8.kept.below (by show w.heap.size ≤ w7.heap.size; omega) (fun _ h => by omega)), by omega⟩
              cases bi with
              | true =>
                simp -dsimp only [push_cast, Nat.reduceAdd, Nat.reduceLeDiff, Nat.reduceBEq, decide_true, ne_eq, eq_self, not_true_eq_false, not_false_eq_true, true_imp_iff, false_imp_iff, Int.reduceNe, Int.reduceEq, Int.reduceLT, Int.reduceLE, Bool.not_true, Bool.not_false, b0]
                refine ⟨⟨by omega, by omega⟩, ⟨by omega, by omega⟩, ?_⟩
                refine storeK_of hS7d (by unfold isV; rw [List.length_map, isL_len]; omega) rfl ?_
                intro w8 hw8
                have hf := hfin w8 hw8
                obtain ⟨f1, f2, f3, f4, f5, f6⟩ := hf
                simp -dsimp only [push_cast, Nat.reduceAdd, Nat.reduceLeDiff, Nat.reduceBEq, decide_true, ne_eq, eq_self, not_true_eq_false, not_false_eq_true, true_imp_iff, false_imp_iff, Int.reduceNe, Int.reduceEq, Int.reduceLT, Int.reduceLE, Bool.not_true, Bool.not_false]
                exact ⟨⟨by omega, by omega⟩, ⟨i + 1, rfl, by rw [hto], by omega, f1, f2, f3, f4, f5, f6⟩, by rw [h25]; simp only [intOf]; omega⟩
              | false =>
                simp -dsimp only [push_cast, Nat.reduceAdd, Nat.reduceLeDiff, Nat.reduceBEq, decide_true, ne_eq, eq_self, not_true_eq_false, not_false_eq_true, true_imp_iff, false_imp_iff, Int.reduceNe, Int.reduceEq, Int.reduceLT, Int.reduceLE, Bool.not_true, Bool.not_false, b0]
                refine ⟨⟨by omega, by omega⟩, ⟨by omega, by omega⟩, ?_⟩
                refine storeK_of hS7d (by unfold isV; rw [List.length_map, isL_len]; omega) rfl ?_
                intro w8 hw8
                have hf := hfin w8 hw8
                obtain ⟨f1, f2, f3, f4, f5, f6⟩ := hf
                simp -dsimp only [push_cast, Nat.reduceAdd, Nat.reduceLeDiff, Nat.reduceBEq, decide_true, ne_eq, eq_self, not_true_eq_false, not_false_eq_true, true_imp_iff, false_imp_iff, Int.reduceNe, Int.reduceEq, Int.reduceLT, Int.reduceLE, Bool.not_true, Bool.not_false]
                exact ⟨⟨by omega, by omega⟩, ⟨i + 1, rfl, by rw [hto], by omega, f1, f2, f3, f4, f5, f6⟩, by rw [h25]; simp only [intOf]; omega⟩
            · have hsk : skipP c is i = false := by rw [hskd]; exact decide_eq_false fun h => hnx h.2.1
              have hkk : keepP c is i = bi := by unfold keepP; rw [hsk, hbi]; simp
              have hS8 : Blk w7.drew sb 4 (isV (isL c is (i + 1))) := by rw [isL_same (by omega) hsk]; exact hS7.drew
              cases bi with
              | true =>
                have hto : toP c is (i + 1) = toP c is i + 1 := by rw [toP, if_pos hkk]
                simp -dsimp only [push_cast, Nat.reduceAdd, Nat.reduceLeDiff, Nat.reduceBEq, decide_true, ne_eq, eq_self, not_true_eq_false, not_false_eq_true, true_imp_iff, false_imp_iff, Int.reduceNe, Int.reduceEq, Int.reduceLT, Int.reduceLE, Bool.not_true, Bool.not_false, b0]
                have hle := toP_le (c := c) (is := is) i
                exact ⟨⟨by omega, by omega⟩, ⟨by omega, by omega⟩, ⟨by omega, by omega⟩, ⟨i + 1, rfl, by rw [hto]; rfl, by omega, hS8, hT7.drew, hC7.drew, hR7.drew, hb7.drew, by show w4.heap.size ≤ w7.heap.size; omega⟩, by rw [h25]; simp only [intOf]; omega⟩
              | false =>
                have hto : toP c is (i + 1) = toP c is i := by rw [toP, if_neg (by rw [hkk]; simp)]
                simp -dsimp only [push_cast, Nat.reduceAdd, Nat.reduceLeDiff, Nat.reduceBEq, decide_true, ne_eq, eq_self, not_true_eq_false, not_false_eq_true, true_imp_iff, false_imp_iff, Int.reduceNe, Int.reduceEq, Int.reduceLT, Int.reduceLE, Bool.not_true, Bool.not_false, b0]
                exact ⟨⟨by omega, by omega⟩, ⟨by omega, by omega⟩, ⟨i + 1, rfl, by rw [hto], by omega, hS8, hT7.drew, hC7.drew, hR7.drew, hb7.drew, by show w4.heap.size ≤ w7.heap.size; omega⟩, by rw [h25]; simp only [intOf]; omega⟩
          · have he : decide ((i : Int) < x.a) = false := decide_eq_false hgt
            have hsk : skipP c is i = false := by rw [hskd]; exact decide_eq_false fun h => hgt h.2.2
            simp -dsimp only [push_cast, Nat.reduceAdd, Nat.reduceLeDiff, Nat.reduceBEq, decide_true, ne_eq, eq_self, not_true_eq_false, not_false_eq_true, true_imp_iff, false_imp_iff, Int.reduceNe, Int.reduceEq, Int.reduceLT, Int.reduceLE, Bool.not_true, Bool.not_false, t0, t1, he]
            refine ⟨fun w'' hC => by rw [hC]; exact optBlk hX7.drew rfl, fun hnx => ⟨fun w'' hC => by rw [hC]; exact optBlk hX7.drew rfl, ?_⟩, fun hnx => ?_⟩
            ·
              have hkk : keepP c is i = bi := by unfold keepP; rw [hsk, hbi]; simp
              have hS8 : Blk w7.drew sb 4 (isV (isL c is (i + 1))) := by rw [isL_same (by omega) hsk]; exact hS7.drew
              cases bi with
              | true =>
                have hto : toP c is (i + 1) = toP c is i + 1 := by rw [toP, if_pos hkk]
                simp -dsimp only [push_cast, Nat.reduceAdd, Nat.reduceLeDiff, Nat.reduceBEq, decide_true, ne_eq, eq_self, not_true_eq_false, not_false_eq_true, true_imp_iff, false_imp_iff, Int.reduceNe, Int.reduceEq, Int.reduceLT, Int.reduceLE, Bool.not_true, Bool.not_false, b0]
                have hle := toP_le (c := c) (is := is) i
                exact ⟨⟨by omega, by omega⟩, ⟨by omega, by omega⟩, ⟨by omega, by omega⟩, ⟨i + 1, rfl, by rw [hto]; rfl, by omega, hS8, hT7.drew, hC7.drew, hR7.drew, hb7.drew, by show w4.heap.size ≤ w7.heap.size; omega⟩, by rw [h25]; simp only [intOf]; omega⟩
              | false =>
                have hto : toP c is (i + 1) = toP c is i := by rw [toP, if_neg (by rw [hkk]; simp)]
                simp -dsimp only [push_cast, Nat.reduceAdd, Nat.reduceLeDiff, Nat.reduceBEq, decide_true, ne_eq, eq_self, not_true_eq_false, not_false_eq_true, true_imp_iff, false_imp_iff, Int.reduceNe, Int.reduceEq, Int.reduceLT, Int.reduceLE, Bool.not_true, Bool.not_false, b0]
                exact ⟨⟨by omega, by omega⟩, ⟨by omega, by omega⟩, ⟨i + 1, rfl, by rw [hto], by omega, hS8, hT7.drew, hC7.drew, hR7.drew, hb7.drew, by show w4.heap.size ≤ w7.heap.size; omega⟩, by rw [h25]; simp only [intOf]; omega⟩
            ·
              have hkk : keepP c is i = bi := by unfold keepP; rw [hsk, hbi]; simp
              have hS8 : Blk w7.drew sb 4 (isV (isL c is (i + 1))) := by rw [isL_same (by omega) hsk]; exact hS7.drew
              cases bi with
              | true =>
                have hto : toP c is (i + 1) = toP c is i + 1 := by rw [toP, if_pos hkk]
                simp -dsimp only [push_cast, Nat.reduceAdd, Nat.reduceLeDiff, Nat.reduceBEq, decide_true, ne_eq, eq_self, not_true_eq_false, not_false_eq_true, true_imp_iff, false_imp_iff, Int.reduceNe, Int.reduceEq, Int.reduceLT, Int.reduceLE, Bool.not_true, Bool.not_false, b0]
                have hle := toP_le (c := c) (is := is) i
                exact ⟨⟨by omega, by omega⟩, ⟨by omega, by omega⟩, ⟨by omega, by omega⟩, ⟨i + 1, rfl, by rw [hto]; rfl, by omega, hS8, hT7.drew, hC7.drew, hR7.drew, hb7.drew, by show w4.heap.size ≤ w7.heap.size; omega⟩, by rw [h25]; simp only [intOf]; omega⟩
              | false =>
                have hto : toP c is (i + 1) = toP c is i := by rw [toP, if_neg (by rw [hkk]; simp)]
                simp -dsimp only [push_cast, Nat.reduceAdd, Nat.reduceLeDiff, Nat.reduceBEq, decide_true, ne_eq, eq_self, not_true_eq_false, not_false_eq_true, true_imp_iff, false_imp_iff, Int.reduceNe, Int.reduceEq, Int.reduceLT, Int.reduceLE, Bool.not_true, Bool.not_false, b0]
                exact ⟨⟨by omega, by omega⟩, ⟨by omega, by omega⟩, ⟨i + 1, rfl, by rw [hto], by omega, hS8, hT7.drew, hC7.drew, hR7.drew, hb7.drew, by show w4.heap.size ≤ w7.heap.size; omega⟩, by rw [h25]; simp only [intOf]; omega⟩
      · have hsk : skipP c is i = false := by rw [hskd]; exact decide_eq_false fun h => h3 h.1
        have hkk : keepP c is i = bi := by unfold keepP; rw [hsk, hbi]; simp
        have hS8 : Blk w7.drew sb 4 (isV (isL c is (i + 1))) := by rw [isL_same (by omega) hsk]; exact hS7.drew
        cases bi with
        | true =>
          have hto : toP c is (i + 1) = toP c is i + 1 := by rw [toP, if_pos hkk]
          simp -dsimp only [push_cast, Nat.reduceAdd, Nat.reduceLeDiff, Nat.reduceBEq, decide_true, ne_eq, eq_self, not_true_eq_false, not_false_eq_true, true_imp_iff, false_imp_iff, Int.reduceNe, Int.reduceEq, Int.reduceLT, Int.reduceLE, Bool.not_true, Bool.not_false, b0]
          have hle := toP_le (c := c) (is := is) i
          exact ⟨⟨by omega, by omega⟩, ⟨by omega, by omega⟩, ⟨by omega, by omega⟩, ⟨i + 1, rfl, by rw [hto]; rfl, by omega, hS8, hT7.drew, hC7.drew, hR7.drew, hb7.drew, by show w4.heap.size ≤ w7.heap.size; omega⟩, by rw [h25]; simp only [intOf]; omega⟩
        | false =>
          have hto : toP c is (i + 1) = toP c is i := by rw [toP, if_neg (by rw [hkk]; simp)]
          simp -dsimp only [push_cast, Nat.reduceAdd, Nat.reduceLeDiff, Nat.reduceBEq, decide_true, ne_eq, eq_self, not_true_eq_false, not_false_eq_true, true_imp_iff, false_imp_iff, Int.reduceNe, Int.reduceEq, Int.reduceLT, Int.reduceLE, Bool.not_true, Bool.not_false, b0]
          exact ⟨⟨by omega, by omega⟩, ⟨by omega, by omega⟩, ⟨i + 1, rfl, by rw [hto], by omega, hS8, hT7.drew, hC7.drew, hR7.drew, hb7.drew, by show w4.heap.size ≤ w7.heap.size; omega⟩, by rw [h25]; simp only [intOf]; omega⟩
    · have hin : i = c.ins.length := by omega
      subst hin
      have c1 : wx.cell? ⟨w.heap.size, 1, none⟩ = some (.slice a c.ins.length cp) := hCx.cell rfl
      simp -dsimp only [push_cast, Nat.reduceAdd, Nat.reduceLeDiff, Nat.reduceBEq, decide_true, ne_eq, eq_self, not_true_eq_false, not_false_eq_true, true_imp_iff, false_imp_iff, Int.reduceNe, Int.reduceEq, Int.reduceLT, Int.reduceLE, Bool.not_true, Bool.not_false, c1]
      refine ⟨⟨by omega, by omega⟩, ?_⟩
      refine storeK_of hTx (by unfold natV; rw [List.length_map, toL_len]; omega) rfl ?_
      intro w5 hw5
      have sz5 := hw5.size
      have hT5 := hw5.blk
      rw [toL_step (by omega)] at hT5
      have hS5 := hSx.kept hw5.kept (by omega)
      have hC5 := hCx.kept hw5.kept (by omega)
      have hR5 := hRx.kept hw5.kept (by omega)
      have hb5 : Below w.heap.size w w5 := hbx.trans (hw5.kept.below (by omega) (fun _ h => by omega))
      simp -dsimp only [push_cast, Nat.reduceAdd, Nat.reduceLeDiff, Nat.reduceBEq, decide_true, ne_eq, eq_self, not_true_eq_false, not_false_eq_true, true_imp_iff, false_imp_iff, Int.reduceNe, Int.reduceEq, Int.reduceLT, Int.reduceLE, Bool.not_true, Bool.not_false]
      refine allocK (z := [.slice none 0 0, .slice none 0 0]) (by kernel_rfl) ?_
      intro w6 hw6
      have sz6 := hw6.size
      have hT6 := hT5.below hw6.below (by omega)
      have hS6 := hS5.below hw6.below (by omega)
      have hC6 := hC5.below hw6.below (by omega)
      have hR6 := hR5.below hw6.below (by omega)
      have hO6 : Blk w6 w5.heap.size 25 [.slice none 0 0, .slice none 0 0] := hw6.blk
      have hb6 : Below w.heap.size w w6 := hb5.trans (hw6.below.mono (by omega))
      simp -dsimp only [push_cast, Nat.reduceAdd, Nat.reduceLeDiff, Nat.reduceBEq, decide_true, ne_eq, eq_self, not_true_eq_false, not_false_eq_true, true_imp_iff, false_imp_iff, Int.reduceNe, Int.reduceEq, Int.reduceLT, Int.reduceLE, Bool.not_true, Bool.not_false]
      refine makeMapG (key := fun n : Nat => Value.int .i64 (n : Int)) ?_
      intro w7 hM7 hb67 sz7
      have hT7 := hT6.below hb67 (by omega)
      have hS7 := hS6.below hb67 (by omega)
      have hC7 := hC6.below hb67 (by omega)
      have hR7 := hR6.below hb67 (by omega)
      have hO7 := hO6.below hb67 (by omega)
      have hb7 : Below w.heap.size w w7 := hb6.trans (hb67.mono (by omega))
      have c7 : w7.cell? ⟨w.heap.size, 1, none⟩ = some (.slice a c.ins.length cp) := hC7.cell rfl
      simp -dsimp only [push_cast, Nat.reduceAdd, Nat.reduceLeDiff, Nat.reduceBEq, decide_true, ne_eq, eq_self, not_true_eq_false, not_false_eq_true, true_imp_iff, false_imp_iff, Int.reduceNe, Int.reduceEq, Int.reduceLT, Int.reduceLE, Bool.not_true, Bool.not_false, c7]
      have hus := SetsV.values hsv
      obtain ⟨us, husl, hus1, hus2⟩ := hus
      refine wpL_loop [11, 12, 13, 14, 76, 77, 78, 79, 80, 81, 82, 83, 84, 85, 86, 87, 88, 89, 90, 91, 92, 93, 94, 95, 96, 97, 98, 99, 100, 101, 102, 103, 104, 105, 106, 107, 108, 109, 110, 111, 112, 113, 114, 115, 116, 117, 118, 119, 120, 121, 122, 123, 124, 125, 126, 127, 128, 129, 130, 131, 132, 133, 134, 135, 136, 137, 138, 139, 140, 141, 142, 143, 144, 145, 146, 147] (fun z wx => ∃ (i : Nat) (ov iv : Value), z 76 = .int .i64 i ∧ i ≤ c.ins.length ∧ Blk wx w5.heap.size 25 [ov, iv] ∧ Own w4.heap.size 76 1 encSV wx ov ((lessTo c is i).used.map fun a => us.getD a ⟨none, 0, 0⟩) ∧ Own w4.heap.size 37 3 encIn wx iv (lessTo c is i).ins ∧
          MapG (fun n : Nat => Value.int .i64 (n : Int)) wx w6.heap.size ((lessTo c is i).used.zipIdx.map fun p => (p.1, .int .i64 (p.2 : Int))) ∧ Blk wx sb 4 (isV (isL c is c.ins.length)) ∧ Blk wx w3.heap.size 3 (natV (toL c is (c.ins.length + 1))) ∧
          Blk wx w.heap.size 25 [.slice sa c.sets.length sc, .slice a c.ins.length cp] ∧ Blk wx w1.heap.size 25 [.slice none 0 0, .slice none 0 0] ∧ Below w.heap.size w wx ∧ w7.heap.size ≤ wx.heap.size ∧
          (∀ g, ov.ownBlock = some g → w7.heap.size ≤ g) ∧ (∀ g, iv.ownBlock = some g → w7.heap.size ≤ g)) (fun z _ => c.ins.length - (intOf (z 76)).toNat) ?_ ?_
      · exact ⟨0, _, _, rfl, Nat.zero_le _, hO7, Own.nil (enc := encSV) _ _ (fun _ => rfl) _, Own.nil (enc := encIn) _ _ (fun _ => rfl) _, hM7, hS7, hT7, hC7, hR7, hb7, Nat.le_refl _, fun g h => by simp [Value.ownBlock] at h, fun g h => by simp [Value.ownBlock] at h⟩
      · intro z wx hI
        obtain ⟨i, ov, iv', h76, hi, hOx, hsx, hnx, hMx, hSx, hTx, hCx, hRx, hbx, szx, hno, hni⟩ := hI
        simp -dsimp only [push_cast, Nat.reduceAdd, Nat.reduceLeDiff, Nat.reduceBEq, decide_true, ne_eq, eq_self, not_true_eq_false, not_false_eq_true, true_imp_iff, false_imp_iff, Int.reduceNe, Int.reduceEq, Int.reduceLT, Int.reduceLE, Bool.not_true, Bool.not_false, h76]
        refine ⟨fun hlt => ?_, fun hge => ?_⟩
        · have hg := lt_get (l := c.ins) (i := i) (by omega)
          obtain ⟨x, hx, hxm, _⟩ := hg
          have hg := (hiv.below hbx).get hx
          obtain ⟨ib, io, rfl, _, hic⟩ := hg
          have ci : cellsAt wx ⟨ib, io + i * 3, none⟩ 0 3 = some [.int .i64 x.op, .int .i64 x.a, .int .i64 x.b] := cellsAt_of (encIn x) 0 (fun j u hu => by simpa using hic j u hu)
          simp -dsimp only [push_cast, Nat.reduceAdd, Nat.reduceLeDiff, Nat.reduceBEq, decide_true, ne_eq, eq_self, not_true_eq_false, not_false_eq_true, true_imp_iff, false_imp_iff, Int.reduceNe, Int.reduceEq, Int.reduceLT, Int.reduceLE, Bool.not_true, Bool.not_false, ci]
          refine ⟨⟨by omega, by omega⟩, ?_⟩
          refine allocK (z := [.int .i64 0, .int .i64 0, .int .i64 0]) (by kernel_rfl) ?_
          intro wa hwa
          have sza := hwa.size
          simp -dsimp only [push_cast, Nat.reduceAdd, Nat.reduceLeDiff, Nat.reduceBEq, decide_true]
          refine storeAgg (n := 3) (by kernel_rfl) hwa.blk rfl (by simp) (by simp [Value.oneCell']) ?_
          intro wb hwb
          have szb := hwb.size
          have hXb : Blk wb wx.heap.size 37 [.int .i64 x.op, .int .i64 x.a, .int .i64 x.b] := hwb.blk
          have kb : Kept (fun j => j = wx.heap.size) wx wb := (Kept.new hwa).trans hwb.kept (fun _ _ h => h)
          have hSb := hSx.kept kb (by omega)
          have hTb := hTx.kept kb (by omega)
          have hCb := hCx.kept kb (by omega)
          have hRb := hRx.kept kb (by omega)
          have hOb := hOx.kept kb (by omega)
          have hMb := hMx.kept kb (by omega)
          have hsb := hsx.keptX kb (fun g hg h => by have := hsx.block g hg; omega)
          have hnb := hnx.keptX kb (fun g hg h => by have := hnx.block g hg; omega)
          have hbb : Below w.heap.size w wb := hbx.trans (kb.below (by omega) (fun _ h => by omega))
          have hgb : ∃ bi, keepP c is i = bi := ⟨_, rfl⟩
          obtain ⟨bi, hbi⟩ := hgb
          have b0 : wb.cell? ⟨sb, i, none⟩ = some (.bool bi) := hSb.cell (by unfold isV; rw [List.getElem?_map, isL_get (by omega), if_pos (by omega), hbi]; rfl)
          have t0 : wb.cell? ⟨wx.heap.size, 0, none⟩ = some (.int .i64 x.op) := hXb.cell rfl
          cases bi with
          | false =>
            have hst : lessTo c is (i + 1) = lessTo c is i := by rw [lessTo]; unfold lessStep; rw [hx]; dsimp only; rw [if_neg (by rw [hbi]; simp)]
            simp -dsimp only [push_cast, Nat.reduceAdd, Nat.reduceLeDiff, Nat.reduceBEq, decide_true, ne_eq, eq_self, not_true_eq_false, not_false_eq_true, true_imp_iff, false_imp_iff, Int.reduceNe, Int.reduceEq, Int.reduceLT, Int.reduceLE, Bool.not_true, Bool.not_false, b0]
            rw [← hst] at hsb hnb hMb
            exact ⟨⟨by omega, by omega⟩, ⟨by omega, by omega⟩, ⟨i + 1, ov, iv', rfl, by omega, hOb, hsb, hnb, hMb, hSb, hTb, hCb, hRb, hbb, by omega, hno, hni⟩, by rw [h76]; simp only [intOf]; omega⟩
          | true =>
            have hst : lessTo c is (i + 1) = ⟨useI (lessTo c is i).used x, (lessTo c is i).ins ++ [lessI c is (lessTo c is i).used x]⟩ := by rw [lessTo]; unfold lessStep; rw [hx]; dsimp only; rw [if_pos hbi]
            simp -dsimp only [push_cast, Nat.reduceAdd, Nat.reduceLeDiff, Nat.reduceBEq, decide_true, ne_eq, eq_self, not_true_eq_false, not_false_eq_true, true_imp_iff, false_imp_iff, Int.reduceNe, Int.reduceEq, Int.reduceLT, Int.reduceLE, Bool.not_true, Bool.not_false, b0, t0]
            refine ⟨⟨by omega, by omega⟩, fun h1 => ?_, fun h1 => ⟨fun h3 => ?_, fun h3 => ⟨fun h2 => ?_, fun h2 => ?_⟩⟩⟩
            · have hop : x.op ≠ 2 ∧ x.op ≠ 3 ∧ x.op ≠ 4 ∧ x.op ≠ 5 := by omega
              have hj := insRight_take hc hx hop
              have haj : x.a = ((x.a.toNat : Nat) : Int) := by rw [Int.toNat_of_nonneg hj.2.1]
              have t1 : wb.cell? ⟨wx.heap.size, 1, none⟩ = some (.int .i64 x.a) := hXb.cell rfl
              have hkv : Value.int .i64 x.a = (fun n : Nat => Value.int .i64 (n : Int)) x.a.toNat := by dsimp only; rw [← haj]
              have has := assoc_used x.a.toNat (lessTo c is i).used 0
              simp -dsimp only [push_cast, Nat.reduceAdd, Nat.reduceLeDiff, Nat.reduceBEq, decide_true, ne_eq, eq_self, not_true_eq_false, not_false_eq_true, true_imp_iff, false_imp_iff, Int.reduceNe, Int.reduceEq, Int.reduceLT, Int.reduceLE, Bool.not_true, Bool.not_false, t1]
              by_cases hmem : x.a.toNat ∈ (lessTo c is i).used
              · rw [if_pos hmem] at has
                refine lookupG_some (kt := 3) (et := 3) (z := .int .i64 0) (by kernel_rfl) (keyNat (by kernel_rfl)) (by kernel_rfl) hMb hkv has ?_
                simp -dsimp only [push_cast, Nat.reduceAdd, Nat.reduceLeDiff, Nat.reduceBEq, decide_true, ne_eq, eq_self, not_true_eq_false, not_false_eq_true, true_imp_iff, false_imp_iff, Int.reduceNe, Int.reduceEq, Int.reduceLT, Int.reduceLE, Bool.not_true, Bool.not_false]
                refine storeK_of hXb (by simp) rfl ?_
                intro wc hwc
                have szc := hwc.size
                have hXc : Blk wc wx.heap.size 37 (encIn (lessI c is (lessTo c is i).used x)) := by
                  unfold lessI; rw [if_pos h1, if_pos hmem]; exact hwc.blk
                have euse : useI (lessTo c is i).used x = (lessTo c is i).used := by unfold useI; rw [if_pos h1, if_pos hmem]
                rw [euse] at hst
                have hk := hwc.kept
                have hSc := hSb.kept hk (by omega)
                have hTc := hTb.kept hk (by omega)
                have hCc := hCb.kept hk (by omega)
                have hRc := hRb.kept hk (by omega)
                have hOc := hOb.kept hk (by omega)
                have hMc := hMb.kept hk (by omega)
                have hsc := hsb.keptX hk (fun g hg h => by have := hsx.block g hg; omega)
                have hnc := hnb.keptX hk (fun g hg h => by have := hnx.block g hg; omega)
                have hbc : Below w.heap.size w wc := hbb.trans (hk.below (by omega) (fun _ h => by omega))
                have hnoc := hno
                have hov : ∃ ovc, ovc = ov := ⟨_, rfl⟩
                obtain ⟨ovc, rfl⟩ := hov
                have hgy : ∃ y, lessI c is (lessTo c is i).used x = y := ⟨_, rfl⟩
                obtain ⟨y, hy⟩ := hgy
                rw [hy] at hXc
                have hlen := (lessTo_inv hc (is := is) i hi).len
                have hlle := toP_le (c := c) (is := is) i
                have c33 : wc.cell? ⟨w5.heap.size, 1, none⟩ = some iv' := hOc.cell rfl
                have x33 : cellsAt wc ⟨wx.heap.size, 0, none⟩ 0 3 = some [.int .i64 y.op, .int .i64 y.a, .int .i64 y.b] := hXc.cellsAt
                have hns := hnc.slice
                obtain ⟨ina, inc, rfl⟩ := hns
                simp -dsimp only [push_cast, Nat.reduceAdd, Nat.reduceLeDiff, Nat.reduceBEq, decide_true, ne_eq, eq_self, not_true_eq_false, not_false_eq_true, true_imp_iff, false_imp_iff, Int.reduceNe, Int.reduceEq, Int.reduceLT, Int.reduceLE, Bool.not_true, Bool.not_false, c33, x33]
                refine rowK elI_23 rfl rfl (by omega) ?_
                intro wd hwd
                have szd := hwd.size
                simp -dsimp only [push_cast, Nat.reduceAdd, Nat.reduceLeDiff, Nat.reduceBEq, decide_true, ne_eq, eq_self, not_true_eq_false, not_false_eq_true, true_imp_iff, false_imp_iff, Int.reduceNe, Int.reduceEq, Int.reduceLT, Int.reduceLE, Bool.not_true, Bool.not_false]
                refine appendK2 (base := w4.heap.size) [y] (enc := encIn) elI_23 (hnc.new hwd) (by rfl) (fun j u hu => by simpa [encIn] using hwd.cell hu) encIn_one (by simp only [List.length_cons, List.length_nil]; omega) (by omega) ?_
                intro ve we hoe hge hne'
                have hvn : ∀ g, (Value.slice ina (lessTo c is i).ins.length inc).ownBlock = some g → g ≠ sb ∧ g ≠ w3.heap.size ∧ g ≠ w.heap.size ∧ g ≠ w1.heap.size ∧ g ≠ w5.heap.size ∧ g ≠ w6.heap.size := fun g hg => by have := hni g hg; omega
                have hke : Kept (fun j => (Value.slice ina (lessTo c is i).ins.length inc).ownBlock = some j) wd we := Kept.grown hge (fun _ h => h)
                have kce : Kept (fun j => (Value.slice ina (lessTo c is i).ins.length inc).ownBlock = some j) wc we := (Kept.new hwd).trans hke (fun _ _ h => h)
                have hSe := hSc.kept kce (fun h => (hvn _ h).1 rfl)
                have hTe := hTc.kept kce (fun h => (hvn _ h).2.1 rfl)
                have hCe := hCc.kept kce (fun h => (hvn _ h).2.2.1 rfl)
                have hRe := hRc.kept kce (fun h => (hvn _ h).2.2.2.1 rfl)
                have hOe := hOc.kept kce (fun h => (hvn _ h).2.2.2.2.1 rfl)
                have hMe := hMc.kept kce (fun h => (hvn _ h).2.2.2.2.2 rfl)
                have hse := hsc.keptX kce (fun g hg h => ownNe hsc hnc (by decide) g hg h)
                have hbe : Below w.heap.size w we := hbc.trans (kce.below (by omega) (fun g h => by have := hni g h; omega))
                have sze := kce.size
                have hvs := hoe.slice
                obtain ⟨ea, ec, rfl⟩ := hvs
                simp -dsimp only [push_cast, Nat.reduceAdd, Nat.reduceLeDiff, Nat.reduceBEq, decide_true, ne_eq, eq_self, not_true_eq_false, not_false_eq_true, true_imp_iff, false_imp_iff, Int.reduceNe, Int.reduceEq, Int.reduceLT, Int.reduceLE, Bool.not_true, Bool.not_false]
                refine storeK_of hOe (by simp) rfl ?_
                intro wf hwf
                have szf := hwf.size
                simp -dsimp only [push_cast, Nat.reduceAdd, Nat.reduceLeDiff, Nat.reduceBEq, decide_true, ne_eq, eq_self, not_true_eq_false, not_false_eq_true, true_imp_iff, false_imp_iff, Int.reduceNe, Int.reduceEq, Int.reduceLT, Int.reduceLE, Bool.not_true, Bool.not_false]
                have hni' : ∀ g, (Value.slice ea ((lessTo c is i).ins ++ [y]).length ec).ownBlock = some g → w7.heap.size ≤ g := fun g hg => by
                  rcases hne' g hg with h | h
                  · exact hni g h
                  · omega
                refine ⟨⟨by omega, by omega⟩, ⟨i + 1, ovc, _, rfl, by omega, hwf.blk, ?_, ?_, ?_, hSe.kept hwf.kept (by omega), hTe.kept hwf.kept (by omega), hCe.kept hwf.kept (by omega), hRe.kept hwf.kept (by omega), hbe.trans (hwf.kept.below (by omega) (fun _ h => by omega)), by omega, hnoc, hni'⟩, by rw [h76]; simp only [intOf]; omega⟩
                · rw [hst]; exact hse.keptX hwf.kept (fun g hg h => by have := hnoc g hg; omega)
                · rw [hst, hy]; exact hoe.keptX hwf.kept (fun g hg h => by have := hni' g hg; omega)
                · rw [hst]; exact hMe.kept hwf.kept (by omega)
              · rw [if_neg hmem] at has
                refine lookupG_none (kt := 3) (et := 3) (z := .int .i64 0) (by kernel_rfl) (keyNat (by kernel_rfl)) (by kernel_rfl) hMb hkv has ?_
                have hub : (lessTo c is i).used.length ≤ c.sets.length := nodup_bound _ _ (lessTo_inv hc (is := is) i hi).nodup (lessTo_inv hc (is := is) i hi).used
                have hos := hsb.slice
                obtain ⟨oa, oc, rfl⟩ := hos
                rw [List.length_map] at hOb hno hsb
                have c30 : wb.cell? ⟨w5.heap.size, 0, none⟩ = some (.slice oa (lessTo c is i).used.length oc) := hOb.cell rfl
                have hux := List.getElem?_eq_getElem (l := us) (i := x.a.toNat) (by omega)
                have hug := hus1.get hux
                obtain ⟨ub, uo, rfl, _, huc⟩ := hug
                have huv : ∃ u, us[x.a.toNat]'(by omega) = u := ⟨_, rfl⟩
                obtain ⟨u, hu⟩ := huv
                rw [hu] at hux huc
                have csv : w.cell? ⟨ub, uo + x.a.toNat, none⟩ = some u.v := by
                  have := huc 0 _ rfl
                  rwa [Nat.mul_one, Nat.add_zero] at this
                have hubw : ub < w.heap.size := World.block_lt_of_cell? w _ csv
                have csb : wb.cell? ⟨ub, uo + x.a.toNat, none⟩ = some u.v := (Kept.of_below hbb (X := fun _ => False) (fun k hk hl => by omega)).cell csv id
                simp -dsimp only [push_cast, Nat.reduceAdd, Nat.reduceLeDiff, Nat.reduceBEq, decide_true, ne_eq, eq_self, not_true_eq_false, not_false_eq_true, true_imp_iff, false_imp_iff, Int.reduceNe, Int.reduceEq, Int.reduceLT, Int.reduceLE, Bool.not_true, Bool.not_false, c30, t1]
                refine updateG_new (kt := 3) (et := 3) (by kernel_rfl) (keyNat (by kernel_rfl)) hMb hkv has ?_
                intro wm hMm hkm szm
                rw [← used_more] at hMm
                have hOm := hOb.kept hkm (by omega)
                have hCm := hCb.kept hkm (by omega)
                have hXm := hXb.kept hkm (by omega)
                have hsm' := hsb.keptX hkm (fun g hg h => by have := hno g hg; omega)
                have csm : wm.cell? ⟨ub, uo + x.a.toNat, none⟩ = some u.v := hkm.cell csb (by show ¬ ub = _; omega)
                simp -dsimp only [push_cast, Nat.reduceAdd, Nat.reduceLeDiff, Nat.reduceBEq, decide_true, ne_eq, eq_self, not_true_eq_false, not_false_eq_true, true_imp_iff, false_imp_iff, Int.reduceNe, Int.reduceEq, Int.reduceLT, Int.reduceLE, Bool.not_true, Bool.not_false]
                refine wpL_told [0, 1, 2, 3, 4, 5, 6, 7, 8] 9 [10, 11] (fun w' => Blk w' w5.heap.size 25 [.slice oa (lessTo c is i).used.length oc, iv'] ∧ Blk w' w.heap.size 25 [.slice (some ⟨ub, uo, none⟩) c.sets.length sc, .slice (some ⟨ib, io, none⟩) c.ins.length cp] ∧ Blk w' wx.heap.size 37 [.int .i64 x.op, .int .i64 x.a, .int .i64 x.b] ∧ w'.cell? ⟨ub, uo + x.a.toNat, none⟩ = some u.v) mixed (by kernel_rfl) ⟨hOm.drew, hCm.drew, hXm.drew, csm⟩ ?_
                have d1 : wm.drew.cell? ⟨w5.heap.size, 0, none⟩ = some (.slice oa (lessTo c is i).used.length oc) := hOm.drew.cell rfl
                have d2 : wm.drew.cell? ⟨w.heap.size, 0, none⟩ = some (.slice (some ⟨ub, uo, none⟩) c.sets.length sc) := hCm.drew.cell rfl
                have d3 : wm.drew.cell? ⟨wx.heap.size, 1, none⟩ = some (.int .i64 x.a) := hXm.drew.cell rfl
                have d4 : wm.drew.cell? ⟨ub, uo + x.a.toNat, none⟩ = some u.v := csm
                simp -dsimp only [push_cast, Nat.reduceAdd, Nat.reduceLeDiff, Nat.reduceBEq, decide_true, ne_eq, eq_self, not_true_eq_false, not_false_eq_true, true_imp_iff, false_imp_iff, Int.reduceNe, Int.reduceEq, Int.reduceLT, Int.reduceLE, Bool.not_true, Bool.not_false, d1, d2, d3, d4]
                refine ⟨fun w'' hC => optBlk hC.1 rfl, fun w'' hC => optBlk hC.2.1 rfl, fun w'' hC => optBlk hC.2.2.1 rfl, ⟨by omega, by omega⟩, fun w'' hC => by rw [hC.2.2.2]; exact rfl, ?_⟩
                refine rowK elI_22 rfl rfl (by omega) ?_
                intro wn hwn
                have szn : wn.heap.size = wm.heap.size + 1 := hwn.size
                have kn : Kept (fun _ => False) wm wn := ((Kept.refl (fun _ => False) wm).drew).trans (Kept.new (X := fun _ => False) hwn) (fun _ _ h => h)
                have hOn := hOm.kept kn id
                have hXn := hXm.kept kn id
                refine ⟨⟨hOn, hCm.kept kn id, hXn, kn.cell csm id⟩, ?_⟩
                simp -dsimp only [push_cast, Nat.reduceAdd, Nat.reduceLeDiff, Nat.reduceBEq, decide_true, ne_eq, eq_self, not_true_eq_false, not_false_eq_true, true_imp_iff, false_imp_iff, Int.reduceNe, Int.reduceEq, Int.reduceLT, Int.reduceLE, Bool.not_true, Bool.not_false]
                have hsn := hsm'.keptX kn (fun g hg h => h.elim)
                refine appendK2 (base := w4.heap.size) [u] (enc := encSV) elI_22 hsn (by rfl) (fun j v' hv' => by simpa [encSV] using hwn.cell hv') encSV_one (by simp only [List.length_cons, List.length_nil, List.length_map]; omega) (by omega) ?_
                intro ov' wo hoo hgo hno'
                have hos' := hoo.slice
                obtain ⟨oa', oc', rfl⟩ := hos'
                have hgx : ∃ X, X = (fun j => (Value.slice oa (lessTo c is i).used.length oc).ownBlock = some j) := ⟨_, rfl⟩
                obtain ⟨Xo, hXo⟩ := hgx
                have ko : Kept Xo wn wo := Kept.grown hgo (fun k h => by rw [hXo]; exact h)
                have hX7 : ∀ g, Xo g → w7.heap.size ≤ g ∧ g < wx.heap.size := fun g hg => by
                  rw [hXo] at hg
                  exact ⟨hno g hg, (hsx.block g (by rw [List.length_map]; exact hg)).2⟩
                have szo := ko.size
                have hOo := hOn.kept ko (fun h => by have := hX7 _ h; omega)
                have hXo' := hXn.kept ko (fun h => by have := hX7 _ h; omega)
                refine ⟨trivial, ?_⟩
                simp -dsimp only [push_cast, Nat.reduceAdd, Nat.reduceLeDiff, Nat.reduceBEq, decide_true, ne_eq, eq_self, not_true_eq_false, not_false_eq_true, true_imp_iff, false_imp_iff, Int.reduceNe, Int.reduceEq, Int.reduceLT, Int.reduceLE, Bool.not_true, Bool.not_false]
                refine storeK_of hOo (by simp) rfl ?_
                intro wp hwp
                have szp : wp.heap.size = wo.heap.size := hwp.size
                have hXp := hXo'.kept hwp.kept (by omega)
                refine ⟨trivial, ?_⟩
                simp -dsimp only [push_cast, Nat.reduceAdd, Nat.reduceLeDiff, Nat.reduceBEq, decide_true, ne_eq, eq_self, not_true_eq_false, not_false_eq_true, true_imp_iff, false_imp_iff, Int.reduceNe, Int.reduceEq, Int.reduceLT, Int.reduceLE, Bool.not_true, Bool.not_false]
                refine storeK_of hXp (by simp) rfl ?_
                intro wc hwc
                have szc : wc.heap.size = wp.heap.size := hwc.size
                have kall : Kept (fun j => j = w6.heap.size ∨ j = w5.heap.size ∨ j = wx.heap.size ∨ Xo j) wb wc := by
                  refine ((((hkm.trans kn (fun _ _ h => h.elim)).weaken (Y := fun j => j = w6.heap.size ∨ j = w5.heap.size ∨ j = wx.heap.size ∨ Xo j) (fun _ _ h => .inl h)).trans ko (fun _ _ h => .inr (.inr (.inr h)))).trans hwp.kept (fun _ _ h => .inr (.inl h))).trans hwc.kept (fun _ _ h => .inr (.inr (.inl h)))
                have hnx7 : ∀ k, k < w7.heap.size → k ≠ w6.heap.size → k ≠ w5.heap.size → ¬ (k = w6.heap.size ∨ k = w5.heap.size ∨ k = wx.heap.size ∨ Xo k) := fun k h1 h2 h3 h => by
                  rcases h with h | h | h | h
                  · exact h2 h
                  · exact h3 h
                  · omega
                  · have := hX7 k h; omega
                have hXc : Blk wc wx.heap.size 37 (encIn (lessI c is (lessTo c is i).used x)) := by
                  unfold lessI; rw [if_pos h1, if_neg hmem]; exact hwc.blk
                have euse : useI (lessTo c is i).used x = (lessTo c is i).used ++ [x.a.toNat] := by unfold useI; rw [if_pos h1, if_neg hmem]
                rw [euse] at hst
                have hSc := hSb.kept kall (hnx7 _ (by omega) (by omega) (by omega))
                have hTc := hTb.kept kall (hnx7 _ (by omega) (by omega) (by omega))
                have hCc := hCb.kept kall (hnx7 _ (by omega) (by omega) (by omega))
                have hRc := hRb.kept kall (hnx7 _ (by omega) (by omega) (by omega))
                have hOc := hwp.blk.kept hwc.kept (by omega)
                have hMc := (((hMm.kept kn id).kept ko (fun h => by have := hX7 _ h; omega)).kept hwp.kept (by omega)).kept hwc.kept (by omega)
                have hno7 : ∀ g, (Value.slice oa' (((lessTo c is i).used.map fun a => us.getD a ⟨none, 0, 0⟩) ++ [u]).length oc').ownBlock = some g → w7.heap.size ≤ g ∧ g ≠ wx.heap.size := fun g hg => by
                  rcases hno' g hg with h | h
                  · have := hX7 g (by rw [hXo]; simpa using h); omega
                  · omega
                have hsc := (hoo.keptX hwp.kept (fun g hg h => by have := hno7 g hg; omega)).keptX hwc.kept (fun g hg h => by have := hno7 g hg; omega)
                have hnc := hnb.keptX kall (fun g hg h => by
                  have h1 := hni g hg
                  have h2 := (hnx.block g hg).2
                  rcases h with h | h | h | h
                  · omega
                  · omega
                  · omega
                  · rw [hXo] at h
                    exact ownNe hnx hsx (by decide) g hg (by rw [List.length_map]; exact h))
                have hbc : Below w.heap.size w wc := hbb.trans (kall.below (by omega) (fun k h => by
                  rcases h with h | h | h | h
                  · omega
                  · omega
                  · omega
                  · have := hX7 k h; omega))
                have ems : ((lessTo c is i).used.map fun a => us.getD a ⟨none, 0, 0⟩) ++ [u] = ((lessTo c is i).used ++ [x.a.toNat]).map fun a => us.getD a ⟨none, 0, 0⟩ := by
                  rw [List.map_append]
                  simp only [List.map_cons, List.map_nil, List.getD_eq_getElem?_getD, hux, Option.getD_some]
                rw [ems] at hsc hOc hno7
                have hnoc := fun g hg => (hno7 g hg).1
                have hov : ∃ ovc, ovc = Value.slice oa' (((lessTo c is i).used ++ [x.a.toNat]).map fun a => us.getD a ⟨none, 0, 0⟩).length oc' := ⟨_, rfl⟩
                obtain ⟨ovc, hovc⟩ := hov
                rw [← hovc] at hsc hOc hnoc
                have hgy : ∃ y, lessI c is (lessTo c is i).used x = y := ⟨_, rfl⟩
                obtain ⟨y, hy⟩ := hgy
                rw [hy] at hXc
                have hlen := (lessTo_inv hc (is := is) i hi).len
                have hlle := toP_le (c := c) (is := is) i
                have c33 : wc.cell? ⟨w5.heap.size, 1, none⟩ = some iv' := hOc.cell rfl
                have x33 : cellsAt wc ⟨wx.heap.size, 0, none⟩ 0 3 = some [.int .i64 y.op, .int .i64 y.a, .int .i64 y.b] := hXc.cellsAt
                have hns := hnc.slice
                obtain ⟨ina, inc, rfl⟩ := hns
                simp -dsimp only [push_cast, Nat.reduceAdd, Nat.reduceLeDiff, Nat.reduceBEq, decide_true, ne_eq, eq_self, not_true_eq_false, not_false_eq_true, true_imp_iff, false_imp_iff, Int.reduceNe, Int.reduceEq, Int.reduceLT, Int.reduceLE, Bool.not_true, Bool.not_false, c33, x33]
                refine rowK elI_23 rfl rfl (by omega) ?_
                intro wd hwd
                have szd := hwd.size
                simp -dsimp only [push_cast, Nat.reduceAdd, Nat.reduceLeDiff, Nat.reduceBEq, decide_true, ne_eq, eq_self, not_true_eq_false, not_false_eq_true, true_imp_iff, false_imp_iff, Int.reduceNe, Int.reduceEq, Int.reduceLT, Int.reduceLE, Bool.not_true, Bool.not_false]
                refine appendK2 (base := w4.heap.size) [y] (enc := encIn) elI_23 (hnc.new hwd) (by rfl) (fun j u hu => by simpa [encIn] using hwd.cell hu) encIn_one (by simp only [List.length_cons, List.length_nil]; omega) (by omega) ?_
                intro ve we hoe hge hne'
                have hvn : ∀ g, (Value.slice ina (lessTo c is i).ins.length inc).ownBlock = some g → g ≠ sb ∧ g ≠ w3.heap.size ∧ g ≠ w.heap.size ∧ g ≠ w1.heap.size ∧ g ≠ w5.heap.size ∧ g ≠ w6.heap.size := fun g hg => by have := hni g hg; omega
                have hke : Kept (fun j => (Value.slice ina (lessTo c is i).ins.length inc).ownBlock = some j) wd we := Kept.grown hge (fun _ h => h)
                have kce : Kept (fun j => (Value.slice ina (lessTo c is i).ins.length inc).ownBlock = some j) wc we := (Kept.new hwd).trans hke (fun _ _ h => h)
                have hSe := hSc.kept kce (fun h => (hvn _ h).1 rfl)
                have hTe := hTc.kept kce (fun h => (hvn _ h).2.1 rfl)
                have hCe := hCc.kept kce (fun h => (hvn _ h).2.2.1 rfl)
                have hRe := hRc.kept kce (fun h => (hvn _ h).2.2.2.1 rfl)
                have hOe := hOc.kept kce (fun h => (hvn _ h).2.2.2.2.1 rfl)
                have hMe := hMc.kept kce (fun h => (hvn _ h).2.2.2.2.2 rfl)
                have hse := hsc.keptX kce (fun g hg h => ownNe hsc hnc (by decide) g hg h)
                have hbe : Below w.heap.size w we := hbc.trans (kce.below (by omega) (fun g h => by have := hni g h; omega))
                have sze := kce.size
                have hvs := hoe.slice
                obtain ⟨ea, ec, rfl⟩ := hvs
                simp -dsimp only [push_cast, Nat.reduceAdd, Nat.reduceLeDiff, Nat.reduceBEq, decide_true, ne_eq, eq_self, not_true_eq_false, not_false_eq_true, true_imp_iff, false_imp_iff, Int.reduceNe, Int.reduceEq, Int.reduceLT, Int.reduceLE, Bool.not_true, Bool.not_false]
                refine storeK_of hOe (by simp) rfl ?_
                intro wf hwf
                have szf := hwf.size
                simp -dsimp only [push_cast, Nat.reduceAdd, Nat.reduceLeDiff, Nat.reduceBEq, decide_true, ne_eq, eq_self, not_true_eq_false, not_false_eq_true, true_imp_iff, false_imp_iff, Int.reduceNe, Int.reduceEq, Int.reduceLT, Int.reduceLE, Bool.not_true, Bool.not_false]
                have hni' : ∀ g, (Value.slice ea ((lessTo c is i).ins ++ [y]).length ec).ownBlock = some g → w7.heap.size ≤ g := fun g hg => by
                  rcases hne' g hg with h | h
                  · exact hni g h
                  · omega
                refine ⟨⟨by omega, by omega⟩, ⟨i + 1, ovc, _, rfl, by omega, hwf.blk, ?_, ?_, ?_, hSe.kept hwf.kept (by omega), hTe.kept hwf.kept (by omega), hCe.kept hwf.kept (by omega), hRe.kept hwf.kept (by omega), hbe.trans (hwf.kept.below (by omega) (fun _ h => by omega)), by omega, hnoc, hni'⟩, by rw [h76]; simp only [intOf]; omega⟩
                · rw [hst]; exact hse.keptX hwf.kept (fun g hg h => by have := hnoc g hg; omega)
                · rw [hst, hy]; exact hoe.keptX hwf.kept (fun g hg h => by have := hni' g hg; omega)
                · rw [hst]; exact hMe.kept hwf.kept (by omega)
            · have hj := insRight_jump hc hx h3
              have haj : x.a = ((x.a.toNat : Nat) : Int) := by rw [Int.toNat_of_nonneg hj.1]
              have t1 : wb.cell? ⟨wx.heap.size, 1, none⟩ = some (.int .i64 x.a) := hXb.cell rfl
              have tt : wb.cell? ⟨w3.heap.size, x.a.toNat, none⟩ = some (.int .i64 (toP c is x.a.toNat : Int)) := hTb.cell (by unfold natV; rw [List.getElem?_map, toL_get (by omega), if_pos (by omega)]; rfl)
              simp -dsimp only [push_cast, Nat.reduceAdd, Nat.reduceLeDiff, Nat.reduceBEq, decide_true, ne_eq, eq_self, not_true_eq_false, not_false_eq_true, true_imp_iff, false_imp_iff, Int.reduceNe, Int.reduceEq, Int.reduceLT, Int.reduceLE, Bool.not_true, Bool.not_false, t1, tt]
              refine ⟨⟨by omega, by omega⟩, ?_⟩
              refine storeK_of hXb (by simp) rfl ?_
              intro wc hwc
              have szc := hwc.size
              have hXc : Blk wc wx.heap.size 37 (encIn (lessI c is (lessTo c is i).used x)) := by
                unfold lessI; rw [if_neg h1, if_pos h3]; exact hwc.blk
              have euse : useI (lessTo c is i).used x = (lessTo c is i).used := by unfold useI; rw [if_neg h1]
              rw [euse] at hst
              have hk := hwc.kept
              have hSc := hSb.kept hk (by omega)
              have hTc := hTb.kept hk (by omega)
              have hCc := hCb.kept hk (by omega)
              have hRc := hRb.kept hk (by omega)
              have hOc := hOb.kept hk (by omega)
              have hMc := hMb.kept hk (by omega)
              have hsc := hsb.keptX hk (fun g hg h => by have := hsx.block g hg; omega)
              have hnc := hnb.keptX hk (fun g hg h => by have := hnx.block g hg; omega)
              have hbc : Below w.heap.size w wc := hbb.trans (hk.below (by omega) (fun _ h => by omega))
              have hnoc := hno
              have hov : ∃ ovc, ovc = ov := ⟨_, rfl⟩
              obtain ⟨ovc, rfl⟩ := hov
              have hgy : ∃ y, lessI c is (lessTo c is i).used x = y := ⟨_, rfl⟩
              obtain ⟨y, hy⟩ := hgy
              rw [hy] at hXc
              have hlen := (lessTo_inv hc (is := is) i hi).len
              have hlle := toP_le (c := c) (is := is) i
              have c33 : wc.cell? ⟨w5.heap.size, 1, none⟩ = some iv' := hOc.cell rfl
              have x33 : cellsAt wc ⟨wx.heap.size, 0, none⟩ 0 3 = some [.int .i64 y.op, .int .i64 y.a, .int .i64 y.b] := hXc.cellsAt
              have hns := hnc.slice
              obtain ⟨ina, inc, rfl⟩ := hns
              simp -dsimp only [push_cast, Nat.reduceAdd, Nat.reduceLeDiff, Nat.reduceBEq, decide_true, ne_eq, eq_self, not_true_eq_false, not_false_eq_true, true_imp_iff, false_imp_iff, Int.reduceNe, Int.reduceEq, Int.reduceLT, Int.reduceLE, Bool.not_true, Bool.not_false, c33, x33]
              refine rowK elI_23 rfl rfl (by omega) ?_
              intro wd hwd
              have szd := hwd.size
              simp -dsimp only [push_cast, Nat.reduceAdd, Nat.reduceLeDiff, Nat.reduceBEq, decide_true, ne_eq, eq_self, not_true_eq_false, not_false_eq_true, true_imp_iff, false_imp_iff, Int.reduceNe, Int.reduceEq, Int.reduceLT, Int.reduceLE, Bool.not_true, Bool.not_false]
              refine appendK2 (base := w4.heap.size) [y] (enc := encIn) elI_23 (hnc.new hwd) (by rfl) (fun j u hu => by simpa [encIn] using hwd.cell hu) encIn_one (by simp only [List.length_cons, List.length_nil]; omega) (by omega) ?_
              intro ve we hoe hge hne'
              have hvn : ∀ g, (Value.slice ina (lessTo c is i).ins.length inc).ownBlock = some g → g ≠ sb ∧ g ≠ w3.heap.size ∧ g ≠ w.heap.size ∧ g ≠ w1.heap.size ∧ g ≠ w5.heap.size ∧ g ≠ w6.heap.size := fun g hg => by have := hni g hg; omega
              have hke : Kept (fun j => (Value.slice ina (lessTo c is i).ins.length inc).ownBlock = some j) wd we := Kept.grown hge (fun _ h => h)
              have kce : Kept (fun j => (Value.slice ina (lessTo c is i).ins.length inc).ownBlock = some j) wc we := (Kept.new hwd).trans hke (fun _ _ h => h)
              have hSe := hSc.kept kce (fun h => (hvn _ h).1 rfl)
              have hTe := hTc.kept kce (fun h => (hvn _ h).2.1 rfl)
              have hCe := hCc.kept kce (fun h => (hvn _ h).2.2.1 rfl)
              have hRe := hRc.kept kce (fun h => (hvn _ h).2.2.2.1 rfl)
              have hOe := hOc.kept kce (fun h => (hvn _ h).2.2.2.2.1 rfl)
              have hMe := hMc.kept kce (fun h => (hvn _ h).2.2.2.2.2 rfl)
              have hse := hsc.keptX kce (fun g hg h => ownNe hsc hnc (by decide) g hg h)
              have hbe : Below w.heap.size w we := hbc.trans (kce.below (by omega) (fun g h => by have := hni g h; omega))
              have sze := kce.size
              have hvs := hoe.slice
              obtain ⟨ea, ec, rfl⟩ := hvs
              simp -dsimp only [push_cast, Nat.reduceAdd, Nat.reduceLeDiff, Nat.reduceBEq, decide_true, ne_eq, eq_self, not_true_eq_false, not_false_eq_true, true_imp_iff, false_imp_iff, Int.reduceNe, Int.reduceEq, Int.reduceLT, Int.reduceLE, Bool.not_true, Bool.not_false]
              refine storeK_of hOe (by simp) rfl ?_
              intro wf hwf
              have szf := hwf.size
              simp -dsimp only [push_cast, Nat.reduceAdd, Nat.reduceLeDiff, Nat.reduceBEq, decide_true, ne_eq, eq_self, not_true_eq_false, not_false_eq_true, true_imp_iff, false_imp_iff, Int.reduceNe, Int.reduceEq, Int.reduceLT, Int.reduceLE, Bool.not_true, Bool.not_false]
              have hni' : ∀ g, (Value.slice ea ((lessTo c is i).ins ++ [y]).length ec).ownBlock = some g → w7.heap.size ≤ g := fun g hg => by
                rcases hne' g hg with h | h
                · exact hni g h
                · omega
              refine ⟨⟨by omega, by omega⟩, ⟨i + 1, ovc, _, rfl, by omega, hwf.blk, ?_, ?_, ?_, hSe.kept hwf.kept (by omega), hTe.kept hwf.kept (by omega), hCe.kept hwf.kept (by omega), hRe.kept hwf.kept (by omega), hbe.trans (hwf.kept.below (by omega) (fun _ h => by omega)), by omega, hnoc, hni'⟩, by rw [h76]; simp only [intOf]; omega⟩
              · rw [hst]; exact hse.keptX hwf.kept (fun g hg h => by have := hnoc g hg; omega)
              · rw [hst, hy]; exact hoe.keptX hwf.kept (fun g hg h => by have := hni' g hg; omega)
              · rw [hst]; exact hMe.kept hwf.kept (by omega)
            · have hj := insRight_split hc hx h2
              have haj : x.a = ((x.a.toNat : Nat) : Int) := by rw [Int.toNat_of_nonneg hj.1]
              have hbj : x.b = ((x.b.toNat : Nat) : Int) := by rw [Int.toNat_of_nonneg hj.2.2.1]
              have hTd : Blk wb.drew w3.heap.size 3 (natV (toL c is (c.ins.length + 1))) := hTb.drew
              refine wpL_wide [(0, false), (1, false), (2, false), (3, false), (4, false), (5, true), (6, false), (7, false), (8, true), (9, true), (10, false)] 11 [12, 13] (fun w' => w' = wb.drew) (fun w' => Blk w' w3.heap.size 3 (natV (toL c is (c.ins.length + 1)))) mixed (by kernel_rfl) (fun w' h => by rw [h]; exact hTd) rfl ?_
              have t1 : wb.drew.cell? ⟨wx.heap.size, 1, none⟩ = some (.int .i64 x.a) := hXb.drew.cell rfl
              have t2 : wb.drew.cell? ⟨wx.heap.size, 2, none⟩ = some (.int .i64 x.b) := hXb.drew.cell rfl
              have gt : ∀ (n : Nat), n < c.ins.length → (natV (toL c is (c.ins.length + 1)))[n]? = some (.int .i64 (toP c is n : Int)) := fun n hn => by unfold natV; rw [List.getElem?_map, toL_get (by omega), if_pos (by omega)]; rfl
              have ta : wb.drew.cell? ⟨w3.heap.size, x.a.toNat, none⟩ = some (.int .i64 (toP c is x.a.toNat : Int)) := hTd.cell (gt _ (by omega))
              have tb : wb.drew.cell? ⟨w3.heap.size, x.b.toNat, none⟩ = some (.int .i64 (toP c is x.b.toNat : Int)) := hTd.cell (gt _ (by omega))
              simp -dsimp only [push_cast, Nat.reduceAdd, Nat.reduceLeDiff, Nat.reduceBEq, decide_true, ne_eq, eq_self, not_true_eq_false, not_false_eq_true, true_imp_iff, false_imp_iff, Int.reduceNe, Int.reduceEq, Int.reduceLT, Int.reduceLE, Bool.not_true, Bool.not_false, t1, t2, ta, tb]
              refine ⟨fun w'' hC => by rw [hC]; exact optBlk hXb.drew rfl, ⟨by omega, by omega⟩, fun w'' hC => by rw [hC]; exact optBlk hTd (gt _ (by omega)), fun w'' hC => by rw [hC]; exact optBlk hXb.drew rfl, ⟨by omega, by omega⟩, fun w'' hC => optBlk hC (gt _ (by omega)), ?_⟩
              refine storeK_of hXb.drew (by simp) rfl ?_
              intro wc1 hwc1
              have szc1 : wc1.heap.size = wb.heap.size := hwc1.size
              have hTc1 := hTd.kept hwc1.kept (by omega)
              refine ⟨hTc1, ?_⟩
              simp -dsimp only [push_cast, Nat.reduceAdd, Nat.reduceLeDiff, Nat.reduceBEq, decide_true, ne_eq, eq_self, not_true_eq_false, not_false_eq_true, true_imp_iff, false_imp_iff, Int.reduceNe, Int.reduceEq, Int.reduceLT, Int.reduceLE, Bool.not_true, Bool.not_false]
              refine storeK_of hwc1.blk (by simp) rfl ?_
              intro wc hwc
              have szc : wc.heap.size = wb.heap.size := hwc.size.trans szc1
              refine ⟨hTc1.kept hwc.kept (by omega), ?_⟩
              have hXc : Blk wc wx.heap.size 37 (encIn (lessI c is (lessTo c is i).used x)) := by
                unfold lessI; rw [if_neg h1, if_neg h3, if_pos h2]; exact hwc.blk
              have euse : useI (lessTo c is i).used x = (lessTo c is i).used := by unfold useI; rw [if_neg h1]
              rw [euse] at hst
              have hk : Kept (fun j => j = wx.heap.size) wb wc := (((Kept.refl (fun j => j = wx.heap.size) wb).drew).trans hwc1.kept (fun _ _ h => h)).trans hwc.kept (fun _ _ h => h)
              have hSc := hSb.kept hk (by omega)
              have hTc := hTb.kept hk (by omega)
              have hCc := hCb.kept hk (by omega)
              have hRc := hRb.kept hk (by omega)
              have hOc := hOb.kept hk (by omega)
              have hMc := hMb.kept hk (by omega)
              have hsc := hsb.keptX hk (fun g hg h => by have := hsx.block g hg; omega)
              have hnc := hnb.keptX hk (fun g hg h => by have := hnx.block g hg; omega)
              have hbc : Below w.heap.size w wc := hbb.trans (hk.below (by omega) (fun _ h => by omega))
              have hnoc := hno
              have hov : ∃ ovc, ovc = ov := ⟨_, rfl⟩
              obtain ⟨ovc, rfl⟩ := hov
              have hgy : ∃ y, lessI c is (lessTo c is i).used x = y := ⟨_, rfl⟩
              obtain ⟨y, hy⟩ := hgy
              rw [hy] at hXc
              have hlen := (lessTo_inv hc (is := is) i hi).len
              have hlle := toP_le (c := c) (is := is) i
              have c33 : wc.cell? ⟨w5.heap.size, 1, none⟩ = some iv' := hOc.cell rfl
              have x33 : cellsAt wc ⟨wx.heap.size, 0, none⟩ 0 3 = some [.int .i64 y.op, .int .i64 y.a, .int .i64 y.b] := hXc.cellsAt
              have hns := hnc.slice
              obtain ⟨ina, inc, rfl⟩ := hns
              simp -dsimp only [push_cast, Nat.reduceAdd, Nat.reduceLeDiff, Nat.reduceBEq, decide_true, ne_eq, eq_self, not_true_eq_false, not_false_eq_true, true_imp_iff, false_imp_iff, Int.reduceNe, Int.reduceEq, Int.reduceLT, Int.reduceLE, Bool.not_true, Bool.not_false, c33, x33]
              refine rowK elI_23 rfl rfl (by omega) ?_
              intro wd hwd
              have szd := hwd.size
              simp -dsimp only [push_cast, Nat.reduceAdd, Nat.reduceLeDiff, Nat.reduceBEq, decide_true, ne_eq, eq_self, not_true_eq_false, not_false_eq_true, true_imp_iff, false_imp_iff, Int.reduceNe, Int.reduceEq, Int.reduceLT, Int.reduceLE, Bool.not_true, Bool.not_false]
              refine appendK2 (base := w4.heap.size) [y] (enc := encIn) elI_23 (hnc.new hwd) (by rfl) (fun j u hu => by simpa [encIn] using hwd.cell hu) encIn_one (by simp only [List.length_cons, List.length_nil]; omega) (by omega) ?_
              intro ve we hoe hge hne'
              have hvn : ∀ g, (Value.slice ina (lessTo c is i).ins.length inc).ownBlock = some g → g ≠ sb ∧ g ≠ w3.heap.size ∧ g ≠ w.heap.size ∧ g ≠ w1.heap.size ∧ g ≠ w5.heap.size ∧ g ≠ w6.heap.size := fun g hg => by have := hni g hg; omega
              have hke : Kept (fun j => (Value.slice ina (lessTo c is i).ins.length inc).ownBlock = some j) wd we := Kept.grown hge (fun _ h => h)
              have kce : Kept (fun j => (Value.slice ina (lessTo c is i).ins.length inc).ownBlock = some j) wc we := (Kept.new hwd).trans hke (fun _ _ h => h)
              have hSe := hSc.kept kce (fun h => (hvn _ h).1 rfl)
              have hTe := hTc.kept kce (fun h => (hvn _ h).2.1 rfl)
              have hCe := hCc.kept kce (fun h => (hvn _ h).2.2.1 rfl)
              have hRe := hRc.kept kce (fun h => (hvn _ h).2.2.2.1 rfl)
              have hOe := hOc.kept kce (fun h => (hvn _ h).2.2.2.2.1 rfl)
              have hMe := hMc.kept kce (fun h => (hvn _ h).2.2.2.2.2 rfl)
              have hse := hsc.keptX kce (fun g hg h => ownNe hsc hnc (by decide) g hg h)
              have hbe : Below w.heap.size w we := hbc.trans (kce.below (by omega) (fun g h => by have := hni g h; omega))
              have sze := kce.size
              have hvs := hoe.slice
              obtain ⟨ea, ec, rfl⟩ := hvs
              simp -dsimp only [push_cast, Nat.reduceAdd, Nat.reduceLeDiff, Nat.reduceBEq, decide_true, ne_eq, eq_self, not_true_eq_false, not_false_eq_true, true_imp_iff, false_imp_iff, Int.reduceNe, Int.reduceEq, Int.reduceLT, Int.reduceLE, Bool.not_true, Bool.not_false]
              refine storeK_of hOe (by simp) rfl ?_
              intro wf hwf
              have szf := hwf.size
              simp -dsimp only [push_cast, Nat.reduceAdd, Nat.reduceLeDiff, Nat.reduceBEq, decide_true, ne_eq, eq_self, not_true_eq_false, not_false_eq_true, true_imp_iff, false_imp_iff, Int.reduceNe, Int.reduceEq, Int.reduceLT, Int.reduceLE, Bool.not_true, Bool.not_false]
              have hni' : ∀ g, (Value.slice ea ((lessTo c is i).ins ++ [y]).length ec).ownBlock = some g → w7.heap.size ≤ g := fun g hg => by
                rcases hne' g hg with h | h
                · exact hni g h
                · omega
              refine ⟨⟨by omega, by omega⟩, ⟨i + 1, ovc, _, rfl, by omega, hwf.blk, ?_, ?_, ?_, hSe.kept hwf.kept (by omega), hTe.kept hwf.kept (by omega), hCe.kept hwf.kept (by omega), hRe.kept hwf.kept (by omega), hbe.trans (hwf.kept.below (by omega) (fun _ h => by omega)), by omega, hnoc, hni'⟩, by rw [h76]; simp only [intOf]; omega⟩
              · rw [hst]; exact hse.keptX hwf.kept (fun g hg h => by have := hnoc g hg; omega)
              · rw [hst, hy]; exact hoe.keptX hwf.kept (fun g hg h => by have := hni' g hg; omega)
              · rw [hst]; exact hMe.kept hwf.kept (by omega)
            · have euse : useI (lessTo c is i).used x = (lessTo c is i).used := by unfold useI; rw [if_neg h1]
              rw [euse] at hst
              have hwc : ∃ wc, wc = wb := ⟨_, rfl⟩
              obtain ⟨wc, rfl⟩ := hwc
              have szc : wc.heap.size = wc.heap.size := rfl
              have hXc : Blk wc wx.heap.size 37 (encIn (lessI c is (lessTo c is i).used x)) := by
                unfold lessI; rw [if_neg h1, if_neg h3, if_neg h2]; exact hXb
              have hk : Kept (fun j => j = wx.heap.size) wc wc := Kept.refl _ _
              have hSc := hSb.kept hk (by omega)
              have hTc := hTb.kept hk (by omega)
              have hCc := hCb.kept hk (by omega)
              have hRc := hRb.kept hk (by omega)
              have hOc := hOb.kept hk (by omega)
              have hMc := hMb.kept hk (by omega)
              have hsc := hsb.keptX hk (fun g hg h => by have := hsx.block g hg; omega)
              have hnc := hnb.keptX hk (fun g hg h => by have := hnx.block g hg; omega)
              have hbc : Below w.heap.size w wc := hbb.trans (hk.below (by omega) (fun _ h => by omega))
              have hnoc := hno
              have hov : ∃ ovc, ovc = ov := ⟨_, rfl⟩
              obtain ⟨ovc, rfl⟩ := hov
              have hgy : ∃ y, lessI c is (lessTo c is i).used x = y := ⟨_, rfl⟩
              obtain ⟨y, hy⟩ := hgy
              rw [hy] at hXc
              have hlen := (lessTo_inv hc (is := is) i hi).len
              have hlle := toP_le (c := c) (is := is) i
              have c33 : wc.cell? ⟨w5.heap.size, 1, none⟩ = some iv' := hOc.cell rfl
              have x33 : cellsAt wc ⟨wx.heap.size, 0, none⟩ 0 3 = some [.int .i64 y.op, .int .i64 y.a, .int .i64 y.b] := hXc.cellsAt
              have hns := hnc.slice
              obtain ⟨ina, inc, rfl⟩ := hns
              simp -dsimp only [push_cast, Nat.reduceAdd, Nat.reduceLeDiff, Nat.reduceBEq, decide_true, ne_eq, eq_self, not_true_eq_false, not_false_eq_true, true_imp_iff, false_imp_iff, Int.reduceNe, Int.reduceEq, Int.reduceLT, Int.reduceLE, Bool.not_true, Bool.not_false, c33, x33]
              refine rowK elI_23 rfl rfl (by omega) ?_
              intro wd hwd
              have szd := hwd.size
              simp -dsimp only [push_cast, Nat.reduceAdd, Nat.reduceLeDiff, Nat.reduceBEq, decide_true, ne_eq, eq_self, not_true_eq_false, not_false_eq_true, true_imp_iff, false_imp_iff, Int.reduceNe, Int.reduceEq, Int.reduceLT, Int.reduceLE, Bool.not_true, Bool.not_false]
              refine appendK2 (base := w4.heap.size) [y] (enc := encIn) elI_23 (hnc.new hwd) (by rfl) (fun j u hu => by simpa [encIn] using hwd.cell hu) encIn_one (by simp only [List.length_cons, List.length_nil]; omega) (by omega) ?_
              intro ve we hoe hge hne'
              have hvn : ∀ g, (Value.slice ina (lessTo c is i).ins.length inc).ownBlock = some g → g ≠ sb ∧ g ≠ w3.heap.size ∧ g ≠ w.heap.size ∧ g ≠ w1.heap.size ∧ g ≠ w5.heap.size ∧ g ≠ w6.heap.size := fun g hg => by have := hni g hg; omega
              have hke : Kept (fun j => (Value.slice ina (lessTo c is i).ins.length inc).ownBlock = some j) wd we := Kept.grown hge (fun _ h => h)
              have kce : Kept (fun j => (Value.slice ina (lessTo c is i).ins.length inc).ownBlock = some j) wc we := (Kept.new hwd).trans hke (fun _ _ h => h)
              have hSe := hSc.kept kce (fun h => (hvn _ h).1 rfl)
              have hTe := hTc.kept kce (fun h => (hvn _ h).2.1 rfl)
              have hCe := hCc.kept kce (fun h => (hvn _ h).2.2.1 rfl)
              have hRe := hRc.kept kce (fun h => (hvn _ h).2.2.2.1 rfl)
              have hOe := hOc.kept kce (fun h => (hvn _ h).2.2.2.2.1 rfl)
              have hMe := hMc.kept kce (fun h => (hvn _ h).2.2.2.2.2 rfl)
              have hse := hsc.keptX kce (fun g hg h => ownNe hsc hnc (by decide) g hg h)
              have hbe : Below w.heap.size w we := hbc.trans (kce.below (by omega) (fun g h => by have := hni g h; omega))
              have sze := kce.size
              have hvs := hoe.slice
              obtain ⟨ea, ec, rfl⟩ := hvs
              simp -dsimp only [push_cast, Nat.reduceAdd, Nat.reduceLeDiff, Nat.reduceBEq, decide_true, ne_eq, eq_self, not_true_eq_false, not_false_eq_true, true_imp_iff, false_imp_iff, Int.reduceNe, Int.reduceEq, Int.reduceLT, Int.reduceLE, Bool.not_true, Bool.not_false]
              refine storeK_of hOe (by simp) rfl ?_
              intro wf hwf
              have szf := hwf.size
              simp -dsimp only [push_cast, Nat.reduceAdd, Nat.reduceLeDiff, Nat.reduceBEq, decide_true, ne_eq, eq_self, not_true_eq_false, not_false_eq_true, true_imp_iff, false_imp_iff, Int.reduceNe, Int.reduceEq, Int.reduceLT, Int.reduceLE, Bool.not_true, Bool.not_false]
              have hni' : ∀ g, (Value.slice ea ((lessTo c is i).ins ++ [y]).length ec).ownBlock = some g → w7.heap.size ≤ g := fun g hg => by
                rcases hne' g hg with h | h
                · exact hni g h
                · omega
              refine ⟨⟨by omega, by omega⟩, ⟨i + 1, ovc, _, rfl, by omega, hwf.blk, ?_, ?_, ?_, hSe.kept hwf.kept (by omega), hTe.kept hwf.kept (by omega), hCe.kept hwf.kept (by omega), hRe.kept hwf.kept (by omega), hbe.trans (hwf.kept.below (by omega) (fun _ h => by omega)), by omega, hnoc, hni'⟩, by rw [h76]; simp only [intOf]; omega⟩
              · rw [hst]; exact hse.keptX hwf.kept (fun g hg h => by have := hnoc g hg; omega)
              · rw [hst, hy]; exact hoe.keptX hwf.kept (fun g hg h => by have := hni' g hg; omega)
              · rw [hst]; exact hMe.kept hwf.kept (by omega)
        · have hin : i = c.ins.length := by omega
          subst hin
          have q3 := hOx.cellsAt
          simp only [List.length_cons, List.length_nil, Nat.zero_add, Nat.reduceAdd] at q3
          have hsl := hsx.slice
          obtain ⟨oa, oc, rfl⟩ := hsl
          have hsl := hnx.slice
          obtain ⟨na, nc, rfl⟩ := hsl
          simp -dsimp only [push_cast, Nat.reduceAdd, Nat.reduceLeDiff, Nat.reduceBEq, decide_true, ne_eq, eq_self, not_true_eq_false, not_false_eq_true, true_imp_iff, false_imp_iff, Int.reduceNe, Int.reduceEq, Int.reduceLT, Int.reduceLE, Bool.not_true, Bool.not_false, q3]
          refine storeAgg (n := 2) (by kernel_rfl) hRx rfl (by simp) (by simp [Value.oneCell']) ?_
          intro w8 hw8
          have sz8 := hw8.size
          have q5 : cellsAt w8 ⟨w1.heap.size, 0, none⟩ 0 2 = some _ := hw8.blk.cellsAt
          have hb8 : Below w.heap.size w w8 := hbx.trans (hw8.kept.below (by omega) (fun _ h => by omega))
          have hos8 := hsx.keptX hw8.kept (fun g hg h => by have := hsx.block g hg; omega)
          have hns8 := hnx.keptX hw8.kept (fun g hg h => by have := hnx.block g hg; omega)
          simp -dsimp only [push_cast, Nat.reduceAdd, Nat.reduceLeDiff, Nat.reduceBEq, decide_true, ne_eq, eq_self, not_true_eq_false, not_false_eq_true, true_imp_iff, false_imp_iff, Int.reduceNe, Int.reduceEq, Int.reduceLT, Int.reduceLE, Bool.not_true, Bool.not_false, q5]
          refine ⟨⟨is, _, _, rfl, hCl, ?_, hns8.mono (by omega)⟩, hb8⟩
          refine SetsV.of_values (us := (lessTo c is c.ins.length).used.map fun a => us.getD a ⟨none, 0, 0⟩) (by unfold lessP lessC; simp) (hos8.slOwn.weaken fun b h => ?_) ?_
          · rcases h with h | h
            · intro hh
              have := hos8.block b hh
              have := hX b h
              omega
            · exact fun hh => ownNe hns8 hos8 (by decide) b h hh
          intro j u s hu hs
          have hI := lessTo_inv hc (is := is) c.ins.length (Nat.le_refl _)
          unfold lessP lessC at hs
          rw [List.getElem?_map] at hu hs
          cases hj : (lessTo c is c.ins.length).used[j]? with
          | none => rw [hj] at hu; cases hu
          | some d =>
            rw [hj] at hu hs
            have hd := hI.used d (List.mem_of_getElem? hj)
            have e1 := List.getElem?_eq_getElem (l := us) (i := d) (by omega)
            have e2 := List.getElem?_eq_getElem (l := c.sets) (i := d) (by omega)
            simp only [Option.map_some, Option.some.injEq, List.getD_eq_getElem?_getD, e1, e2, Option.getD_some] at hu hs
            subst hu hs
            refine Sl.below (w := w) ((hus2 d _ _ e1 e2).fresh (fun _ => by simp [encR]) (fun b h => ?_)) hb8
            rcases h with h | h
            · exact .inl h
            · have := hns8.block b h; omega
end Go.Proofs.YtimjpijbcnjaaaaDoor
