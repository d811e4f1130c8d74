import Derived.Test.YtimjpijbcnjaaaaDoorImr8
import Derived.Test.YtimjpijbcnjaaaaDoorTell
namespace Go.Proofs.YtimjpijbcnjaaaaDoor
open Go.Vc Go.Proofs Go.RowKit Cae
set_option maxRecDepth 100000
set_option linter.unusedSimpArgs false
set_option linter.unusedVariables false
attribute [local irreducible] wpL callK valK unitK runK Fun Sl Own vc vcOps opK pureK
set_option maxHeartbeats 4000000

/-- An error and what it tells. -/
def Errs (w : World) (v : Value) (n p : Int) : Prop := (v = .nilIface ∧ n = 0 ∧ p = -1) ∨ Placed w v n p
theorem Errs.below {w w' : World} {v : Value} {n p : Int} (h : Errs w v n p) (hk : Below w.heap.size w w') : Errs w' v n p := h.imp id fun h => h.below hk

theorem placeE_c (v : Value) (n p : Int) (w : World) (hE : ErrVar w) (hv : Errs w v n p) : Fun Tryd.prog 86 [v] w fun r w' => r = .tuple #[.int .i64 n, .int .i64 p] ∧ Below w.heap.size w w' := by
  rcases hv with ⟨rfl, rfl, rfl⟩ | hv
  · exact (place0_c w).mono fun r w' ⟨h, hw⟩ => ⟨h, by subst hw; exact Below.refl _ _⟩
  · exact place_c v n p w hE hv

theorem is_c (v : Value) (n p a b : Int) (w : World) (hE : ErrVar w) (hv : Errs w v n p) : Fun Tryd.prog 52 [v, .agg #[.int .i64 a, .int .i64 b]] w fun r w' => r = .bool (decide (n = a ∧ p = b)) ∧ Below w.heap.size w w' := by
  refine fun_of_vc Tryd.func52 rfl (by kernel_rfl) [4] rfl ?_
  simp -dsimp only [push_cast, fr0, Tryd.ntmps52, List.length_cons, List.length_nil, Nat.reduceAdd, Nat.reduceSub, Nat.reduceBEq, List.replicate_succ, List.replicate_zero]
  refine boxK_of ?_
  intro w1 hw1
  simp -dsimp only [push_cast, Nat.reduceAdd, Nat.reduceLeDiff, Nat.reduceBEq, decide_true]
  refine callK_of (placeE_c v n p w1 ((Kept.new hw1 (X := fun _ => False)).cell hE id) (hv.below hw1.below)) ?_
  rintro _ w2 ⟨rfl, hb2⟩
  have c0 : w2.cell? ⟨w.heap.size, 0, none⟩ = some (.int .i64 a) := (hb2.cell (by have := hw1.size; show w.heap.size < _; omega)).trans (hw1.cell rfl)
  have c1 : w2.cell? ⟨w.heap.size, 1, none⟩ = some (.int .i64 b) := (hb2.cell (by have := hw1.size; show w.heap.size < _; omega)).trans (hw1.cell rfl)
  simp -dsimp only [push_cast, Nat.reduceAdd, Nat.reduceLeDiff, Nat.reduceBEq, decide_true, c0, c1]
  have hb : Below w.heap.size w w2 := hw1.below.trans (hb2.mono (by have := hw1.size; omega))
  constructor
  · intro h; subst h; exact ⟨by simp, hb⟩
  · intro h; exact ⟨by simp [h], hb⟩

theorem Bare_c (e : Int) (w : World) : Fun Tryd.prog 53 [.int .i64 e] w fun r w' => r = .agg #[.int .i64 e, .int .i64 (-1)] ∧ Below w.heap.size w w' := by
  refine fun_of_vcC Tryd.func53 rfl (by kernel_rfl) [.cell 2 94] rfl ?_
  simp -dsimp only [push_cast, fr0, Tryd.ntmps53, List.length_cons, List.length_nil, Nat.reduceAdd, Nat.reduceSub, Nat.reduceBEq, List.replicate_succ, List.replicate_zero]
  refine allocK (z := [.int .i64 0, .int .i64 0]) (by kernel_rfl) ?_
  intro w1 hw1
  simp -dsimp only [push_cast, Nat.reduceAdd, Nat.reduceLeDiff, Nat.reduceBEq, decide_true]
  refine storeAgg (n := 2) (by kernel_rfl) hw1.blk rfl (by simp) (by simp [Value.oneCell']) ?_
  intro w2 hw2
  have c2 : cellsAt w2 ⟨w.heap.size, 0, none⟩ 0 2 = some [.int .i64 e, .int .i64 (-1)] := hw2.blk.cellsAt
  have sz1 := hw1.size
  simp -dsimp only [push_cast, Nat.reduceAdd, Nat.reduceLeDiff, Nat.reduceBEq, decide_true, c2]
  exact hw1.below.trans (hw2.kept.below (by omega) (fun _ h => by omega))

theorem keptErr {w w' : World} (h : Below w.heap.size w w') (hE : ErrVar w) : ErrVar w' := (Kept.of_below h (X := fun _ => False) (fun k hk hl => by omega)).cell hE id

theorem bare_c (v : Value) (n p e : Int) (w : World) (hE : ErrVar w) (hv : Errs w v n p) : Fun Tryd.prog 19 [v, .int .i64 e] w fun r w' => r = .bool (decide (n = e ∧ p = -1)) ∧ Below w.heap.size w w' := by
  refine fun_of_vc Tryd.func19 rfl (by kernel_rfl) [4] rfl ?_
  simp -dsimp only [push_cast, fr0, Tryd.ntmps19, List.length_cons, List.length_nil, Nat.reduceAdd, Nat.reduceSub, Nat.reduceBEq, List.replicate_succ, List.replicate_zero]
  refine callK_of (Bare_c e w) ?_
  rintro _ w1 ⟨rfl, hb1⟩
  simp -dsimp only [push_cast, Nat.reduceAdd, Nat.reduceLeDiff, Nat.reduceBEq, decide_true]
  refine callK_of (is_c v n p e (-1) w1 (keptErr hb1 hE) (hv.below hb1)) ?_
  rintro _ w2 ⟨rfl, hb2⟩
  simp -dsimp only [push_cast, Nat.reduceAdd, Nat.reduceLeDiff, Nat.reduceBEq, decide_true]
  exact hb1.trans (hb2.mono hb1.size)

theorem sameSet_c (l : List Rg) (hl : l.length < 1000000000) (X X' : Nat → Prop) (v v' : Value) (w : World) (hv : Sl X 2 (En encR) w v l) (hv' : Sl X' 2 (En encR) w v' l) :
    Fun Tryd.prog 92 [v, v'] w fun r w' => r = .bool true ∧ Below w.heap.size w w' := by
  obtain ⟨a, c, rfl, hc⟩ := hv.shape
  obtain ⟨a', c', rfl, hc'⟩ := hv'.shape
  refine fun_of_vc Tryd.func92 rfl (by kernel_rfl) [4] rfl ?_
  simp -dsimp only [push_cast, fr0, Tryd.ntmps92, List.length_cons, List.length_nil, Nat.reduceAdd, Nat.reduceSub, Nat.reduceBEq, List.replicate_succ, List.replicate_zero]
  refine ⟨fun h => absurd rfl h, fun _ => ?_⟩
  refine wpL_loop [4, 5, 11, 12, 13, 14, 15, 16, 17, 18, 19, 20, 21, 22, 23, 24, 25] (fun z wx => ∃ (i : Nat), z 5 = .int .i64 i ∧ i ≤ l.length ∧ Below w.heap.size w wx) (fun z _ => l.length - (intOf (z 5)).toNat) ?_ ?_
  · exact ⟨0, rfl, Nat.zero_le _, Below.refl _ _⟩
  · intro z wx hI
    obtain ⟨i, h5, hi, hb⟩ := hI
    simp -dsimp only [push_cast, Nat.reduceAdd, Nat.reduceLeDiff, Nat.reduceBEq, decide_true, h5]
    refine ⟨fun hlt => ?_, fun hge => ?_⟩
    · obtain ⟨x, hx, hxm, hd, ht⟩ := lt_get (l := l) (i := i) (by omega)
      obtain ⟨b, o, rfl, hX, hcell⟩ := (hv.below hb).get hx
      obtain ⟨b', o', rfl, hX', hcell'⟩ := (hv'.below hb).get hx
      refine wpL_draw (fun w' => ∀ a, w'.cell? a = wx.cell? a) mixed (by kernel_rfl) (fun _ => rfl) ?_
      have g0 : ∀ w'' : World, (∀ a, w''.cell? a = wx.cell? a) → cellsAt w'' ⟨b, o + i * 2, none⟩ 0 2 = some (encR x) := fun w'' hC => cellsAt_of (encR x) 0 (fun j u hu => by rw [hC]; simpa using hcell j u hu)
      have g0' : ∀ w'' : World, (∀ a, w''.cell? a = wx.cell? a) → cellsAt w'' ⟨b', o' + i * 2, none⟩ 0 2 = some (encR x) := fun w'' hC => cellsAt_of (encR x) 0 (fun j u hu => by rw [hC]; simpa using hcell' j u hu)
      have d0 := g0 wx.drew (fun _ => rfl)
      have d0' := g0' wx.drew (fun _ => rfl)
      unfold encR at d0 d0'
      simp -dsimp only [push_cast, Nat.reduceAdd, Nat.reduceLeDiff, Nat.reduceBEq, decide_true, ne_eq, eq_self, not_true_eq_false, not_false_eq_true, true_imp_iff, false_imp_iff, Int.reduceNe, Int.reduceEq, Int.reduceLT, Int.reduceLE, Bool.not_true, Bool.not_false, d0, d0']
      refine ⟨⟨by omega, by omega⟩, fun w'' hC => by rw [g0 w'' hC]; exact rfl, ⟨by omega, by omega⟩, fun w'' hC => by rw [g0' w'' hC]; exact rfl, ?_⟩
      exact ⟨⟨by omega, by omega⟩, ⟨i + 1, rfl, by omega, hb.drew⟩, by rw [h5]; simp only [intOf]; omega⟩
    · exact hb

theorem sameCode_c (c : CodeP) (hl : CodeLen c) (X X' : Nat → Prop) (v v' : Value) (w : World) (hv : CodeV X w v c) (hv' : CodeV X' w v' c) :
    Fun Tryd.prog 77 [v, v'] w fun r w' => r = .bool true ∧ Below w.heap.size w w' := by
  obtain ⟨hl1, hl2, hl3⟩ := hl
  obtain ⟨sv, iv, rfl, hsv, hiv⟩ := hv
  obtain ⟨sv', iv', rfl, hsv', hiv'⟩ := hv'
  obtain ⟨a1, c1, rfl, hc1⟩ := hsv.shape
  obtain ⟨a2, c2, rfl, hc2⟩ := hiv.shape
  obtain ⟨a1', c1', rfl, hc1'⟩ := hsv'.shape
  obtain ⟨a2', c2', rfl, hc2'⟩ := hiv'.shape
  refine fun_of_vc Tryd.func77 rfl (by kernel_rfl) [4] rfl ?_
  simp -dsimp only [push_cast, fr0, Tryd.ntmps77, List.length_cons, List.length_nil, Nat.reduceAdd, Nat.reduceSub, Nat.reduceBEq, List.replicate_succ, List.replicate_zero]
  refine boxK_of ?_
  intro w1 hw1
  have hw1 : New w w1 25 [.slice a1 c.sets.length c1, .slice a2 c.ins.length c2] := hw1
  simp -dsimp only [push_cast, Nat.reduceAdd, Nat.reduceLeDiff, Nat.reduceBEq, decide_true]
  refine boxK_of ?_
  intro w2 hw2
  have hw2 : New w1 w2 25 [.slice a1' c.sets.length c1', .slice a2' c.ins.length c2'] := hw2
  have sz1 := hw1.size
  have sz2 := hw2.size
  have hB1 : Blk w2 w.heap.size 25 [.slice a1 c.sets.length c1, .slice a2 c.ins.length c2] := hw1.blk.below hw2.below (by omega)
  have hB2 : Blk w2 w1.heap.size 25 [.slice a1' c.sets.length c1', .slice a2' c.ins.length c2'] := hw2.blk
  have hL2 : Below w.heap.size w w2 := hw1.below.trans (hw2.below.mono (by omega))
  have d0 : w2.cell? ⟨w.heap.size, 0, none⟩ = some (.slice a1 c.sets.length c1) := hB1.cell rfl
  have d1 : w2.cell? ⟨w.heap.size, 1, none⟩ = some (.slice a2 c.ins.length c2) := hB1.cell rfl
  have d0' : w2.cell? ⟨w1.heap.size, 0, none⟩ = some (.slice a1' c.sets.length c1') := hB2.cell rfl
  have d1' : w2.cell? ⟨w1.heap.size, 1, none⟩ = some (.slice a2' c.ins.length c2') := hB2.cell rfl
  simp -dsimp only [push_cast, Nat.reduceAdd, Nat.reduceLeDiff, Nat.reduceBEq, decide_true, ne_eq, eq_self, not_true_eq_false, not_false_eq_true, true_imp_iff, false_imp_iff, Int.reduceNe, Int.reduceEq, Int.reduceLT, Int.reduceLE, Bool.not_true, Bool.not_false, d0, d1, d0', d1', decide_false]
  refine wpL_loop [4, 5, 23, 24, 25, 26, 27, 28, 29, 30, 31, 32, 33, 34, 35, 36, 37, 38, 39, 40, 41] (fun z wx => ∃ (i : Nat), z 5 = .int .i64 i ∧ i ≤ c.sets.length ∧ Below w2.heap.size w2 wx) (fun z _ => c.sets.length - (intOf (z 5)).toNat) ?_ ?_
  · exact ⟨0, rfl, Nat.zero_le _, Below.refl _ _⟩
  · intro z wx hI
    obtain ⟨i, h5, hi, hb⟩ := hI
    have hLx := hL2.trans (hb.mono hL2.size)
    have szx := hb.size
    have hB1x := hB1.below hb (by omega)
    have hB2x := hB2.below hb (by omega)
    have e0 : wx.cell? ⟨w.heap.size, 0, none⟩ = some (.slice a1 c.sets.length c1) := hB1x.cell rfl
    have e1 : wx.cell? ⟨w.heap.size, 1, none⟩ = some (.slice a2 c.ins.length c2) := hB1x.cell rfl
    simp -dsimp only [push_cast, Nat.reduceAdd, Nat.reduceLeDiff, Nat.reduceBEq, decide_true, h5, e0]
    refine ⟨fun hlt => ?_, fun hge => ?_⟩
    · obtain ⟨x, hex⟩ := lt_get (l := c.sets) (i := i) (by omega)
      have hx := hex.1
      have hxm := hex.2.1
      have hget := Sl.getR (SetsV.below hsv hLx) hx
      obtain ⟨b, o, cs, rfl, hX, hk, hcell, u, rfl, hu⟩ := hget
      have hget' := Sl.getR (SetsV.below hsv' hLx) hx
      obtain ⟨b', o', cs', rfl, hX', hk', hcell', u', rfl, hu'⟩ := hget'
      have f0 : wx.cell? ⟨b, o + i, none⟩ = some u := by simpa using hcell 0 u rfl
      have f0' : wx.cell? ⟨b', o' + i, none⟩ = some u' := by simpa using hcell' 0 u' rfl
      have g0' : wx.cell? ⟨w1.heap.size, 0, none⟩ = some (.slice (some ⟨b', o', none⟩) c.sets.length c1') := hB2x.cell rfl
      refine wpL_draw (fun w' => Kept (fun _ => False) wx w') mixed (by kernel_rfl) (Kept.refl _ _).drew ?_
      have kd : Kept (fun _ => False) wx wx.drew := (Kept.refl _ _).drew
      have m0 := kd.cell e0 id
      have m1 := kd.cell f0 id
      have m2 := kd.cell g0' id
      have m3 := kd.cell f0' id
      simp -dsimp only [push_cast, Nat.reduceAdd, Nat.reduceLeDiff, Nat.reduceBEq, decide_true, m0, m1, m2, m3]
      refine ⟨fun w'' hC => by rw [hC.cell e0 id]; exact rfl, ⟨by omega, by omega⟩, fun w'' hC => by rw [hC.cell f0 id]; exact rfl, fun w'' hC => by rw [hC.cell g0' id]; exact rfl, ⟨by omega, by omega⟩, fun w'' hC => by rw [hC.cell f0' id]; exact rfl, ?_⟩
      have hbd : Below wx.heap.size wx wx.drew := (Below.refl _ _).drew
      refine callK_of (sameSet_c x (hl1 x hxm) X X' u u' wx.drew (hu.below hbd) (hu'.below hbd)) ?_
      rintro _ w3 ⟨rfl, hb3⟩
      have hb3' : Below wx.heap.size wx w3 := hbd.trans hb3
      refine ⟨Kept.of_below hb3' (fun k hk hl => by omega), ?_⟩
      simp -dsimp only [push_cast, Nat.reduceAdd, Nat.reduceLeDiff, Nat.reduceBEq, decide_true, ne_eq, eq_self, not_true_eq_false, not_false_eq_true, true_imp_iff, false_imp_iff, Int.reduceNe, Int.reduceEq, Int.reduceLT, Int.reduceLE, Bool.not_true, Bool.not_false]
      exact ⟨⟨by omega, by omega⟩, ⟨i + 1, rfl, by omega, hb.trans (hb3'.mono szx)⟩, by rw [h5]; simp only [intOf]; omega⟩
    · refine wpL_loop [4, 6, 42, 43, 44, 45, 46, 47, 48, 49, 50, 51, 52, 53, 54, 55, 56, 57, 58, 59] (fun z' wy => ∃ (j : Nat), z' 6 = .int .i64 j ∧ j ≤ c.ins.length ∧ Below wx.heap.size wx wy) (fun z' _ => c.ins.length - (intOf (z' 6)).toNat) ?_ ?_
      · exact ⟨0, rfl, Nat.zero_le _, Below.refl _ _⟩
      · intro z' wy hI
        obtain ⟨j, h6, hj, hby⟩ := hI
        have hLy := hLx.trans (hby.mono hLx.size)
        have szy := hby.size
        have hB1y := hB1x.below hby hB1x.lt
        have hB2y := hB2x.below hby hB2x.lt
        have e1 : wy.cell? ⟨w.heap.size, 1, none⟩ = some (.slice a2 c.ins.length c2) := hB1y.cell rfl
        have e1' : wy.cell? ⟨w1.heap.size, 1, none⟩ = some (.slice a2' c.ins.length c2') := hB2y.cell rfl
        simp -dsimp only [push_cast, Nat.reduceAdd, Nat.reduceLeDiff, Nat.reduceBEq, decide_true, h6, e1]
        refine ⟨fun hlt2 => ?_, fun hge2 => hLy⟩
        obtain ⟨x, hex⟩ := lt_get (l := c.ins) (i := j) (by omega)
        have hx := hex.1
        have hget := (hiv.below hLy).get hx
        obtain ⟨b, o, rfl, hX, hcell⟩ := hget
        have hget' := (hiv'.below hLy).get hx
        obtain ⟨b', o', rfl, hX', hcell'⟩ := hget'
        refine wpL_draw (fun w' => ∀ a, w'.cell? a = wy.cell? a) mixed (by kernel_rfl) (fun _ => rfl) ?_
        have g0 : ∀ w'' : World, (∀ a, w''.cell? a = wy.cell? a) → cellsAt w'' ⟨b, o + j * 3, none⟩ 0 3 = some (encIn x) := fun w'' hC => cellsAt_of (encIn x) 0 (fun j u hu => by rw [hC]; simpa using hcell j u hu)
        have g0' : ∀ w'' : World, (∀ a, w''.cell? a = wy.cell? a) → cellsAt w'' ⟨b', o' + j * 3, none⟩ 0 3 = some (encIn x) := fun w'' hC => cellsAt_of (encIn x) 0 (fun j u hu => by rw [hC]; simpa using hcell' j u hu)
        have q0 : wy.drew.cell? ⟨w.heap.size, 1, none⟩ = some (.slice (some ⟨b, o, none⟩) c.ins.length c2) := e1
        have q0' : wy.drew.cell? ⟨w1.heap.size, 1, none⟩ = some (.slice (some ⟨b', o', none⟩) c.ins.length c2') := e1'
        have r0 := g0 wy.drew (fun _ => rfl)
        have r0' := g0' wy.drew (fun _ => rfl)
        unfold encIn at r0 r0'
        simp -dsimp only [push_cast, Nat.reduceAdd, Nat.reduceLeDiff, Nat.reduceBEq, decide_true, ne_eq, eq_self, not_true_eq_false, not_false_eq_true, true_imp_iff, false_imp_iff, Int.reduceNe, Int.reduceEq, Int.reduceLT, Int.reduceLE, Bool.not_true, Bool.not_false, q0, q0', r0, r0']
        refine ⟨fun w'' hC => by rw [hC, e1]; exact rfl, ⟨by omega, by omega⟩, fun w'' hC => by rw [g0 w'' hC]; exact rfl, fun w'' hC => by rw [hC, e1']; exact rfl, ⟨by omega, by omega⟩, fun w'' hC => by rw [g0' w'' hC]; exact rfl, ?_⟩
        exact ⟨⟨by omega, by omega⟩, ⟨j + 1, rfl, by omega, hby.drew⟩, by rw [h6]; simp only [intOf]; omega⟩
end Go.Proofs.YtimjpijbcnjaaaaDoor
