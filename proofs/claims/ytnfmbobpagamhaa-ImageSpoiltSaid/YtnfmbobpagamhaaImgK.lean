import Derived.Test.YtnfmbobpagamhaaImg6
namespace Go.Proofs.Ytnfmbobpagamhaa
open Go.Vc Go.Proofs Go.RowKit Cae
set_option maxRecDepth 100000
set_option linter.unusedSimpArgs false
set_option linter.unusedVariables false
attribute [local irreducible] wpL callK valK unitK runK Fun Sl Own vc vcOps opK pureK
set_option maxHeartbeats 4000000

theorem rangesSame_c (l : List Rg) (hl : l.length < 1000000000) (X X' : Nat → Prop) (v v' : Value) (w : World) (hv : Sl X 2 (En encR) w v l) (hv' : Sl X' 2 (En encR) w v' l) :
    Fun Try.prog 41 [v, v'] w fun r w' => r = .bool true ∧ Below w.heap.size w w' := by
  obtain ⟨a, c, rfl, hc⟩ := hv.shape
  obtain ⟨a', c', rfl, hc'⟩ := hv'.shape
  refine fun_of_vc Try.func41 rfl (by kernel_rfl) [4] rfl ?_
  simp -dsimp only [push_cast, fr0, Try.ntmps41, List.length_cons, List.length_nil, Nat.reduceAdd, Nat.reduceSub, Nat.reduceBEq, List.replicate_succ, List.replicate_zero]
  refine ⟨fun h => absurd rfl h, fun _ => ?_⟩
  refine wpL_loop [4, 5, 13, 14, 15, 16, 17, 18, 19, 20, 21, 22, 23, 24, 25] (fun z wx => ∃ (i : Nat), z 13 = .int .i64 i ∧ i ≤ l.length ∧ Below w.heap.size w wx) (fun z _ => l.length - (intOf (z 13)).toNat) ?_ ?_
  · exact ⟨0, rfl, Nat.zero_le _, Below.refl _ _⟩
  · intro z wx hI
    obtain ⟨i, h13, hi, hb⟩ := hI
    simp -dsimp only [push_cast, Nat.reduceAdd, Nat.reduceLeDiff, Nat.reduceBEq, decide_true, h13]
    refine ⟨fun hlt => ?_, fun hge => ?_⟩
    · obtain ⟨x, hx, hxm, hd, ht⟩ := lt_get (l := l) (i := i) (by omega)
      obtain ⟨b, o, rfl, hX, hcell⟩ := (hv.below hb).get hx
      obtain ⟨b', o', rfl, hX', hcell'⟩ := (hv'.below hb).get hx
      refine wpL_draw (fun w' => ∀ a, w'.cell? a = wx.cell? a) mixed (by kernel_rfl) (fun _ => rfl) ?_
      have g0 : ∀ w'' : World, (∀ a, w''.cell? a = wx.cell? a) → cellsAt w'' ⟨b, o + i * 2, none⟩ 0 2 = some (encR x) := fun w'' hC => cellsAt_of (encR x) 0 (fun j u hu => by rw [hC]; simpa using hcell j u hu)
      have g0' : ∀ w'' : World, (∀ a, w''.cell? a = wx.cell? a) → cellsAt w'' ⟨b', o' + i * 2, none⟩ 0 2 = some (encR x) := fun w'' hC => cellsAt_of (encR x) 0 (fun j u hu => by rw [hC]; simpa using hcell' j u hu)
      have d0 := g0 wx.drew (fun _ => rfl)
      have d0' := g0' wx.drew (fun _ => rfl)
      unfold encR at d0 d0'
      simp -dsimp only [push_cast, Nat.reduceAdd, Nat.reduceLeDiff, Nat.reduceBEq, decide_true, ne_eq, eq_self, not_true_eq_false, not_false_eq_true, true_imp_iff, false_imp_iff, Int.reduceNe, Int.reduceEq, Int.reduceLT, Int.reduceLE, Bool.not_true, Bool.not_false, d0, d0']
      refine ⟨⟨by omega, by omega⟩, fun w'' hC => by rw [g0 w'' hC]; exact rfl, ⟨by omega, by omega⟩, fun w'' hC => by rw [g0' w'' hC]; exact rfl, ?_⟩
      exact ⟨⟨by omega, by omega⟩, ⟨i + 1, rfl, by omega, hb.drew⟩, by rw [h13]; simp only [intOf]; omega⟩
    · exact hb
theorem instsSame_c (l : List I3) (hl : l.length < 1000000000) (X X' : Nat → Prop) (v v' : Value) (w : World) (hv : Sl X 3 (En encIn) w v l) (hv' : Sl X' 3 (En encIn) w v' l) :
    Fun Try.prog 38 [v, v'] w fun r w' => r = .bool true ∧ Below w.heap.size w w' := by
  obtain ⟨a, c, rfl, hc⟩ := hv.shape
  obtain ⟨a', c', rfl, hc'⟩ := hv'.shape
  refine fun_of_vc Try.func38 rfl (by kernel_rfl) [4] rfl ?_
  simp -dsimp only [push_cast, fr0, Try.ntmps38, List.length_cons, List.length_nil, Nat.reduceAdd, Nat.reduceSub, Nat.reduceBEq, List.replicate_succ, List.replicate_zero]
  refine ⟨fun h => absurd rfl h, fun _ => ?_⟩
  refine wpL_loop [4, 5, 13, 14, 15, 16, 17, 18, 19, 20, 21, 22, 23, 24, 25] (fun z wx => ∃ (i : Nat), z 13 = .int .i64 i ∧ i ≤ l.length ∧ Below w.heap.size w wx) (fun z _ => l.length - (intOf (z 13)).toNat) ?_ ?_
  · exact ⟨0, rfl, Nat.zero_le _, Below.refl _ _⟩
  · intro z wx hI
    obtain ⟨i, h13, hi, hb⟩ := hI
    simp -dsimp only [push_cast, Nat.reduceAdd, Nat.reduceLeDiff, Nat.reduceBEq, decide_true, h13]
    refine ⟨fun hlt => ?_, fun hge => ?_⟩
    · obtain ⟨x, hx, hxm, hd, ht⟩ := lt_get (l := l) (i := i) (by omega)
      obtain ⟨b, o, rfl, hX, hcell⟩ := (hv.below hb).get hx
      obtain ⟨b', o', rfl, hX', hcell'⟩ := (hv'.below hb).get hx
      refine wpL_draw (fun w' => ∀ a, w'.cell? a = wx.cell? a) mixed (by kernel_rfl) (fun _ => rfl) ?_
      have g0 : ∀ w'' : World, (∀ a, w''.cell? a = wx.cell? a) → cellsAt w'' ⟨b, o + i * 3, none⟩ 0 3 = some (encIn x) := fun w'' hC => cellsAt_of (encIn x) 0 (fun j u hu => by rw [hC]; simpa using hcell j u hu)
      have g0' : ∀ w'' : World, (∀ a, w''.cell? a = wx.cell? a) → cellsAt w'' ⟨b', o' + i * 3, none⟩ 0 3 = some (encIn x) := fun w'' hC => cellsAt_of (encIn x) 0 (fun j u hu => by rw [hC]; simpa using hcell' j u hu)
      have d0 := g0 wx.drew (fun _ => rfl)
      have d0' := g0' wx.drew (fun _ => rfl)
      unfold encIn at d0 d0'
      simp -dsimp only [push_cast, Nat.reduceAdd, Nat.reduceLeDiff, Nat.reduceBEq, decide_true, ne_eq, eq_self, not_true_eq_false, not_false_eq_true, true_imp_iff, false_imp_iff, Int.reduceNe, Int.reduceEq, Int.reduceLT, Int.reduceLE, Bool.not_true, Bool.not_false, d0, d0']
      refine ⟨⟨by omega, by omega⟩, fun w'' hC => by rw [g0 w'' hC]; exact rfl, ⟨by omega, by omega⟩, fun w'' hC => by rw [g0' w'' hC]; exact rfl, ?_⟩
      exact ⟨⟨by omega, by omega⟩, ⟨i + 1, rfl, by omega, hb.drew⟩, by rw [h13]; simp only [intOf]; omega⟩
    · exact hb

theorem setSame_c (s : List Rg) (hl : s.length < 1000000000) (X X' : Nat → Prop) (v v' : Value) (w : World) (hv : Sl X 2 (En encR) w v s) (hv' : Sl X' 2 (En encR) w v' s) :
    Fun Try.prog 40 [v, v'] w fun r w' => r = .bool true ∧ Below w.heap.size w w' := by
  refine fun_of_vc Try.func40 rfl (by kernel_rfl) [4] rfl ?_
  simp -dsimp only [push_cast, fr0, Try.ntmps40, List.length_cons, List.length_nil, Nat.reduceAdd, Nat.reduceSub, Nat.reduceBEq, List.replicate_succ, List.replicate_zero]
  refine callK_of (rangesSame_c s hl X X' v v' w hv hv') ?_
  rintro _ w1 ⟨rfl, hb⟩
  simp -dsimp only [push_cast, Nat.reduceAdd, Nat.reduceLeDiff, Nat.reduceBEq, decide_true]
  exact hb

theorem setsSame_c (l : List (List Rg)) (hl : l.length < 1000000000) (hs : ∀ s ∈ l, s.length < 1000000000) (X X' : Nat → Prop) (v v' : Value) (w : World) (hv : SetsV X w v l) (hv' : SetsV X' w v' l) :
    Fun Try.prog 39 [v, v', .func (.func 40) #[] #[]] w fun r w' => r = .bool true ∧ Below w.heap.size w w' := by
  obtain ⟨a, c, rfl, hc⟩ := hv.shape
  obtain ⟨a', c', rfl, hc'⟩ := hv'.shape
  refine fun_of_vc Try.func39 rfl (by kernel_rfl) [6] rfl ?_
  simp -dsimp only [push_cast, fr0, Try.ntmps39, List.length_cons, List.length_nil, Nat.reduceAdd, Nat.reduceSub, Nat.reduceBEq, List.replicate_succ, List.replicate_zero]
  refine ⟨fun h => absurd rfl h, fun _ => ?_⟩
  refine wpL_loop [6, 7, 8, 9, 17, 18, 19, 20, 21, 22, 23, 24, 25, 26, 27, 28, 29, 30, 31] (fun z wx => ∃ (i : Nat), z 17 = .int .i64 i ∧ i ≤ l.length ∧ Below w.heap.size w wx) (fun z _ => l.length - (intOf (z 17)).toNat) ?_ ?_
  · exact ⟨0, rfl, Nat.zero_le _, Below.refl _ _⟩
  · intro z wx hI
    obtain ⟨i, h17, hi, hb⟩ := hI
    simp -dsimp only [push_cast, Nat.reduceAdd, Nat.reduceLeDiff, Nat.reduceBEq, decide_true, h17]
    refine ⟨fun hlt => ?_, fun hge => ?_⟩
    · obtain ⟨x, hx, hxm, hd, ht⟩ := lt_get (l := l) (i := i) (by omega)
      obtain ⟨b, o, cs, rfl, hX, hk, hcell, u, rfl, hu⟩ := Sl.getR (hv.below hb) hx
      obtain ⟨b', o', cs', rfl, hX', hk', hcell', u', rfl, hu'⟩ := Sl.getR (hv'.below hb) hx
      have c0 : wx.cell? ⟨b, o + i, none⟩ = some u := by simpa using hcell 0 u rfl
      have c1 : wx.cell? ⟨b', o' + i, none⟩ = some u' := by simpa using hcell' 0 u' rfl
      simp -dsimp only [push_cast, Nat.reduceAdd, Nat.reduceLeDiff, Nat.reduceBEq, decide_true, c0, c1]
      refine ⟨⟨by omega, by omega⟩, ⟨by omega, by omega⟩, ?_⟩
      refine callK_of (setSame_c x (hs x hxm) X X' u u' wx hu hu') ?_
      rintro _ w1 ⟨rfl, hb1⟩
      simp -dsimp only [push_cast, Nat.reduceAdd, Nat.reduceLeDiff, Nat.reduceBEq, decide_true, ne_eq, eq_self, not_true_eq_false, not_false_eq_true, true_imp_iff, false_imp_iff, Int.reduceNe, Int.reduceEq, Int.reduceLT, Int.reduceLE, Bool.not_true, Bool.not_false]
      exact ⟨⟨by omega, by omega⟩, ⟨i + 1, rfl, by omega, hb.trans (hb1.mono hb.size)⟩, by rw [h17]; simp only [intOf]; omega⟩
    · exact hb

theorem codeSame_c (c : CodeP) (hl : CodeLen c) (X X' : Nat → Prop) (v v' : Value) (w : World) (hv : CodeV X w v c) (hv' : CodeV X' w v' c) :
    Fun Try.prog 37 [v, v'] w fun r w' => r = .bool true ∧ Below w.heap.size w w' := by
  obtain ⟨sv, iv, rfl, hsv, hiv⟩ := hv
  obtain ⟨sv', iv', rfl, hsv', hiv'⟩ := hv'
  refine fun_of_vc Try.func37 rfl (by kernel_rfl) [4] rfl ?_
  simp -dsimp only [push_cast, fr0, Try.ntmps37, List.length_cons, List.length_nil, Nat.reduceAdd, Nat.reduceSub, Nat.reduceBEq, List.replicate_succ, List.replicate_zero]
  refine boxK_of ?_
  intro w1 hw1
  have hw1 : New w w1 25 (cellsL (.agg #[sv, iv])) := hw1
  simp -dsimp only [push_cast, Nat.reduceAdd, Nat.reduceLeDiff, Nat.reduceBEq, decide_true]
  refine boxK_of ?_
  intro w2 hw2
  have hw2 : New w1 w2 25 (cellsL (.agg #[sv', iv'])) := hw2
  have s1 := hw1.size
  have s2 := hw2.size
  have hB1 : Blk w2 w.heap.size 25 [sv, iv] := hw1.blk.below hw2.below (by omega)
  have hB2 : Blk w2 w1.heap.size 25 [sv', iv'] := hw2.blk
  have hL2 : Below w.heap.size w w2 := hw1.below.trans (hw2.below.mono (by omega))
  have d1 : w2.cell? ⟨w.heap.size, 1, none⟩ = some iv := hB1.cell rfl
  have d1' : w2.cell? ⟨w1.heap.size, 1, none⟩ = some iv' := hB2.cell rfl
  simp -dsimp only [push_cast, Nat.reduceAdd, Nat.reduceLeDiff, Nat.reduceBEq, decide_true, d1, d1']
  refine callK_of (instsSame_c c.ins hl.2.1 X X' iv iv' w2 (hiv.below hL2) (hiv'.below hL2)) ?_
  rintro _ w3 ⟨rfl, hb3⟩
  have d0 : w3.cell? ⟨w.heap.size, 0, none⟩ = some sv := (hB1.below hb3 (by omega)).cell rfl
  have d0' : w3.cell? ⟨w1.heap.size, 0, none⟩ = some sv' := (hB2.below hb3 (by omega)).cell rfl
  have hL3 := hL2.trans (hb3.mono hL2.size)
  simp -dsimp only [push_cast, Nat.reduceAdd, Nat.reduceLeDiff, Nat.reduceBEq, decide_true, ne_eq, eq_self, not_true_eq_false, not_false_eq_true, true_imp_iff, false_imp_iff, Int.reduceNe, Int.reduceEq, Int.reduceLT, Int.reduceLE, Bool.not_true, Bool.not_false, d0, d0']
  refine callK_of (setsSame_c c.sets hl.2.2 hl.1 X X' sv sv' w3 (hsv.below hL3) (hsv'.below hL3)) ?_
  rintro _ w4 ⟨rfl, hb4⟩
  simp -dsimp only [push_cast, Nat.reduceAdd, Nat.reduceLeDiff, Nat.reduceBEq, decide_true, ne_eq, eq_self, not_true_eq_false, not_false_eq_true, true_imp_iff, false_imp_iff, Int.reduceNe, Int.reduceEq, Int.reduceLT, Int.reduceLE, Bool.not_true, Bool.not_false]
  exact hL3.trans (hb4.mono hL3.size)

theorem pairSame_c (r : PairP) (hl : CodeLen r.before ∧ CodeLen r.after) (X X' : Nat → Prop) (cs cs' : List Value) (pc : Nat) (w : World) (hc : w.cell? ⟨pc, 0, none⟩ = some (.func (.func 37) #[] #[])) (hv : PairR X w cs r) (hv' : PairR X' w cs' r) :
    Fun Try.prog 43 [elV cs, elV cs', .pointer (some ⟨pc, 0, none⟩)] w fun u w' => u = .bool true ∧ Below w.heap.size w w' := by
  obtain ⟨s1, i1, s2, i2, rfl, h1, h2⟩ := hv
  obtain ⟨s1', i1', s2', i2', rfl, h1', h2'⟩ := hv'
  show Fun _ _ [.agg #[.bool r.brk, s1, i1, s2, i2], .agg #[.bool r.brk, s1', i1', s2', i2'], .pointer (some ⟨pc, 0, none⟩)] _ _
  refine fun_of_vc Try.func43 rfl (by kernel_rfl) [5] rfl ?_
  simp -dsimp only [push_cast, fr0, Try.ntmps43, List.length_cons, List.length_nil, Nat.reduceAdd, Nat.reduceSub, Nat.reduceBEq, List.replicate_succ, List.replicate_zero]
  refine boxK_of ?_
  intro w1 hw1
  have hw1 : New w w1 68 [.bool r.brk, s1, i1, s2, i2] := hw1
  simp -dsimp only [push_cast, Nat.reduceAdd, Nat.reduceLeDiff, Nat.reduceBEq, decide_true]
  refine boxK_of ?_
  intro w2 hw2
  have hw2 : New w1 w2 68 [.bool r.brk, s1', i1', s2', i2'] := hw2
  have sz1 := hw1.size
  have sz2 := hw2.size
  have hB1 : Blk w2 w.heap.size 68 [.bool r.brk, s1, i1, s2, i2] := hw1.blk.below hw2.below (by omega)
  have hB2 : Blk w2 w1.heap.size 68 [.bool r.brk, s1', i1', s2', i2'] := hw2.blk
  have hL2 : Below w.heap.size w w2 := hw1.below.trans (hw2.below.mono (by omega))
  have d0 : w2.cell? ⟨w.heap.size, 0, none⟩ = some (.bool r.brk) := hB1.cell rfl
  have d0' : w2.cell? ⟨w1.heap.size, 0, none⟩ = some (.bool r.brk) := hB2.cell rfl
  have hclt : pc < w.heap.size := World.block_lt_of_cell? w _ hc
  have dc : w2.cell? ⟨pc, 0, none⟩ = some (.func (.func 37) #[] #[]) := (hL2.cell hclt).trans hc
  have d1 : cellsAt w2 ⟨w.heap.size, 1, none⟩ 0 2 = some [s1, i1] := blkSome (n := 2) (xs := [s1, i1]) hB1 1 rfl rfl
  have d1' : cellsAt w2 ⟨w1.heap.size, 1, none⟩ 0 2 = some [s1', i1'] := blkSome (n := 2) (xs := [s1', i1']) hB2 1 rfl rfl
  simp -dsimp only [push_cast, Nat.reduceAdd, Nat.reduceLeDiff, Nat.reduceBEq, decide_true, ne_eq, eq_self, not_true_eq_false, not_false_eq_true, true_imp_iff, false_imp_iff, Int.reduceNe, Int.reduceEq, Int.reduceLT, Int.reduceLE, Bool.not_true, Bool.not_false, d0, d0', dc, d1, d1', beq_self_eq_true]
  refine callK_of (codeSame_c r.before hl.1 X X' _ _ w2 (h1.below hL2) (h1'.below hL2)) ?_
  rintro _ w3 ⟨rfl, hb3⟩
  have hL3 := hL2.trans (hb3.mono hL2.size)
  have ec : w3.cell? ⟨pc, 0, none⟩ = some (.func (.func 37) #[] #[]) := (hL3.cell hclt).trans hc
  have e1 : cellsAt w3 ⟨w.heap.size, 3, none⟩ 0 2 = some [s2, i2] := blkSome (n := 2) (xs := [s2, i2]) (hB1.below hb3 (by omega)) 3 rfl rfl
  have e1' : cellsAt w3 ⟨w1.heap.size, 3, none⟩ 0 2 = some [s2', i2'] := blkSome (n := 2) (xs := [s2', i2']) (hB2.below hb3 (by omega)) 3 rfl rfl
  simp -dsimp only [push_cast, Nat.reduceAdd, Nat.reduceLeDiff, Nat.reduceBEq, decide_true, ne_eq, eq_self, not_true_eq_false, not_false_eq_true, true_imp_iff, false_imp_iff, Int.reduceNe, Int.reduceEq, Int.reduceLT, Int.reduceLE, Bool.not_true, Bool.not_false, ec, e1, e1']
  refine callK_of (codeSame_c r.after hl.2 X X' _ _ w3 (h2.below hL3) (h2'.below hL3)) ?_
  rintro _ w4 ⟨rfl, hb4⟩
  simp -dsimp only [push_cast, Nat.reduceAdd, Nat.reduceLeDiff, Nat.reduceBEq, decide_true, ne_eq, eq_self, not_true_eq_false, not_false_eq_true, true_imp_iff, false_imp_iff, Int.reduceNe, Int.reduceEq, Int.reduceLT, Int.reduceLE, Bool.not_true, Bool.not_false]
  exact hL3.trans (hb4.mono hL3.size)

theorem pairCells {X : Nat → Prop} {w : World} {cs : List Value} {r : PairP} (h : PairR X w cs r) : ∃ s1 i1 s2 i2 : SV, cs = [.bool r.brk, s1.v, i1.v, s2.v, i2.v] := by
  obtain ⟨_, _, _, _, rfl, ⟨_, _, e1, g1, g2⟩, ⟨_, _, e2, g3, g4⟩⟩ := h
  cases e1; cases e2
  obtain ⟨a1, c1, rfl, _⟩ := g1.shape
  obtain ⟨a2, c2, rfl, _⟩ := g2.shape
  obtain ⟨a3, c3, rfl, _⟩ := g3.shape
  obtain ⟨a4, c4, rfl, _⟩ := g4.shape
  exact ⟨⟨a1, _, c1⟩, ⟨a2, _, c2⟩, ⟨a3, _, c3⟩, ⟨a4, _, c4⟩, rfl⟩

theorem pairsSame_c (l : List PairP) (hl : l.length < 1000000000) (hs : ∀ r ∈ l, CodeLen r.before ∧ CodeLen r.after) (X X' : Nat → Prop) (v v' : Value) (pc : Nat) (w : World) (hc : w.cell? ⟨pc, 0, none⟩ = some (.func (.func 37) #[] #[]))
    (hv : Sl X 5 (PairR X w) w v l) (hv' : Sl X' 5 (PairR X' w) w v' l) :
    Fun Try.prog 42 [v, v', .func (.func 43) #[] #[.pointer (some ⟨pc, 0, none⟩)]] w fun r w' => r = .bool true ∧ Below w.heap.size w w' := by
  obtain ⟨a, c, rfl, hc1⟩ := hv.shape
  obtain ⟨a', c', rfl, hc'⟩ := hv'.shape
  have hclt : pc < w.heap.size := World.block_lt_of_cell? w _ hc
  refine fun_of_vc Try.func42 rfl (by kernel_rfl) [6] rfl ?_
  simp -dsimp only [push_cast, fr0, Try.ntmps42, List.length_cons, List.length_nil, Nat.reduceAdd, Nat.reduceSub, Nat.reduceBEq, List.replicate_succ, List.replicate_zero]
  refine ⟨fun h => absurd rfl h, fun _ => ?_⟩
  refine wpL_loop [6, 7, 8, 9, 17, 18, 19, 20, 21, 22, 23, 24, 25, 26, 27, 28, 29, 30, 31] (fun z wx => ∃ (i : Nat), z 17 = .int .i64 i ∧ i ≤ l.length ∧ Below w.heap.size w wx) (fun z _ => l.length - (intOf (z 17)).toNat) ?_ ?_
  · exact ⟨0, rfl, Nat.zero_le _, Below.refl _ _⟩
  · intro z wx hI
    obtain ⟨i, h17, hi, hb⟩ := hI
    simp -dsimp only [push_cast, Nat.reduceAdd, Nat.reduceLeDiff, Nat.reduceBEq, decide_true, h17]
    refine ⟨fun hlt => ?_, fun hge => ?_⟩
    · obtain ⟨x, hx, hxm, hd, ht⟩ := lt_get (l := l) (i := i) (by omega)
      obtain ⟨b, o, cs, rfl, hX, hk, hcell, hR⟩ := Sl.getR (PairsV.below hv hb) hx
      obtain ⟨b', o', cs', rfl, hX', hk', hcell', hR'⟩ := Sl.getR (PairsV.below hv' hb) hx
      obtain ⟨s1, i1, s2, i2, rfl⟩ := pairCells hR
      obtain ⟨s1', i1', s2', i2', rfl⟩ := pairCells hR'
      have hszx := hb.size
      have c0 : cellsAt wx ⟨b, o + i * 5, none⟩ 0 5 = some [.bool x.brk, s1.v, i1.v, s2.v, i2.v] := cellsAt_of [.bool x.brk, s1.v, i1.v, s2.v, i2.v] 0 (fun j u hu => by simpa using hcell j u hu)
      simp -dsimp only [push_cast, Nat.reduceAdd, Nat.reduceLeDiff, Nat.reduceBEq, decide_true, c0]
      refine ⟨⟨by omega, by omega⟩, ?_⟩
      refine allocK (z := [.bool false, .slice none 0 0, .slice none 0 0, .slice none 0 0, .slice none 0 0]) (by kernel_rfl) ?_
      intro w1 hw1
      simp -dsimp only [push_cast, Nat.reduceAdd, Nat.reduceLeDiff, Nat.reduceBEq, decide_true]
      refine storeAgg (n := 5) (by kernel_rfl) hw1.blk rfl (by simp) (by simp [SV.v, Value.oneCell']) ?_
      intro w2 hw2
      have sz1 := hw1.size
      have sz2 := hw2.size
      have hL2 : Below wx.heap.size wx w2 := hw1.below.trans (hw2.kept.below (by omega) (fun _ h => by omega))
      have c1 : cellsAt w2 ⟨b', o' + i * 5, none⟩ 0 5 = some [.bool x.brk, s1'.v, i1'.v, s2'.v, i2'.v] := cellsAt_of [.bool x.brk, s1'.v, i1'.v, s2'.v, i2'.v] 0 (fun j u hu => by
        have h0 := hcell' j u hu
        have := (hL2.cell (World.block_lt_of_cell? wx _ h0)).trans h0
        simpa using this)
      simp -dsimp only [push_cast, Nat.reduceAdd, Nat.reduceLeDiff, Nat.reduceBEq, decide_true, c1]
      refine ⟨⟨by omega, by omega⟩, ?_⟩
      refine allocK (z := [.bool false, .slice none 0 0, .slice none 0 0, .slice none 0 0, .slice none 0 0]) (by kernel_rfl) ?_
      intro w3 hw3
      simp -dsimp only [push_cast, Nat.reduceAdd, Nat.reduceLeDiff, Nat.reduceBEq, decide_true]
      refine storeAgg (n := 5) (by kernel_rfl) hw3.blk rfl (by simp) (by simp [SV.v, Value.oneCell']) ?_
      intro w4 hw4
      have sz3 := hw3.size
      have sz4 := hw4.size
      have hL24 : Below w2.heap.size w2 w4 := hw3.below.trans (hw4.kept.below (by omega) (fun _ h => by omega))
      have hL4 : Below wx.heap.size wx w4 := hL2.trans (hL24.mono (by omega))
      have hLw : Below w.heap.size w w4 := hb.trans (hL4.mono hszx)
      have f0 : cellsAt w4 ⟨wx.heap.size, 0, none⟩ 0 5 = some [.bool x.brk, s1.v, i1.v, s2.v, i2.v] := Blk.cellsAt (e := 68) (Blk.below hw2.blk hL24 (by omega))
      have f1 : cellsAt w4 ⟨w2.heap.size, 0, none⟩ 0 5 = some [.bool x.brk, s1'.v, i1'.v, s2'.v, i2'.v] := Blk.cellsAt (e := 68) hw4.blk
      simp -dsimp only [push_cast, Nat.reduceAdd, Nat.reduceLeDiff, Nat.reduceBEq, decide_true, f0, f1]
      refine callK_of (pairSame_c x (hs x hxm) X X' [.bool x.brk, s1.v, i1.v, s2.v, i2.v] [.bool x.brk, s1'.v, i1'.v, s2'.v, i2'.v] pc w4 ((hLw.cell hclt).trans hc) (hR.below hL4) (hR'.below hL4)) ?_
      rintro _ w5 ⟨rfl, hb5⟩
      simp -dsimp only [push_cast, Nat.reduceAdd, Nat.reduceLeDiff, Nat.reduceBEq, decide_true, ne_eq, eq_self, not_true_eq_false, not_false_eq_true, true_imp_iff, false_imp_iff, Int.reduceNe, Int.reduceEq, Int.reduceLT, Int.reduceLE, Bool.not_true, Bool.not_false]
      exact ⟨⟨by omega, by omega⟩, ⟨i + 1, rfl, by omega, hLw.trans (hb5.mono hLw.size)⟩, by rw [h17]; simp only [intOf]; omega⟩
    · exact hb

theorem alike_c (p : ProgP) (hl : ProgLen p) (X X' : Nat → Prop) (v v' : Value) (w : World) (hv : ProgV X w v p) (hv' : ProgV X' w v' p) :
    Fun Try.prog 16 [v, v'] w fun r w' => r = .bool true ∧ Below w.heap.size w w' := by
  obtain ⟨rv, rfl, hr⟩ := hv
  obtain ⟨rv', rfl, hr'⟩ := hv'
  refine fun_of_vc Try.func16 rfl (by kernel_rfl) [4] rfl ?_
  simp -dsimp only [push_cast, fr0, Try.ntmps16, List.length_cons, List.length_nil, Nat.reduceAdd, Nat.reduceSub, Nat.reduceBEq, List.replicate_succ, List.replicate_zero]
  refine boxK_of ?_
  intro w1 hw1
  have hw1 : New w w1 39 [rv, .bool p.els] := hw1
  simp -dsimp only [push_cast, Nat.reduceAdd, Nat.reduceLeDiff, Nat.reduceBEq, decide_true]
  refine boxK_of ?_
  intro w2 hw2
  have hw2 : New w1 w2 39 [rv', .bool p.els] := hw2
  simp -dsimp only [push_cast, Nat.reduceAdd, Nat.reduceLeDiff, Nat.reduceBEq, decide_true]
  refine allocK (z := [.nilFunc]) (by kernel_rfl) ?_
  intro w3 hw3
  simp -dsimp only [push_cast, Nat.reduceAdd, Nat.reduceLeDiff, Nat.reduceBEq, decide_true]
  refine storeK_of hw3.blk (by simp) rfl ?_
  intro w4 hw4
  have sz1 := hw1.size
  have sz2 := hw2.size
  have sz3 := hw3.size
  have sz4 := hw4.size
  have hL24 : Below w2.heap.size w2 w4 := hw3.below.trans (hw4.kept.below (by omega) (fun _ h => by omega))
  have hB1 : Blk w4 w.heap.size 39 [rv, .bool p.els] := (hw1.blk.below hw2.below (by omega)).below hL24 (by omega)
  have hB2 : Blk w4 w1.heap.size 39 [rv', .bool p.els] := hw2.blk.below hL24 (by omega)
  have hL4 : Below w.heap.size w w4 := hw1.below.trans ((hw2.below.mono (by omega)).trans (hL24.mono (by omega)))
  have d0 : w4.cell? ⟨w.heap.size, 0, none⟩ = some rv := hB1.cell rfl
  have d1 : w4.cell? ⟨w.heap.size, 1, none⟩ = some (.bool p.els) := hB1.cell rfl
  have d0' : w4.cell? ⟨w1.heap.size, 0, none⟩ = some rv' := hB2.cell rfl
  have d1' : w4.cell? ⟨w1.heap.size, 1, none⟩ = some (.bool p.els) := hB2.cell rfl
  simp -dsimp only [push_cast, Nat.reduceAdd, Nat.reduceLeDiff, Nat.reduceBEq, decide_true, ne_eq, eq_self, not_true_eq_false, not_false_eq_true, true_imp_iff, false_imp_iff, Int.reduceNe, Int.reduceEq, Int.reduceLT, Int.reduceLE, Bool.not_true, Bool.not_false, d0, d1, d0', d1', beq_self_eq_true]
  refine callK_of (pairsSame_c p.rules hl.1 hl.2 X X' rv rv' w2.heap.size w4 (hw4.blk.cell rfl) (PairsV.below hr hL4) (PairsV.below hr' hL4)) ?_
  rintro _ w5 ⟨rfl, hb5⟩
  simp -dsimp only [push_cast, Nat.reduceAdd, Nat.reduceLeDiff, Nat.reduceBEq, decide_true, ne_eq, eq_self, not_true_eq_false, not_false_eq_true, true_imp_iff, false_imp_iff, Int.reduceNe, Int.reduceEq, Int.reduceLT, Int.reduceLE, Bool.not_true, Bool.not_false]
  exact hL4.trans (hb5.mono hL4.size)
end Go.Proofs.Ytnfmbobpagamhaa
