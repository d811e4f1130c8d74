import Derived.Test.YtimjpijbcnjaaaaDoorImr9
namespace Go.Proofs.YtimjpijbcnjaaaaDoor
open Go.Vc Go.Proofs Go.RowKit Cae
set_option maxRecDepth 100000
set_option linter.unusedSimpArgs false
set_option linter.unusedVariables false
attribute [local irreducible] wpL callK valK unitK runK Fun Sl Own vc vcOps opK pureK
set_option maxHeartbeats 4000000

theorem sub_get {cs xs : List Value} {o j : Nat} {u : Value} (hx : (cs.drop o).take xs.length = xs) (hu : xs[j]? = some u) : cs[o + j]? = some u := by
  rw [← hx] at hu
  have := (List.getElem?_eq_some_iff.1 hu).1
  rw [List.length_take] at this
  rw [List.getElem?_take_of_lt (by omega), List.getElem?_drop] at hu
  exact hu

theorem sameProgram_c (p : ProgP) (hl : ProgLen p) (X X' : Nat → Prop) (v v' : Value) (w : World) (hv : ProgV X w v p) (hv' : ProgV X' w v' p) :
    Fun Tryd.prog 38 [v, v'] w fun r w' => r = .bool true ∧ Below w.heap.size w w' := by
  obtain ⟨hl1, hl2⟩ := hl
  obtain ⟨rv, rfl, hr⟩ := hv
  obtain ⟨rv', rfl, hr'⟩ := hv'
  obtain ⟨a, c, rfl, hc⟩ := hr.shape
  obtain ⟨a', c', rfl, hc'⟩ := hr'.shape
  refine fun_of_vc Tryd.func38 rfl (by kernel_rfl) [4] rfl ?_
  simp -dsimp only [push_cast, fr0, Tryd.ntmps38, List.length_cons, List.length_nil, Nat.reduceAdd, Nat.reduceSub, Nat.reduceBEq, List.replicate_succ, List.replicate_zero]
  refine boxK_of ?_
  intro w1 hw1
  have hw1 : New w w1 43 [.slice a p.rules.length c, .bool p.els] := hw1
  simp -dsimp only [push_cast, Nat.reduceAdd, Nat.reduceLeDiff, Nat.reduceBEq, decide_true]
  refine boxK_of ?_
  intro w2 hw2
  have hw2 : New w1 w2 43 [.slice a' p.rules.length c', .bool p.els] := hw2
  have sz1 := hw1.size
  have sz2 := hw2.size
  have hB1 : Blk w2 w.heap.size 43 [.slice a p.rules.length c, .bool p.els] := hw1.blk.below hw2.below (by omega)
  have hB2 : Blk w2 w1.heap.size 43 [.slice a' p.rules.length c', .bool p.els] := hw2.blk
  have hL2 : Below w.heap.size w w2 := hw1.below.trans (hw2.below.mono (by omega))
  have d0 : w2.cell? ⟨w.heap.size, 0, none⟩ = some (.slice a p.rules.length c) := hB1.cell rfl
  have d1 : w2.cell? ⟨w.heap.size, 1, none⟩ = some (.bool p.els) := hB1.cell rfl
  have d0' : w2.cell? ⟨w1.heap.size, 0, none⟩ = some (.slice a' p.rules.length c') := hB2.cell rfl
  have d1' : w2.cell? ⟨w1.heap.size, 1, none⟩ = some (.bool p.els) := hB2.cell rfl
  simp -dsimp only [push_cast, Nat.reduceAdd, Nat.reduceLeDiff, Nat.reduceBEq, decide_true, ne_eq, eq_self, not_true_eq_false, not_false_eq_true, true_imp_iff, false_imp_iff, Int.reduceNe, Int.reduceEq, Int.reduceLT, Int.reduceLE, Bool.not_true, Bool.not_false, d0, d1, d0', d1', decide_false, beq_self_eq_true]
  refine wpL_loop [4, 5, 20, 21, 22, 23, 24, 25, 26, 27, 28, 29, 30, 31, 32, 33, 34, 35, 36, 37, 38, 39, 40, 41, 42, 43, 44, 45, 46, 47, 48, 49, 50, 51, 52, 53, 54, 55, 56, 57, 58, 59, 60, 61, 62, 63, 64, 65, 66, 67, 68, 69, 70, 71] (fun z wx => ∃ (i : Nat), z 5 = .int .i64 i ∧ i ≤ p.rules.length ∧ Below w2.heap.size w2 wx) (fun z _ => p.rules.length - (intOf (z 5)).toNat) ?_ ?_
  · exact ⟨0, rfl, Nat.zero_le _, Below.refl _ _⟩
  · intro z wx hI
    obtain ⟨i, h5, hi, hb⟩ := hI
    have hLx := hL2.trans (hb.mono hL2.size)
    have szx := hb.size
    have hB1x := hB1.below hb (by omega)
    have hB2x := hB2.below hb (by omega)
    have e0 : wx.cell? ⟨w.heap.size, 0, none⟩ = some (.slice a p.rules.length c) := hB1x.cell rfl
    simp -dsimp only [push_cast, Nat.reduceAdd, Nat.reduceLeDiff, Nat.reduceBEq, decide_true, h5, e0]
    refine ⟨fun hlt => ?_, fun hge => hLx⟩
    obtain ⟨r, hex⟩ := lt_get (l := p.rules) (i := i) (by omega)
    have hx := hex.1
    have hrm := hex.2.1
    have hget := Sl.getR (PairsV.below hr hLx) hx
    obtain ⟨b, o, cs, rfl, hX, hk, hcell, s1, i1, s2, i2, rfl, hc1, hc2⟩ := hget
    have hget' := Sl.getR (PairsV.below hr' hLx) hx
    obtain ⟨b', o', cs', rfl, hX', hk', hcell', s1', i1', s2', i2', rfl, hc1', hc2'⟩ := hget'
    have g0' : wx.cell? ⟨w1.heap.size, 0, none⟩ = some (.slice (some ⟨b', o', none⟩) p.rules.length c') := hB2x.cell rfl
    refine wpL_draw (fun w' => Kept (fun _ => False) wx w') mixed (by kernel_rfl) (Kept.refl _ _).drew ?_
    have kd : Kept (fun _ => False) wx wx.drew := (Kept.refl _ _).drew
    have q0 : ∀ w'' : World, Kept (fun _ => False) wx w'' → w''.cell? ⟨b, o + i * 5, none⟩ = some (.bool r.brk) := fun w'' h => h.cell (by simpa using hcell 0 _ rfl) id
    have q0' : ∀ w'' : World, Kept (fun _ => False) wx w'' → w''.cell? ⟨b', o' + i * 5, none⟩ = some (.bool r.brk) := fun w'' h => h.cell (by simpa using hcell' 0 _ rfl) id
    have q1 : ∀ w'' : World, Kept (fun _ => False) wx w'' → cellsAt w'' ⟨b, o + i * 5 + 1, none⟩ 0 2 = some [s1, i1] := fun w'' h => cellsAt_of [s1, i1] 0 (fun j u hu => h.cell (by
      have := hcell (1 + j) u (sub_get (xs := [s1, i1]) rfl hu)
      simpa [Nat.add_assoc] using this) id)
    have q1' : ∀ w'' : World, Kept (fun _ => False) wx w'' → cellsAt w'' ⟨b', o' + i * 5 + 1, none⟩ 0 2 = some [s1', i1'] := fun w'' h => cellsAt_of [s1', i1'] 0 (fun j u hu => h.cell (by
      have := hcell' (1 + j) u (sub_get (xs := [s1', i1']) rfl hu)
      simpa [Nat.add_assoc] using this) id)
    have q2 : ∀ w'' : World, Kept (fun _ => False) wx w'' → cellsAt w'' ⟨b, o + i * 5 + 3, none⟩ 0 2 = some [s2, i2] := fun w'' h => cellsAt_of [s2, i2] 0 (fun j u hu => h.cell (by
      have := hcell (3 + j) u (sub_get (xs := [s2, i2]) rfl hu)
      simpa [Nat.add_assoc] using this) id)
    have q2' : ∀ w'' : World, Kept (fun _ => False) wx w'' → cellsAt w'' ⟨b', o' + i * 5 + 3, none⟩ 0 2 = some [s2', i2'] := fun w'' h => cellsAt_of [s2', i2'] 0 (fun j u hu => h.cell (by
      have := hcell' (3 + j) u (sub_get (xs := [s2', i2']) rfl hu)
      simpa [Nat.add_assoc] using this) id)
    have m0 := kd.cell e0 id
    have m0' := kd.cell g0' id
    have n0 := q0 _ kd
    have n0' := q0' _ kd
    have n1 := q1 _ kd
    have n1' := q1' _ kd
    simp -dsimp only [push_cast, Nat.reduceAdd, Nat.reduceLeDiff, Nat.reduceBEq, decide_true, ne_eq, eq_self, not_true_eq_false, not_false_eq_true, true_imp_iff, false_imp_iff, Int.reduceNe, Int.reduceEq, Int.reduceLT, Int.reduceLE, Bool.not_true, Bool.not_false, m0, m0', n0, n0', n1, n1', beq_self_eq_true]
    have E0 : ∀ w'' : World, Kept (fun _ => False) wx w'' → w''.cell? ⟨w.heap.size, 0, none⟩ = some (.slice (some ⟨b, o, none⟩) p.rules.length c) := fun w'' h => h.cell e0 id
    have G0 : ∀ w'' : World, Kept (fun _ => False) wx w'' → w''.cell? ⟨w1.heap.size, 0, none⟩ = some (.slice (some ⟨b', o', none⟩) p.rules.length c') := fun w'' h => h.cell g0' id
    refine ⟨fun w'' hC => by rw [E0 w'' hC]; exact rfl, ⟨by omega, by omega⟩, fun w'' hC => by rw [q0 w'' hC]; exact rfl, fun w'' hC => by rw [G0 w'' hC]; exact rfl, ⟨by omega, by omega⟩, fun w'' hC => by rw [q0' w'' hC]; exact rfl,
      fun w'' hC => by rw [E0 w'' hC]; exact rfl, ⟨by omega, by omega⟩, fun w'' hC => by rw [q1 w'' hC]; exact rfl, fun w'' hC => by rw [G0 w'' hC]; exact rfl, ⟨by omega, by omega⟩, fun w'' hC => by rw [q1' w'' hC]; exact rfl, ?_⟩
    have hbd : Below wx.heap.size wx wx.drew := (Below.refl _ _).drew
    refine callK_of (sameCode_c r.before (hl2 r hrm).1 X X' _ _ wx.drew (hc1.below hbd) (hc1'.below hbd)) ?_
    rintro _ w3 ⟨rfl, hb3⟩
    have hb3' : Below wx.heap.size wx w3 := hbd.trans hb3
    have k3 : Kept (fun _ => False) wx w3 := Kept.of_below hb3' (fun k hk hl => by omega)
    refine ⟨k3, ?_⟩
    have M0 := E0 _ k3
    have M0' := G0 _ k3
    have M2 := q2 _ k3
    have M2' := q2' _ k3
    simp -dsimp only [push_cast, Nat.reduceAdd, Nat.reduceLeDiff, Nat.reduceBEq, decide_true, ne_eq, eq_self, not_true_eq_false, not_false_eq_true, true_imp_iff, false_imp_iff, Int.reduceNe, Int.reduceEq, Int.reduceLT, Int.reduceLE, Bool.not_true, Bool.not_false, M0, M0', M2, M2']
    refine ⟨fun w'' hC => by rw [E0 w'' hC]; exact rfl, ⟨by omega, by omega⟩, fun w'' hC => by rw [q2 w'' hC]; exact rfl, fun w'' hC => by rw [G0 w'' hC]; exact rfl, ⟨by omega, by omega⟩, fun w'' hC => by rw [q2' w'' hC]; exact rfl, ?_⟩
    refine callK_of (sameCode_c r.after (hl2 r hrm).2 X X' _ _ w3 (hc2.below hb3') (hc2'.below hb3')) ?_
    rintro _ w4 ⟨rfl, hb4⟩
    have hb4' : Below wx.heap.size wx w4 := hb3'.trans (hb4.mono hb3'.size)
    refine ⟨Kept.of_below hb4' (fun k hk hl => by omega), ?_⟩
    simp -dsimp only [push_cast, Nat.reduceAdd, Nat.reduceLeDiff, Nat.reduceBEq, decide_true, ne_eq, eq_self, not_true_eq_false, not_false_eq_true, true_imp_iff, false_imp_iff, Int.reduceNe, Int.reduceEq, Int.reduceLT, Int.reduceLE, Bool.not_true, Bool.not_false]
    exact ⟨⟨by omega, by omega⟩, ⟨i + 1, rfl, by omega, hb.trans (hb4'.mono szx)⟩, by rw [h5]; simp only [intOf]; omega⟩

theorem lsmall_c (c : CodeP) (X : Nat → Prop) (v : Value) (w : World) (hv : CodeV X w v c) :
    Fun Tryd.prog 16 [v] w fun r w' => r = .bool (smallP c) ∧ Below w.heap.size w w' := by
  obtain ⟨sv, iv, rfl, hsv, hiv⟩ := hv
  obtain ⟨a1, c1, rfl, hc1⟩ := hsv.shape
  obtain ⟨a2, c2, rfl, hc2⟩ := hiv.shape
  have hno : ¬ (c.sets.length ≤ 20 ∧ c.ins.length ≤ 60 ∧ ∀ s ∈ c.sets, s.length ≤ 20) → Value.bool false = Value.bool (smallP c) := fun h => by
    cases hs : smallP c with
    | false => rfl
    | true =>
      unfold smallP at hs
      simp only [Bool.and_eq_true, decide_eq_true_eq, List.all_eq_true] at hs
      exact absurd ⟨hs.1.1, hs.1.2, hs.2⟩ h
  refine fun_of_vc Tryd.func16 rfl (by kernel_rfl) [2] rfl ?_
  simp -dsimp only [push_cast, fr0, Tryd.ntmps16, List.length_cons, List.length_nil, Nat.reduceAdd, Nat.reduceSub, Nat.reduceBEq, List.replicate_succ, List.replicate_zero]
  refine boxK_of ?_
  intro w1 hw1
  have hw1 : New w w1 25 [.slice a1 c.sets.length c1, .slice a2 c.ins.length c2] := hw1
  have sz1 := hw1.size
  have d0 : w1.cell? ⟨w.heap.size, 0, none⟩ = some (.slice a1 c.sets.length c1) := hw1.cell rfl
  have d1 : w1.cell? ⟨w.heap.size, 1, none⟩ = some (.slice a2 c.ins.length c2) := hw1.cell rfl
  simp -dsimp only [push_cast, Nat.reduceAdd, Nat.reduceLeDiff, Nat.reduceBEq, decide_true, ne_eq, eq_self, not_true_eq_false, not_false_eq_true, true_imp_iff, false_imp_iff, Int.reduceNe, Int.reduceEq, Int.reduceLT, Int.reduceLE, Bool.not_true, Bool.not_false, d0, d1]
  refine ⟨fun h20 => ⟨fun h60 => ⟨hno (by omega), hw1.below⟩, fun h60 => ?_⟩, fun h20 => ⟨hno (by omega), hw1.below⟩⟩
  refine wpL_loop [2, 3, 14, 15, 16, 17, 18, 19, 20, 21, 22, 23, 24, 25, 26, 27] (fun z wx => ∃ (i : Nat), z 3 = .int .i64 i ∧ i ≤ c.sets.length ∧ (∀ s ∈ c.sets.take i, s.length ≤ 20) ∧ wx = w1) (fun z _ => c.sets.length - (intOf (z 3)).toNat) ?_ ?_
  · exact ⟨0, rfl, Nat.zero_le _, by simp, rfl⟩
  · intro z wx hI
    obtain ⟨i, h3, hi, hok, hw⟩ := hI
    subst hw
    simp -dsimp only [push_cast, Nat.reduceAdd, Nat.reduceLeDiff, Nat.reduceBEq, decide_true, h3, d0]
    refine ⟨fun hlt => ?_, fun hge => ?_⟩
    · obtain ⟨s, hex⟩ := lt_get (l := c.sets) (i := i) (by omega)
      have hsm := hex.2.1
      have ht := hex.2.2.2
      have hget := Sl.getR (SetsV.below hsv hw1.below) hex.1
      obtain ⟨b, o, cs, rfl, hX, hk, hcell, u, rfl, hu⟩ := hget
      have hsh := hu.shape
      obtain ⟨a3, c3, rfl, hc3⟩ := hsh
      have cu : wx.cell? ⟨b, o + i, none⟩ = some (.slice a3 s.length c3) := by simpa using hcell 0 _ rfl
      simp -dsimp only [push_cast, Nat.reduceAdd, Nat.reduceLeDiff, Nat.reduceBEq, decide_true, d0, cu]
      refine ⟨⟨by omega, by omega⟩, fun hbig => ⟨hno (fun h => by have := h.2.2 s hsm; omega), hw1.below⟩, fun hle => ?_⟩
      refine ⟨⟨by omega, by omega⟩, ⟨i + 1, rfl, by omega, ?_⟩, by rw [h3]; simp only [intOf]; omega⟩
      intro y hy
      rw [ht, List.mem_append, List.mem_singleton] at hy
      rcases hy with hy | rfl
      · exact hok y hy
      · omega
    · rw [List.take_of_length_le (by omega)] at hok
      refine ⟨?_, hw1.below⟩
      congr 1
      unfold smallP
      rw [decide_eq_true (by omega), Bool.true_and]
      exact (List.all_eq_true.2 (fun s hs => decide_eq_true (hok s hs))).symm

/-- smallProgram, as the statements ask. -/
def smallProgP (p : ProgP) : Bool := decide (p.rules.length ≤ 25) && p.rules.all fun r => smallP r.before && smallP r.after

theorem lsmallProgram_c (p : ProgP) (X : Nat → Prop) (v : Value) (w : World) (hv : ProgV X w v p) :
    Fun Tryd.prog 17 [v] w fun u w' => u = .bool (smallProgP p) ∧ Below w.heap.size w w' := by
  obtain ⟨rv, rfl, hr⟩ := hv
  obtain ⟨a, c, rfl, hc⟩ := hr.shape
  have hno : ¬ (p.rules.length ≤ 25 ∧ ∀ r ∈ p.rules, smallP r.before = true ∧ smallP r.after = true) → Value.bool false = Value.bool (smallProgP p) := fun h => by
    cases hs : smallProgP p with
    | false => rfl
    | true =>
      unfold smallProgP at hs
      simp only [Bool.and_eq_true, decide_eq_true_eq, List.all_eq_true] at hs
      exact absurd hs h
  refine fun_of_vc Tryd.func17 rfl (by kernel_rfl) [2] rfl ?_
  simp -dsimp only [push_cast, fr0, Tryd.ntmps17, List.length_cons, List.length_nil, Nat.reduceAdd, Nat.reduceSub, Nat.reduceBEq, List.replicate_succ, List.replicate_zero]
  refine boxK_of ?_
  intro w1 hw1
  have hw1 : New w w1 43 [.slice a p.rules.length c, .bool p.els] := hw1
  have sz1 := hw1.size
  have d0 : w1.cell? ⟨w.heap.size, 0, none⟩ = some (.slice a p.rules.length c) := hw1.cell rfl
  simp -dsimp only [push_cast, Nat.reduceAdd, Nat.reduceLeDiff, Nat.reduceBEq, decide_true, ne_eq, eq_self, not_true_eq_false, not_false_eq_true, true_imp_iff, false_imp_iff, Int.reduceNe, Int.reduceEq, Int.reduceLT, Int.reduceLE, Bool.not_true, Bool.not_false, d0]
  refine ⟨fun h25 => ⟨hno (by omega), hw1.below⟩, fun h25 => ?_⟩
  refine wpL_loop [2, 3, 8, 9, 10, 11, 12, 13, 14, 15, 16, 17, 18, 19, 20, 21, 22, 23, 24, 25, 26, 27, 28, 29, 30, 31, 32] (fun z wx => ∃ (i : Nat), z 3 = .int .i64 i ∧ i ≤ p.rules.length ∧ (∀ r ∈ p.rules.take i, smallP r.before = true ∧ smallP r.after = true) ∧ Below w1.heap.size w1 wx) (fun z _ => p.rules.length - (intOf (z 3)).toNat) ?_ ?_
  · exact ⟨0, rfl, Nat.zero_le _, by simp, Below.refl _ _⟩
  · intro z wx hI
    obtain ⟨i, h3, hi, hok, hb⟩ := hI
    have hLx := hw1.below.trans (hb.mono (by omega))
    have szx := hb.size
    have hBx := hw1.blk.below hb (by omega)
    have e0 : wx.cell? ⟨w.heap.size, 0, none⟩ = some (.slice a p.rules.length c) := hBx.cell rfl
    simp -dsimp only [push_cast, Nat.reduceAdd, Nat.reduceLeDiff, Nat.reduceBEq, decide_true, h3, e0]
    refine ⟨fun hlt => ?_, fun hge => ?_⟩
    · obtain ⟨r, hex⟩ := lt_get (l := p.rules) (i := i) (by omega)
      have hrm := hex.2.1
      have ht := hex.2.2.2
      have hget := Sl.getR (PairsV.below hr hLx) hex.1
      obtain ⟨b, o, cs, rfl, hX, hk, hcell, s1, i1, s2, i2, rfl, hc1, hc2⟩ := hget
      have q1 : cellsAt wx ⟨b, o + i * 5 + 1, none⟩ 0 2 = some [s1, i1] := cellsAt_of [s1, i1] 0 (fun j u hu => by
        have := hcell (1 + j) u (sub_get (xs := [s1, i1]) rfl hu)
        simpa [Nat.add_assoc] using this)
      simp -dsimp only [push_cast, Nat.reduceAdd, Nat.reduceLeDiff, Nat.reduceBEq, decide_true, e0, q1]
      refine ⟨⟨by omega, by omega⟩, ?_⟩
      refine callK_of (lsmall_c r.before X _ wx hc1) ?_
      rintro _ w2 ⟨rfl, hb2⟩
      have hb12 := hb.trans (hb2.mono szx)
      have hL2 := hLx.trans (hb2.mono hLx.size)
      have e2 : w2.cell? ⟨w.heap.size, 0, none⟩ = some (.slice (some ⟨b, o, none⟩) p.rules.length c) := (hBx.below hb2 hBx.lt).cell rfl
      have q2 : cellsAt w2 ⟨b, o + i * 5 + 3, none⟩ 0 2 = some [s2, i2] := cellsAt_of [s2, i2] 0 (fun j u hu => by
        have h0 := hcell (3 + j) u (sub_get (xs := [s2, i2]) rfl hu)
        have := (hb2.cell (World.block_lt_of_cell? wx _ h0)).trans h0
        simpa [Nat.add_assoc] using this)
      cases hs1 : smallP r.before with
      | false =>
        simp -dsimp only [push_cast, Nat.reduceAdd, Nat.reduceLeDiff, Nat.reduceBEq, decide_true, ne_eq, eq_self, not_true_eq_false, not_false_eq_true, true_imp_iff, false_imp_iff, Int.reduceNe, Int.reduceEq, Int.reduceLT, Int.reduceLE, Bool.not_true, Bool.not_false]
        exact ⟨hno (fun h => by have := (h.2 r hrm).1; rw [hs1] at this; cases this), hL2⟩
      | true =>
        simp -dsimp only [push_cast, Nat.reduceAdd, Nat.reduceLeDiff, Nat.reduceBEq, decide_true, ne_eq, eq_self, not_true_eq_false, not_false_eq_true, true_imp_iff, false_imp_iff, Int.reduceNe, Int.reduceEq, Int.reduceLT, Int.reduceLE, Bool.not_true, Bool.not_false, e2, q2]
        refine ⟨⟨by omega, by omega⟩, ?_⟩
        refine callK_of (lsmall_c r.after X _ w2 (hc2.below hb2)) ?_
        rintro _ w3 ⟨rfl, hb3⟩
        cases hs2 : smallP r.after with
        | false =>
          simp -dsimp only [push_cast, Nat.reduceAdd, Nat.reduceLeDiff, Nat.reduceBEq, decide_true, ne_eq, eq_self, not_true_eq_false, not_false_eq_true, true_imp_iff, false_imp_iff, Int.reduceNe, Int.reduceEq, Int.reduceLT, Int.reduceLE, Bool.not_true, Bool.not_false]
          exact ⟨hno (fun h => by have := (h.2 r hrm).2; rw [hs2] at this; cases this), hL2.trans (hb3.mono hL2.size)⟩
        | true =>
          simp -dsimp only [push_cast, Nat.reduceAdd, Nat.reduceLeDiff, Nat.reduceBEq, decide_true, ne_eq, eq_self, not_true_eq_false, not_false_eq_true, true_imp_iff, false_imp_iff, Int.reduceNe, Int.reduceEq, Int.reduceLT, Int.reduceLE, Bool.not_true, Bool.not_false]
          refine ⟨⟨by omega, by omega⟩, ⟨i + 1, rfl, by omega, ?_, hb12.trans (hb3.mono hb12.size)⟩, by rw [h3]; simp only [intOf]; omega⟩
          intro y hy
          rw [ht, List.mem_append, List.mem_singleton] at hy
          rcases hy with hy | rfl
          · exact hok y hy
          · exact ⟨hs1, hs2⟩
    · rw [List.take_of_length_le (by omega)] at hok
      refine ⟨?_, hLx⟩
      congr 1
      unfold smallProgP
      rw [decide_eq_true (by omega), Bool.true_and]
      exact (List.all_eq_true.2 (fun r hr => by rw [(hok r hr).1, (hok r hr).2]; rfl)).symm
end Go.Proofs.YtimjpijbcnjaaaaDoor
