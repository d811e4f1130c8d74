import Derived.Test.YtimjpijbcnjaaaaDoorRight
namespace Go.Proofs.YtimjpijbcnjaaaaDoor
open Go.Vc Go.Proofs Go.RowKit Cae
set_option maxRecDepth 100000
set_option linter.unusedSimpArgs false
set_option linter.unusedVariables false
attribute [local irreducible] wpL callK valK unitK runK Fun Sl Own vc vcOps opK pureK
set_option maxHeartbeats 4000000

/-- A set that a list of sets holds. -/
def SetR (X : Nat → Prop) (w : World) : List Value → List Rg → Prop := fun cs s => ∃ u, cs = [u] ∧ Sl X 2 (En encR) w u s
def SetsV (X : Nat → Prop) (w : World) (v : Value) (l : List (List Rg)) : Prop := Sl X 1 (SetR X w) w v l
def CodeV (X : Nat → Prop) (w : World) (v : Value) (c : CodeP) : Prop := ∃ sv iv, v = .agg #[sv, iv] ∧ SetsV X w sv c.sets ∧ Sl X 3 (En encIn) w iv c.ins

theorem SetR.mono {X X' : Nat → Prop} {w w' : World} {cs : List Value} {s : List Rg} (h : SetR X w cs s) (hs : ∀ b, ¬ X b → b < w.heap.size → w'.heap[b]? = w.heap[b]?) (hX : ∀ b, X' b → X b) : SetR X' w' cs s := by
  obtain ⟨u, rfl, h⟩ := h
  exact ⟨u, rfl, h.mono hs (fun _ _ _ h => h) hX⟩
theorem SetsV.mono {X X' : Nat → Prop} {w w' : World} {v : Value} {l : List (List Rg)} (h : SetsV X w v l) (hs : ∀ b, ¬ X b → b < w.heap.size → w'.heap[b]? = w.heap[b]?) (hX : ∀ b, X' b → X b) : SetsV X' w' v l :=
  Sl.mono h hs (fun _ _ _ h => h.mono hs hX) hX
theorem CodeV.mono {X X' : Nat → Prop} {w w' : World} {v : Value} {c : CodeP} (h : CodeV X w v c) (hs : ∀ b, ¬ X b → b < w.heap.size → w'.heap[b]? = w.heap[b]?) (hX : ∀ b, X' b → X b) : CodeV X' w' v c := by
  obtain ⟨sv, iv, rfl, h1, h2⟩ := h
  exact ⟨sv, iv, rfl, h1.mono hs hX, h2.mono hs (fun _ _ _ h => h) hX⟩
theorem SetsV.below {X : Nat → Prop} {w w' : World} {v : Value} {l : List (List Rg)} (h : SetsV X w v l) (hb : Below w.heap.size w w') : SetsV X w' v l := h.mono (fun b _ hlt => hb.block b hlt) (fun _ h => h)
theorem CodeV.below {X : Nat → Prop} {w w' : World} {v : Value} {c : CodeP} (h : CodeV X w v c) (hb : Below w.heap.size w w') : CodeV X w' v c := h.mono (fun b _ hlt => hb.block b hlt) (fun _ h => h)
theorem SetsV.kept {X Y : Nat → Prop} {w w' : World} {v : Value} {l : List (List Rg)} (h : SetsV X w v l) (hb : Kept Y w w') (hY : ∀ i, Y i → X i) : SetsV X w' v l := h.mono (fun b hx hlt => hb.block b hlt fun hh => hx (hY b hh)) (fun _ h => h)
theorem CodeV.kept {X Y : Nat → Prop} {w w' : World} {v : Value} {c : CodeP} (h : CodeV X w v c) (hb : Kept Y w w') (hY : ∀ i, Y i → X i) : CodeV X w' v c := h.mono (fun b hx hlt => hb.block b hlt fun hh => hx (hY b hh)) (fun _ h => h)

theorem rightAt_c (k n : Int) (b : Nat) (w : World) (hn : w.cell? ⟨b, 0, none⟩ = some (.int .i64 n)) :
    Fun Tryd.prog 81 [.int .i64 k, .pointer (some ⟨b, 0, none⟩)] w fun r w' => r = .bool (decide (0 ≤ k ∧ k < n)) ∧ w' = w := by
  refine fun_of_vc Tryd.func81 rfl (by kernel_rfl) [3] rfl ?_
  simp -dsimp only [push_cast, fr0, Tryd.ntmps81, List.length_cons, List.length_nil, Nat.reduceAdd, Nat.reduceSub, Nat.reduceBEq, List.replicate_succ, List.replicate_zero]
  simp -dsimp only [push_cast, Nat.reduceAdd, Nat.reduceLeDiff, Nat.reduceBEq, decide_true, hn]
  constructor
  · intro h; simp [h]
  · intro h; simp [h]

theorem right_c (x : I3) (sets n : Int) (w : World) :
    Fun Tryd.prog 45 [.agg #[.int .i64 x.op, .int .i64 x.a, .int .i64 x.b], .int .i64 sets, .int .i64 n] w fun r w' => r = .bool (insRight x sets n) ∧ Below w.heap.size w w' := by
  refine fun_of_vc Tryd.func45 rfl (by kernel_rfl) [6] rfl ?_
  simp -dsimp only [push_cast, fr0, Tryd.ntmps45, List.length_cons, List.length_nil, Nat.reduceAdd, Nat.reduceSub, Nat.reduceBEq, List.replicate_succ, List.replicate_zero]
  refine boxK_of ?_
  intro w1 hw1
  simp -dsimp only [push_cast, Nat.reduceAdd, Nat.reduceLeDiff, Nat.reduceBEq, decide_true]
  refine boxK_of ?_
  intro w2 hw2
  have hb : Below w.heap.size w w2 := hw1.below.trans (hw2.below.mono (by have := hw1.size; omega))
  have g : ∀ {j u}, [Value.int .i64 x.op, .int .i64 x.a, .int .i64 x.b][j]? = some u → w2.cell? ⟨w.heap.size, j, none⟩ = some u := fun {j u} h => (hw2.below.cell (by have := hw1.size; show w.heap.size < _; omega)).trans (hw1.cell h)
  have c0 : w2.cell? ⟨w.heap.size, 0, none⟩ = some (.int .i64 x.op) := g rfl
  have c1 : w2.cell? ⟨w.heap.size, 1, none⟩ = some (.int .i64 x.a) := g rfl
  have c2 : w2.cell? ⟨w.heap.size, 2, none⟩ = some (.int .i64 x.b) := g rfl
  have cn : w2.cell? ⟨w1.heap.size, 0, none⟩ = some (.int .i64 n) := hw2.cell0
  simp -dsimp only [push_cast, Nat.reduceAdd, Nat.reduceLeDiff, Nat.reduceBEq, decide_true, c0, c1, c2]
  unfold insRight
  refine ⟨fun h1 => ?_, fun h1 => ⟨fun h2 => ?_, fun h2 => ⟨fun h3 => ?_, fun h3 => ?_⟩⟩⟩
  · rw [if_pos h1]
    repeat' first | apply And.intro | intro _
    all_goals first | exact hb | (congr 1; rw [decide_eq_decide]; omega) | (congr 1; exact (decide_eq_false (by omega)).symm) | (congr 1; exact (decide_eq_true (by omega)).symm) | omega
  · rw [if_neg h1, if_pos h2]
    refine callK_of (rightAt_c _ n _ w2 cn) ?_
    rintro _ w3 ⟨rfl, hw⟩
    subst hw
    simp -dsimp only [push_cast, Nat.reduceAdd, Nat.reduceLeDiff, Nat.reduceBEq, decide_true, c1, c2]
    refine ⟨fun ha => ?_, fun ha => ⟨by congr 1; exact (decide_eq_false (by omega)).symm, hb⟩⟩
    refine callK_of (rightAt_c _ n _ w3 cn) ?_
    rintro _ w4 ⟨rfl, hw⟩
    subst hw
    simp -dsimp only [push_cast, Nat.reduceAdd, Nat.reduceLeDiff, Nat.reduceBEq, decide_true]
    exact ⟨by congr 1; rw [decide_eq_decide]; omega, hb⟩
  · rw [if_neg h1, if_neg h2, if_pos h3]
    refine callK_of (rightAt_c _ n _ w2 cn) ?_
    rintro _ w3 ⟨rfl, hw⟩
    subst hw
    simp -dsimp only [push_cast, Nat.reduceAdd, Nat.reduceLeDiff, Nat.reduceBEq, decide_true, c1, c2]
    repeat' first | apply And.intro | intro _
    all_goals first | exact hb | (congr 1; rw [decide_eq_decide]; omega) | (congr 1; exact (decide_eq_false (by omega)).symm) | (congr 1; exact (decide_eq_true (by omega)).symm) | omega
  · rw [if_neg h1, if_neg h2, if_neg h3]
    refine ⟨fun h4 => ?_, fun h4 => ⟨fun h5 => ?_, fun h5 => ?_⟩⟩
    · rw [if_pos (.inl h4)]
      repeat' first | apply And.intro | intro _
      all_goals first | exact hb | (congr 1; rw [decide_eq_decide]; omega) | (congr 1; exact (decide_eq_false (by omega)).symm) | (congr 1; exact (decide_eq_true (by omega)).symm) | omega
    · rw [if_pos (.inr h5)]
      repeat' first | apply And.intro | intro _
      all_goals first | exact hb | (congr 1; rw [decide_eq_decide]; omega) | (congr 1; exact (decide_eq_false (by omega)).symm) | (congr 1; exact (decide_eq_true (by omega)).symm) | omega
    · rw [if_neg (by omega)]; exact ⟨rfl, hb⟩

/-- The closures of Right. -/
theorem rightIns_c (x : I3) (bc bn : Nat) (a : Option Addr) (m cp : Nat) (n : Int) (w : World) (hc : w.cell? ⟨bc, 0, none⟩ = some (.slice a m cp)) (hn : w.cell? ⟨bn, 0, none⟩ = some (.int .i64 n)) :
    Fun Tryd.prog 44 [.agg #[.int .i64 x.op, .int .i64 x.a, .int .i64 x.b], .pointer (some ⟨bc, 0, none⟩), .pointer (some ⟨bn, 0, none⟩)] w fun r w' => r = .bool (!insRight x m n) ∧ Below w.heap.size w w' := by
  refine fun_of_vc Tryd.func44 rfl (by kernel_rfl) [4] rfl ?_
  simp -dsimp only [push_cast, fr0, Tryd.ntmps44, List.length_cons, List.length_nil, Nat.reduceAdd, Nat.reduceSub, Nat.reduceBEq, List.replicate_succ, List.replicate_zero]
  refine boxK_of ?_
  intro w1 hw1
  have d0 : cellsAt w1 ⟨w.heap.size, 0, none⟩ 0 3 = some [.int .i64 x.op, .int .i64 x.a, .int .i64 x.b] := hw1.blk.cellsAt
  have dc : w1.cell? ⟨bc, 0, none⟩ = some (.slice a m cp) := (Kept.new hw1 (X := fun _ => False)).cell hc id
  have dn : w1.cell? ⟨bn, 0, none⟩ = some (.int .i64 n) := (Kept.new hw1 (X := fun _ => False)).cell hn id
  simp -dsimp only [push_cast, Nat.reduceAdd, Nat.reduceLeDiff, Nat.reduceBEq, decide_true, d0, dc, dn]
  refine callK_of (right_c x m n w1) ?_
  rintro _ w2 ⟨rfl, hb2⟩
  simp -dsimp only [push_cast, Nat.reduceAdd, Nat.reduceLeDiff, Nat.reduceBEq, decide_true]
  exact hw1.below.trans (hb2.mono (by have := hw1.size; omega))

theorem rightSet_c (s : List Rg) (hs : s.length < 1000000000) (X : Nat → Prop) (v : Value) (w : World) (hv : Sl X 2 (En encR) w v s) :
    Fun Tryd.prog 46 [v] w fun r w' => r = .bool (!setRight (-2) s) ∧ Below w.heap.size w w' := by
  refine fun_of_vc Tryd.func46 rfl (by kernel_rfl) [2] rfl ?_
  simp -dsimp only [push_cast, fr0, Tryd.ntmps46, List.length_cons, List.length_nil, Nat.reduceAdd, Nat.reduceSub, Nat.reduceBEq, List.replicate_succ, List.replicate_zero]
  refine callK_of (setRight_c s hs X v w hv) ?_
  rintro _ w1 ⟨rfl, hb⟩
  simp -dsimp only [push_cast, Nat.reduceAdd, Nat.reduceLeDiff, Nat.reduceBEq, decide_true]
  exact hb

/-- Sets that are not too long for the model's numbers. -/
def SetsLen (c : CodeP) : Prop := ∀ s ∈ c.sets, s.length < 1000000000

theorem any_not {α : Type} (l : List α) (f : α → Bool) : (!(l.any fun x => !f x)) = l.all f := by
  induction l with
  | nil => rfl
  | cons x l ih => simp only [List.any_cons, List.all_cons, Bool.not_or, Bool.not_not, ih]

theorem Right_c (c : CodeP) (hl : SetsLen c) (hi : c.ins.length < 1000000000) (hs : c.sets.length < 1000000000) (X : Nat → Prop) (v : Value) (w : World) (hv : CodeV X w v c) :
    Fun Tryd.prog 11 [v] w fun r w' => r = .bool (codeRight c) ∧ Below w.heap.size w w' := by
  obtain ⟨sv, iv, rfl, hsv, hiv⟩ := hv
  obtain ⟨a1, c1, rfl, hc1⟩ := hsv.shape
  obtain ⟨a2, c2, rfl, hc2⟩ := hiv.shape
  refine fun_of_vc Tryd.func11 rfl (by kernel_rfl) [2] rfl ?_
  simp -dsimp only [push_cast, fr0, Tryd.ntmps11, List.length_cons, List.length_nil, Nat.reduceAdd, Nat.reduceSub, Nat.reduceBEq, List.replicate_succ, List.replicate_zero]
  refine boxK_of ?_
  intro w1 hw1
  have d0 : w1.cell? ⟨w.heap.size, 0, none⟩ = some (.slice a1 c.sets.length c1) := hw1.cell rfl
  have d1 : w1.cell? ⟨w.heap.size, 1, none⟩ = some (.slice a2 c.ins.length c2) := hw1.cell rfl
  simp -dsimp only [push_cast, Nat.reduceAdd, Nat.reduceLeDiff, Nat.reduceBEq, decide_true, d0, d1]
  refine allocK (z := [.int .i64 0]) (by kernel_rfl) ?_
  intro w2 hw2
  simp -dsimp only [push_cast, Nat.reduceAdd, Nat.reduceLeDiff, Nat.reduceBEq, decide_true]
  refine storeK_of hw2.blk (by simp) rfl ?_
  intro w3 hw3
  have hb3 : Below w.heap.size w w3 := hw1.below.trans ((hw2.below.mono (by have := hw1.size; omega)).trans (hw3.kept.below (by have := hw1.size; have := hw2.size; omega) (fun _ h => by have := hw1.size; omega)))
  have e0 : w3.cell? ⟨w.heap.size, 0, none⟩ = some (.slice a1 c.sets.length c1) := hw3.kept.cell ((Kept.new hw2 (X := fun _ => False)).cell d0 id) (by have := hw1.size; show ¬ w.heap.size = w1.heap.size; omega)
  have e1 : w3.cell? ⟨w.heap.size, 1, none⟩ = some (.slice a2 c.ins.length c2) := hw3.kept.cell ((Kept.new hw2 (X := fun _ => False)).cell d1 id) (by have := hw1.size; show ¬ w.heap.size = w1.heap.size; omega)
  have en : w3.cell? ⟨w1.heap.size, 0, none⟩ = some (.int .i64 c.ins.length) := hw3.blk.cell rfl
  simp -dsimp only [push_cast, Nat.reduceAdd, Nat.reduceLeDiff, Nat.reduceBEq, decide_true, en, e0, e1]
  have hno : ¬ (1 ≤ c.ins.length ∧ c.ins.length ≤ 2000 ∧ c.sets.length ≤ 2000) → Value.bool false = Value.bool (codeRight c) := fun h => by
    congr 1; unfold codeRight; rw [decide_eq_false h]; rfl
  refine ⟨fun h1 => ⟨fun h2 => ⟨fun h3 => ⟨⟨by omega, by omega⟩, ?_⟩, fun h3 => ⟨hno (by omega), hb3⟩⟩, fun h2 => ⟨hno (by omega), hb3⟩⟩, fun h1 => ⟨hno (by omega), hb3⟩⟩
  obtain ⟨x, hx, hxm, _, _⟩ := lt_get (l := c.ins) (i := c.ins.length - 1) (by omega)
  obtain ⟨b, o, rfl, hX, hcell⟩ := (hiv.below hb3).get hx
  have c0 : w3.cell? ⟨b, o + (c.ins.length - 1) * 3, none⟩ = some (.int .i64 x.op) := hcell 0 _ rfl
  have eidx : ((c.ins.length : Int) - 1).toNat = c.ins.length - 1 := by omega
  simp -dsimp only [push_cast, Nat.reduceAdd, Nat.reduceLeDiff, Nat.reduceBEq, decide_true, eidx, c0]
  have hlast : (x.op = 1 ∨ x.op = 4) → Value.bool false = Value.bool (codeRight c) := fun h => by
    congr 1; unfold codeRight; rw [hx]; dsimp only
    rw [decide_eq_false (p := x.op ≠ 1 ∧ x.op ≠ 4) (by omega)]; simp
  refine ⟨⟨by omega, by omega⟩, fun ho1 => ?_, fun ho1 => ⟨hlast (.inl ho1), hb3⟩⟩
  simp -dsimp only [push_cast, Nat.reduceAdd, Nat.reduceLeDiff, Nat.reduceBEq, decide_true, eidx, en, e1, c0]
  refine ⟨⟨by omega, by omega⟩, ⟨by omega, by omega⟩, fun ho4 => ⟨hlast (.inr ho4), hb3⟩, fun ho4 => ?_⟩
  have hall : codeRight c = (c.ins.all (fun x => insRight x c.sets.length c.ins.length) && c.sets.all (setRight (-2))) := by
    unfold codeRight
    rw [hx]
    dsimp only
    rw [decide_eq_true (by omega), decide_eq_true ⟨ho1, ho4⟩, Bool.true_and, Bool.true_and]
  refine callK_of (insContains_c (En encIn) 44 [.pointer (some ⟨w.heap.size, 0, none⟩), .pointer (some ⟨w1.heap.size, 0, none⟩)] (fun x => !insRight x c.sets.length c.ins.length) c.ins (by omega) X _ w3 (hiv.below hb3) ?_) ?_
  · rintro y hy cs rfl _ w' hb'
    exact rightIns_c y w.heap.size w1.heap.size a1 c.sets.length c1 c.ins.length w' ((hb'.cell (World.block_lt_of_cell? w3 _ e0)).trans e0) ((hb'.cell (World.block_lt_of_cell? w3 _ en)).trans en)
  rintro _ w4 ⟨rfl, hb4⟩
  have f0 := (hb4.cell (World.block_lt_of_cell? w3 _ e0)).trans e0
  have hB4 := hb3.trans (hb4.mono hb3.size)
  simp -dsimp only [push_cast, Nat.reduceAdd, Nat.reduceLeDiff, Nat.reduceBEq, decide_true, f0]
  rw [any_not]
  cases hA : c.ins.all (fun x => insRight x c.sets.length c.ins.length) with
  | false =>
    simp -dsimp only [push_cast, Nat.reduceAdd, Nat.reduceLeDiff, Nat.reduceBEq, decide_true]
    exact ⟨by rw [hall, hA, Bool.false_and], hB4⟩
  | true =>
    simp -dsimp only [push_cast, Nat.reduceAdd, Nat.reduceLeDiff, Nat.reduceBEq, decide_true, f0]
    refine callK_of (setsContains_c (SetR X w4) 46 [] (fun x => !setRight (-2) x) c.sets (by omega) X _ w4 (hsv.below hB4) ?_) ?_
    · rintro s hsm cs ⟨u, rfl, hu⟩ _ w' hb'
      exact rightSet_c s (hl s hsm) X u w' (hu.below hb')
    rintro _ w5 ⟨rfl, hb5⟩
    simp -dsimp only [push_cast, Nat.reduceAdd, Nat.reduceLeDiff, Nat.reduceBEq, decide_true]
    exact ⟨by rw [any_not, hall, hA, Bool.true_and], hB4.trans (hb5.mono hB4.size)⟩

/-- small, as the statements ask. -/
def smallP (c : CodeP) : Bool := decide (c.sets.length ≤ 20 ∧ c.ins.length ≤ 60) && c.sets.all fun s => decide (s.length ≤ 20)

theorem smallFn_c (s : List Rg) (X : Nat → Prop) (v : Value) (w : World) (hv : Sl X 2 (En encR) w v s) :
    Fun Tryd.prog 40 [v] w fun r w' => r = .bool (!decide (s.length ≤ 20)) ∧ Below w.heap.size w w' := by
  obtain ⟨a, c, rfl, hc⟩ := hv.shape
  refine fun_of_vc Tryd.func40 rfl (by kernel_rfl) [2] rfl ?_
  simp -dsimp only [push_cast, fr0, Tryd.ntmps40, List.length_cons, List.length_nil, Nat.reduceAdd, Nat.reduceSub, Nat.reduceBEq, List.replicate_succ, List.replicate_zero]
  refine ⟨?_, Below.refl _ _⟩
  congr 1
  rw [decide_eq_decide]; omega

theorem small_c (c : CodeP) (X : Nat → Prop) (v : Value) (w : World) (hv : CodeV X w v c) :
    Fun Tryd.prog 8 [v] w fun r w' => r = .bool (smallP c) ∧ Below w.heap.size w w' := by
  obtain ⟨sv, iv, rfl, hsv, hiv⟩ := hv
  obtain ⟨a1, c1, rfl, hc1⟩ := hsv.shape
  obtain ⟨a2, c2, rfl, hc2⟩ := hiv.shape
  refine fun_of_vc Tryd.func8 rfl (by kernel_rfl) [2] rfl ?_
  simp -dsimp only [push_cast, fr0, Tryd.ntmps8, List.length_cons, List.length_nil, Nat.reduceAdd, Nat.reduceSub, Nat.reduceBEq, List.replicate_succ, List.replicate_zero]
  refine boxK_of ?_
  intro w1 hw1
  have d0 : w1.cell? ⟨w.heap.size, 0, none⟩ = some (.slice a1 c.sets.length c1) := hw1.cell rfl
  have d1 : w1.cell? ⟨w.heap.size, 1, none⟩ = some (.slice a2 c.ins.length c2) := hw1.cell rfl
  simp -dsimp only [push_cast, Nat.reduceAdd, Nat.reduceLeDiff, Nat.reduceBEq, decide_true, d0, d1]
  have hno : ¬ (c.sets.length ≤ 20 ∧ c.ins.length ≤ 60) → Value.bool false = Value.bool (smallP c) := fun h => by
    congr 1; unfold smallP; rw [decide_eq_false h]; rfl
  refine ⟨fun h1 => ⟨fun h2 => ?_, fun h2 => ⟨hno (by omega), hw1.below⟩⟩, fun h1 => ⟨hno (by omega), hw1.below⟩⟩
  refine callK_of (setsContains_c (SetR X w1) 40 [] (fun x => !decide (x.length ≤ 20)) c.sets (by omega) X _ w1 (hsv.below hw1.below) ?_) ?_
  · rintro s hsm cs ⟨u, rfl, hu⟩ _ w' hb'
    exact smallFn_c s X u w' (hu.below hb')
  rintro _ w5 ⟨rfl, hb5⟩
  simp -dsimp only [push_cast, Nat.reduceAdd, Nat.reduceLeDiff, Nat.reduceBEq, decide_true]
  refine ⟨?_, hw1.below.trans (hb5.mono hw1.below.size)⟩
  have e := any_not c.sets (fun x => decide (x.length ≤ 20))
  simp only [← decide_not] at e
  rw [e]
  congr 1
  unfold smallP
  rw [decide_eq_true (by omega), Bool.true_and]
end Go.Proofs.YtimjpijbcnjaaaaDoor
