import Derived.Test.YthmkbjmkpdjgjaaDoorConc
namespace Go.Proofs.YthmkbjmkpdjgjaaDoor
open Go.Vc Go.Proofs Go.RowKit Cae
set_option maxRecDepth 100000
set_option linter.unusedSimpArgs false
set_option linter.unusedVariables false
attribute [local irreducible] wpL callK valK unitK runK Fun Sl Own vc vcOps opK pureK
set_option maxHeartbeats 4000000

theorem equalR_c (l l' : List Rg) (hl : l.length < 10000000) (X X' : Nat → Prop) (v v' : Value) (w : World) (hv : Sl X 2 (En encR) w v l) (hv' : Sl X' 2 (En encR) w v' l') :
    Fun Tryd.prog 9 [v, v'] w fun r w' => r = .bool (decide (l = l')) ∧ Below w.heap.size w w' := by
  obtain ⟨a, c, rfl, hc⟩ := hv.shape
  obtain ⟨a', c', rfl, hc'⟩ := hv'.shape
  refine fun_of_vc Tryd.func9 rfl (by kernel_rfl) [4] rfl ?_
  simp -dsimp only [push_cast, fr0, Tryd.ntmps9, List.length_cons, List.length_nil, Nat.reduceAdd, Nat.reduceSub, Nat.reduceBEq, List.replicate_succ, List.replicate_zero]
  refine ⟨fun hne => ⟨?_, Below.refl _ _⟩, fun he => ?_⟩
  · rw [decide_eq_false]
    intro h; subst h; omega
  have he' : l.length = l'.length := by omega
  refine wpL_loop [4, 5, 13, 14, 15, 16, 17, 18, 19, 20, 21, 22, 23, 24, 25] (fun z wx => ∃ (i : Nat), z 13 = .int .i64 i ∧ i ≤ l.length ∧ l.take i = l'.take i ∧ Below w.heap.size w wx) (fun z _ => l.length - (intOf (z 13)).toNat) ?_ ?_
  · exact ⟨0, rfl, Nat.zero_le _, rfl, Below.refl _ _⟩
  · intro z wx hI
    obtain ⟨i, h13, hi, hok, hb⟩ := hI
    simp -dsimp only [push_cast, Nat.reduceAdd, Nat.reduceLeDiff, Nat.reduceBEq, decide_true, h13]
    refine ⟨fun hlt => ?_, fun hge => ?_⟩
    · obtain ⟨x, hx, hxm, hd, ht⟩ := lt_get (l := l) (i := i) (by omega)
      obtain ⟨b, o, rfl, hX, hcell⟩ := (hv.below hb).get hx
      obtain ⟨x', hx', hxm', hd', ht'⟩ := lt_get (l := l') (i := i) (by omega)
      obtain ⟨b', o', rfl, hX', hcell'⟩ := (hv'.below hb).get hx'
      refine wpL_draw (fun w' => ∀ a, w'.cell? a = wx.cell? a) mixed (by kernel_rfl) (fun _ => rfl) ?_
      have g0 : ∀ w'' : World, (∀ a, w''.cell? a = wx.cell? a) → cellsAt w'' ⟨b, o + i * 2, none⟩ 0 2 = some [.int .i64 x.1, .int .i64 x.2] := fun w'' hC => cellsAt_of (encR x) 0 (fun j u hu => by rw [hC]; simpa using hcell j u hu)
      have g0' : ∀ w'' : World, (∀ a, w''.cell? a = wx.cell? a) → cellsAt w'' ⟨b', o' + i * 2, none⟩ 0 2 = some [.int .i64 x'.1, .int .i64 x'.2] := fun w'' hC => cellsAt_of (encR x') 0 (fun j u hu => by rw [hC]; simpa using hcell' j u hu)
      have d0 := g0 wx.drew (fun _ => rfl)
      have d0' := g0' wx.drew (fun _ => rfl)
      simp -dsimp only [push_cast, Nat.reduceAdd, Nat.reduceLeDiff, Nat.reduceBEq, decide_true, d0, d0']
      have hext : ((x.1 = x'.1 ∧ x.2 = x'.2)) ↔ x = x' := by
        cases x; cases x'; simp only [Prod.mk.injEq]
      rw [hext]
      refine ⟨⟨by omega, by omega⟩, fun w'' hC => by rw [g0 w'' hC]; exact rfl, ⟨by omega, by omega⟩, fun w'' hC => by rw [g0' w'' hC]; exact rfl, fun hne => ?_, fun heq => ?_⟩
      · refine ⟨?_, hb.drew⟩
        rw [decide_eq_false]
        intro h; subst h; rw [hx] at hx'; cases hx'; exact hne rfl
      · have heq : x = x' := Classical.byContradiction fun h => heq h
        exact ⟨⟨by omega, by omega⟩, ⟨i + 1, rfl, by omega, by rw [ht, ht', hok, heq], hb.drew⟩, by rw [h13]; simp only [intOf]; omega⟩
    · refine ⟨?_, hb⟩
      rw [List.take_of_length_le (by omega), List.take_of_length_le (by omega)] at hok
      rw [decide_eq_true hok]

/-- 'same': a right set, and the other one. -/
theorem same_c (s t : List Rg) (hs : s.length < 10000000) (hr : setRight (-2) s = true) (X X' : Nat → Prop) (v v' : Value) (w : World) (hv : Sl X 2 (En encR) w v s) (hv' : Sl X' 2 (En encR) w v' t) :
    Fun Tryd.prog 7 [v, v'] w fun r w' => r = .bool (decide (s = t)) ∧ Below w.heap.size w w' := by
  refine fun_of_vc Tryd.func7 rfl (by kernel_rfl) [4] rfl ?_
  simp -dsimp only [push_cast, fr0, Tryd.ntmps7, List.length_cons, List.length_nil, Nat.reduceAdd, Nat.reduceSub, Nat.reduceBEq, List.replicate_succ, List.replicate_zero]
  refine callK_of (setRight_c s (by omega) X v w hv) ?_
  rintro _ w1 ⟨rfl, hb1⟩
  have sz1 := hb1.size
  rw [hr]
  simp -dsimp only [push_cast, Nat.reduceAdd, Nat.reduceLeDiff, Nat.reduceBEq, decide_true, ne_eq, eq_self, not_true_eq_false, not_false_eq_true, true_imp_iff, false_imp_iff, Int.reduceNe, Int.reduceEq, Int.reduceLT, Int.reduceLE, Bool.not_true, Bool.not_false]
  refine callK_of (equalR_c s t hs X X' v v' w1 (hv.below hb1) (hv'.below hb1)) ?_
  rintro _ w2 ⟨rfl, hb2⟩
  simp -dsimp only [push_cast, Nat.reduceAdd, Nat.reduceLeDiff, Nat.reduceBEq, decide_true, ne_eq, eq_self, not_true_eq_false, not_false_eq_true, true_imp_iff, false_imp_iff, Int.reduceNe, Int.reduceEq, Int.reduceLT, Int.reduceLE, Bool.not_true, Bool.not_false]
  exact hb1.trans (hb2.mono sz1)

/-- One range holds a point. -/
theorem inside_c (x : Rg) (p : Int) (g : Nat) (w : World) (hp : w.cell? ⟨g, 0, none⟩ = some (.int .i64 p)) :
    Fun Tryd.prog 17 [.agg #[.int .i64 x.1, .int .i64 x.2], .pointer (some ⟨g, 0, none⟩)] w fun r w' => r = .bool (decide (x.1 ≤ p ∧ p ≤ x.2)) ∧ Below w.heap.size w w' := by
  refine fun_of_vc Tryd.func17 rfl (by kernel_rfl) [3] rfl ?_
  simp -dsimp only [push_cast, fr0, Tryd.ntmps17, List.length_cons, List.length_nil, Nat.reduceAdd, Nat.reduceSub, Nat.reduceBEq, List.replicate_succ, List.replicate_zero]
  refine boxK_of ?_
  intro w1 hw1
  have sz1 := hw1.size
  have hg := World.block_lt_of_cell? w _ hp
  have c0 : w1.cell? ⟨w.heap.size, 0, none⟩ = some (.int .i64 x.1) := hw1.cell rfl
  have c1 : w1.cell? ⟨w.heap.size, 1, none⟩ = some (.int .i64 x.2) := hw1.cell rfl
  have cp : w1.cell? ⟨g, 0, none⟩ = some (.int .i64 p) := (hw1.below.cell hg).trans hp
  simp -dsimp only [push_cast, Nat.reduceAdd, Nat.reduceLeDiff, Nat.reduceBEq, decide_true, ne_eq, eq_self, not_true_eq_false, not_false_eq_true, true_imp_iff, false_imp_iff, Int.reduceNe, Int.reduceEq, Int.reduceLT, Int.reduceLE, Bool.not_true, Bool.not_false, c0, c1, cp]
  refine ⟨fun h => ⟨?_, hw1.below⟩, fun h => ⟨?_, hw1.below⟩⟩
  · congr 1; rw [decide_eq_decide]; exact ⟨fun h2 => ⟨h, h2⟩, fun h2 => h2.2⟩
  · rw [decide_eq_false (fun h2 => h h2.1)]

theorem index_c (l : List Rg) (hl : l.length < 10000000) (p : Int) (g : Nat) (X : Nat → Prop) (v : Value) (w : World) (hv : Sl X 2 (En encR) w v l) (hp : w.cell? ⟨g, 0, none⟩ = some (.int .i64 p)) :
    Fun Tryd.prog 27 [v, .func (.func 17) #[] #[.pointer (some ⟨g, 0, none⟩)]] w fun r w' => (∃ i : Int, r = .int .i64 i ∧ decide (i ≥ 0) = hasP l p) ∧ Below w.heap.size w w' := by
  obtain ⟨a, c, rfl, hc⟩ := hv.shape
  refine fun_of_vc Tryd.func27 rfl (by kernel_rfl) [4] rfl ?_
  simp -dsimp only [push_cast, fr0, Tryd.ntmps27, List.length_cons, List.length_nil, Nat.reduceAdd, Nat.reduceSub, Nat.reduceBEq, List.replicate_succ, List.replicate_zero]
  refine wpL_loop [4, 5, 8, 9, 10, 11, 12, 13, 14, 15, 16, 17, 18] (fun z wx => ∃ (i : Nat), z 8 = .int .i64 i ∧ i ≤ l.length ∧ hasP (l.take i) p = false ∧ Below w.heap.size w wx) (fun z _ => l.length - (intOf (z 8)).toNat) ?_ ?_
  · exact ⟨0, rfl, Nat.zero_le _, rfl, Below.refl _ _⟩
  · intro z wx hI
    obtain ⟨i, h8, hi, hok, hb⟩ := hI
    simp -dsimp only [push_cast, Nat.reduceAdd, Nat.reduceLeDiff, Nat.reduceBEq, decide_true, ne_eq, eq_self, not_true_eq_false, not_false_eq_true, true_imp_iff, false_imp_iff, Int.reduceNe, Int.reduceEq, Int.reduceLT, Int.reduceLE, Bool.not_true, Bool.not_false, h8]
    refine ⟨fun hlt => ?_, fun hge => ?_⟩
    · obtain ⟨x, hx, hxm, hd, ht⟩ := lt_get (l := l) (i := i) (by omega)
      obtain ⟨b, o, rfl, hX, hcell⟩ := (hv.below hb).get hx
      have cx : cellsAt wx ⟨b, o + i * 2, none⟩ 0 2 = some [.int .i64 x.1, .int .i64 x.2] := cellsAt_of (encR x) 0 (fun j u hu => by simpa using hcell j u hu)
      have hg := World.block_lt_of_cell? w _ hp
      simp -dsimp only [push_cast, Nat.reduceAdd, Nat.reduceLeDiff, Nat.reduceBEq, decide_true, ne_eq, eq_self, not_true_eq_false, not_false_eq_true, true_imp_iff, false_imp_iff, Int.reduceNe, Int.reduceEq, Int.reduceLT, Int.reduceLE, Bool.not_true, Bool.not_false, cx]
      refine ⟨⟨by omega, by omega⟩, ?_⟩
      refine callK_of (inside_c x p g wx ((hb.cell hg).trans hp)) ?_
      rintro _ w2 ⟨rfl, hb2⟩
      have hB := hb.trans (hb2.mono hb.size)
      simp -dsimp only [push_cast, Nat.reduceAdd, Nat.reduceLeDiff, Nat.reduceBEq, decide_true, ne_eq, eq_self, not_true_eq_false, not_false_eq_true, true_imp_iff, false_imp_iff, Int.reduceNe, Int.reduceEq, Int.reduceLT, Int.reduceLE, Bool.not_true, Bool.not_false]
      refine ⟨fun hy => ?_, fun hn => ?_⟩
      · refine ⟨?_, hB⟩
        have : hasP l p = true := by
          unfold hasP; rw [List.any_eq_true]; exact ⟨x, hxm, by simpa using hy⟩
        rw [this]; simp
      · refine ⟨⟨by omega, by omega⟩, ⟨i + 1, rfl, by omega, ?_, hB⟩, by rw [h8]; simp only [intOf]; omega⟩
        rw [ht, hasP_app, hok, hasP_cons, hasP_nil, Bool.or_false, Bool.false_or]
        simpa using hn
    · have hin : i = l.length := by omega
      subst hin
      rw [List.take_length] at hok
      refine ⟨?_, hb⟩
      rw [hok]; simp
theorem contains_c (l : List Rg) (hl : l.length < 10000000) (p : Int) (g : Nat) (X : Nat → Prop) (v : Value) (w : World) (hv : Sl X 2 (En encR) w v l) (hp : w.cell? ⟨g, 0, none⟩ = some (.int .i64 p)) :
    Fun Tryd.prog 16 [v, .func (.func 17) #[] #[.pointer (some ⟨g, 0, none⟩)]] w fun r w' => r = .bool (hasP l p) ∧ Below w.heap.size w w' := by
  refine fun_of_vc Tryd.func16 rfl (by kernel_rfl) [4] rfl ?_
  simp -dsimp only [push_cast, fr0, Tryd.ntmps16, List.length_cons, List.length_nil, Nat.reduceAdd, Nat.reduceSub, Nat.reduceBEq, List.replicate_succ, List.replicate_zero]
  refine callK_of (index_c l hl p g X v w hv hp) ?_
  rintro _ w1 ⟨⟨i, rfl, hi⟩, hb⟩
  rw [← hi]
  simp -dsimp only [push_cast, Nat.reduceAdd, Nat.reduceLeDiff, Nat.reduceBEq, decide_true, ne_eq, eq_self, not_true_eq_false, not_false_eq_true, true_imp_iff, false_imp_iff, Int.reduceNe, Int.reduceEq, Int.reduceLT, Int.reduceLE, Bool.not_true, Bool.not_false]
  exact hb
theorem wrap_u64 (n : Int) : IntKind.u64.wrap n = n % 18446744073709551616 := by simp [IntKind.wrap, IntKind.bits, IntKind.signed]
/-- pick. -/
def pickP (a : Int) (n : Nat) : Nat := ((a % 18446744073709551616) % (n : Int)).toNat
theorem pickP_lt (a : Int) {n : Nat} (h : 0 < n) : pickP a n < n := by
  unfold pickP
  have h1 := Int.emod_lt_of_pos (a % 18446744073709551616) (show (0 : Int) < n by omega)
  have h2 := Int.emod_nonneg (a % 18446744073709551616) (show (n : Int) ≠ 0 by omega)
  omega
theorem pick_c (a : Int) (n : Nat) (h : 0 < n) (hn : n < 1000000000) (w : World) : Fun Tryd.prog 14 [.int .i64 a, .int .i64 n] w fun r w' => r = .int .i64 (pickP a n) ∧ w' = w := by
  refine fun_of_vc Tryd.func14 rfl (by kernel_rfl) [4] rfl ?_
  simp -dsimp only [push_cast, fr0, Tryd.ntmps14, List.length_cons, List.length_nil, Nat.reduceAdd, Nat.reduceSub, Nat.reduceBEq, List.replicate_succ, List.replicate_zero]
  rw [wrap_u64, wrap_u64]
  have h0 : ((n : Int) % 18446744073709551616) = n := by omega
  rw [h0]
  have h1 := Int.emod_lt_of_pos (a % 18446744073709551616) (show (0 : Int) < n by omega)
  have h2 := Int.emod_nonneg (a % 18446744073709551616) (show (n : Int) ≠ 0 by omega)
  have h3 : (a % 18446744073709551616).tmod n = (a % 18446744073709551616) % n := Int.tmod_eq_emod_of_nonneg (by omega)
  refine ⟨by omega, ?_⟩
  rw [h3, wrap_i64 (by omega)]
  congr 1
  unfold pickP
  omega
end Go.Proofs.YthmkbjmkpdjgjaaDoor
