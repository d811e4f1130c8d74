import Derived.Test.YtplbgmoeannobaaGreatDoorSo0
import Derived.Test.YtplbgmoeannobaaGreatDoorHas
import Derived.Sort.Grow
namespace Go.Proofs.YtplbgmoeannobaaGreatDoor
open Go.Vc Go.Proofs Go.RowKit Cae
set_option maxRecDepth 100000
set_option linter.unusedSimpArgs false
set_option linter.unusedVariables false
attribute [local irreducible] wpL callK valK unitK runK Fun Sl Own vc vcOps opK pureK
set_option maxHeartbeats 4000000

theorem cloneR_c (l : List Rg) (hl : l.length < 1000000000) (X : Nat → Prop) (v : Value) (w : World) (hv : Sl X 2 (En encR) w v l) (ha : Arg v) :
    Fun Tryz.prog 27 [v] w fun r w' => Own w.heap.size 42 2 encR w' r l ∧ Below w.heap.size w w' := by
  obtain ⟨a, c, rfl, hc⟩ := hv.shape
  refine fun_of_vc Tryz.func27 rfl (by kernel_rfl) [2] rfl ?_
  push_cast -dsimp (maxSteps := 4000000) [Tryz.ntmps27]
  cases a with
  | none =>
    obtain ⟨h0, rfl⟩ := ha _ _ rfl
    have : l = [] := List.eq_nil_of_length_eq_zero h0
    subst this
    push_cast -dsimp [eqn3]
    exact ⟨Own.nil (enc := encR) _ _ (fun _ => rfl) _, Below.refl _ _⟩
  | some ad =>
    push_cast -dsimp [eqs3]
    refine rowK elI_22 rfl rfl (by omega) ?_
    intro w1 hw1
    have ho1 := hw1.own (base := w.heap.size) (k := 2) (n := 0) (enc := encR) (l := []) rfl rfl (fun _ => rfl) (Nat.le_refl _) (by omega)
    have sz1 := hw1.size
    push_cast -dsimp
    refine appendAny (base := w.heap.size) (enc := encR) (ys := l) elI_22 ho1 (hv.below hw1.below) (fun n c h => by cases h) encR_one (by simp only [List.length_nil]; omega) (by omega) ?_
    intro v' w2 ho2 hg2 hb2
    rw [List.nil_append] at ho2
    push_cast -dsimp
    exact ⟨ho2, hw1.below.trans hb2⟩

def cmpI (x y : Int) : Int := if x < y then -1 else if y < x then 1 else 0
theorem isNaN_c (x : Int) (w : World) : Fun Tryz.prog 54 [.int .i64 x] w fun r w' => r = .bool false ∧ w' = w := by
  refine fun_of_vc Tryz.func54 rfl (by kernel_rfl) [2] rfl ?_
  push_cast -dsimp (maxSteps := 4000000) [Tryz.ntmps54]
  simp
theorem compare_c (x y : Int) (w : World) : Fun Tryz.prog 30 [.int .i64 x, .int .i64 y] w fun r w' => r = .int .i64 (cmpI x y) ∧ w' = w := by
  refine fun_of_vc Tryz.func30 rfl (by kernel_rfl) [4] rfl ?_
  push_cast -dsimp (maxSteps := 4000000) [Tryz.ntmps30]
  refine callK_of (isNaN_c x w) ?_
  rintro _ w1 ⟨rfl, rfl⟩
  push_cast -dsimp
  refine callK_of (isNaN_c y w1) ?_
  rintro _ w2 ⟨rfl, rfl⟩
  push_cast -dsimp
  unfold cmpI
  refine ⟨fun h => by rw [if_pos h], fun h => ⟨fun h2 => by rw [if_neg h, if_pos h2], fun h2 => by rw [if_neg h, if_neg h2]⟩⟩
theorem closure_c (x y : Rg) (w : World) : Fun Tryz.prog 29 [.agg #[.int .i64 x.1, .int .i64 x.2], .agg #[.int .i64 y.1, .int .i64 y.2]] w fun r w' => r = .int .i64 (cmpI x.1 y.1) ∧ ∃ os, w' = Go.Sort.grow w os := by
  refine fun_of_vc Tryz.func29 rfl (by kernel_rfl) [4] rfl ?_
  push_cast -dsimp (maxSteps := 4000000) [Tryz.ntmps29]
  refine boxK_of ?_
  intro w1 hw1
  have sz1 := hw1.size
  push_cast -dsimp
  refine boxK_of ?_
  intro w2 hw2
  have sz2 := hw2.size
  have c0 : w2.cell? ⟨w.heap.size, 0, none⟩ = some (.int .i64 x.1) := (hw2.below.cell (by show w.heap.size < w1.heap.size; omega)).trans (hw1.cell rfl)
  have c1 : w2.cell? ⟨w1.heap.size, 0, none⟩ = some (.int .i64 y.1) := hw2.cell rfl
  push_cast -dsimp [c0, c1]
  refine callK_of (compare_c x.1 y.1 w2) ?_
  rintro _ w3 ⟨rfl, rfl⟩
  push_cast -dsimp
  refine ⟨_, by rw [hw2.is, hw1.is, Go.Sort.alloc_eq_grow, Go.Sort.alloc_eq_grow, Go.Sort.grow_grow]⟩
end Go.Proofs.YtplbgmoeannobaaGreatDoor
