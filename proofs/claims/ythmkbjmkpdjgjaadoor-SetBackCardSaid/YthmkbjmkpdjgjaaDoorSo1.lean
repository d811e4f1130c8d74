import Derived.Test.YthmkbjmkpdjgjaaDoorSet
import Derived.Test.YthmkbjmkpdjgjaaDoorPset
import Derived.Test.YthmkbjmkpdjgjaaDoorVo
import Derived.Test.YthmkbjmkpdjgjaaDoorVw
import Derived.Sort.Grow
namespace Go.Vc
open Go.RowKit
theorem Own.at0R {α : Type} {base k : Nat} {e : TypeId} {enc : α → List Value} {w : World} {b o n c : Nat} {l : List α} (h : Own base e k enc w (.slice (some ⟨b, o, none⟩) n c) l) : o = 0 := by
  rcases h.1.2 with ⟨he, _⟩ | ⟨g, cap, cr, he, _⟩
  · cases he
  · cases he; rfl
section
variable {P : Program} {t : Fr} {w : World} {C : World → Prop} {K : VK}
theorem mixK_max (d) (args : List Operand) (aty ty pos af g) (p) : mixK P ⟨d, .call { callee := .builtin .max, args := args.toArray, argTypes := aty }, ty, pos, af, g⟩ t w C K p =
    mmK true (args.map (ev t)) (K · w) False .mk := rfl
theorem mixK_min (d) (args : List Operand) (aty ty pos af g) (p) : mixK P ⟨d, .call { callee := .builtin .min, args := args.toArray, argTypes := aty }, ty, pos, af, g⟩ t w C K p =
    mmK false (args.map (ev t)) (K · w) False .mk := rfl
end
attribute [push_cast] mixK_max mixK_min
/-- A contract of the library's shelf. -/
theorem fun_of_calls {P : Program} {f : FuncId} {fn : Func} {args : List Value} {w : World} {R : VK} (hf : P.funcs[f]? = some fn) (hb : fn.body.isNone = false) (hn : (fn.name == "runtime.NumGoroutine") = false)
    (h : Calls P f args.toArray w fun e w' => ∃ v, e = .returned v ∧ R v w') : Fun P f args w R := ⟨callFunc_enter hf hb hn, h⟩
theorem ownFresh {α : Type} {w : World} {e : TypeId} {k g G : Nat} {enc : α → List Value} {cur : Array Value} (hk : ∀ x, (enc x).length = k) (hb : w.heap[g]? = some (.cells cur e (0, 0))) (hG : G ≤ maxLen) (hs : cur.size = G * k) : Own g e k enc w (.slice (some ⟨g, 0, none⟩) 0 G) ([] : List α) :=
  ⟨⟨by simp, .inr ⟨g, G, cur, rfl, Nat.le_refl _, hb, Nat.zero_le _, hG, hs, by simp⟩⟩, hk⟩
theorem calls_of_fun {P : Program} {f : FuncId} {args : List Value} {w : World} {R : VK} (h : Fun P f args w R) : Calls P f args.toArray w fun e w' => ∃ v, e = .returned v ∧ R v w' := h.2
end Go.Vc
namespace Go.Proofs.YthmkbjmkpdjgjaaDoor
open Go.Vc Go.Proofs Go.RowKit Cae
set_option maxRecDepth 100000
set_option linter.unusedSimpArgs false
set_option linter.unusedVariables false
attribute [local irreducible] wpL callK valK unitK runK Fun Sl Own vc vcOps opK pureK
set_option maxHeartbeats 4000000

/-- A slice as an argument is: nil is nil. -/
def Arg (v : Value) : Prop := ∀ n c, v = .slice none n c → n = 0 ∧ c = 0
theorem encR_one : ∀ x, ∀ u ∈ encR x, u.oneCell' = true := by simp [encR, Value.oneCell']

theorem cloneR_c (l : List Rg) (hl : l.length < 1000000000) (X : Nat → Prop) (v : Value) (w : World) (hv : Sl X 2 (En encR) w v l) (ha : Arg v) :
    Fun Tryd.prog 20 [v] w fun r w' => Own w.heap.size 29 2 encR w' r l ∧ Below w.heap.size w w' := by
  obtain ⟨a, c, rfl, hc⟩ := hv.shape
  refine fun_of_vc Tryd.func20 rfl (by kernel_rfl) [2] rfl ?_
  simp -dsimp only [push_cast, fr0, Tryd.ntmps20, List.length_cons, List.length_nil, Nat.reduceAdd, Nat.reduceSub, Nat.reduceBEq, List.replicate_succ, List.replicate_zero]
  cases a with
  | none =>
    obtain ⟨h0, rfl⟩ := ha _ _ rfl
    have : l = [] := List.eq_nil_of_length_eq_zero h0
    subst this
    simp -dsimp only [push_cast, Nat.reduceAdd, Nat.reduceLeDiff, Nat.reduceBEq, decide_true, ne_eq, eq_self, not_true_eq_false, not_false_eq_true, true_imp_iff, false_imp_iff, Int.reduceNe, Int.reduceEq, Int.reduceLT, Int.reduceLE, Bool.not_true, Bool.not_false, eqn3]
    exact ⟨Own.nil (enc := encR) _ _ (fun _ => rfl) _, Below.refl _ _⟩
  | some ad =>
    simp -dsimp only [push_cast, Nat.reduceAdd, Nat.reduceLeDiff, Nat.reduceBEq, decide_true, ne_eq, eq_self, not_true_eq_false, not_false_eq_true, true_imp_iff, false_imp_iff, Int.reduceNe, Int.reduceEq, Int.reduceLT, Int.reduceLE, Bool.not_true, Bool.not_false, eqs3]
    refine rowK elI_22 rfl rfl (by omega) ?_
    intro w1 hw1
    have ho1 := hw1.own (base := w.heap.size) (k := 2) (n := 0) (enc := encR) (l := []) rfl rfl (fun _ => rfl) (Nat.le_refl _) (by omega)
    have sz1 := hw1.size
    simp -dsimp only [push_cast, Nat.reduceAdd, Nat.reduceLeDiff, Nat.reduceBEq, decide_true, ne_eq, eq_self, not_true_eq_false, not_false_eq_true, true_imp_iff, false_imp_iff, Int.reduceNe, Int.reduceEq, Int.reduceLT, Int.reduceLE, Bool.not_true, Bool.not_false]
    refine appendAny (base := w.heap.size) (enc := encR) (ys := l) elI_22 ho1 (hv.below hw1.below) (fun n c h => by cases h) encR_one (by simp only [List.length_nil]; omega) (by omega) ?_
    intro v' w2 ho2 hg2 hb2
    rw [List.nil_append] at ho2
    simp -dsimp only [push_cast, Nat.reduceAdd, Nat.reduceLeDiff, Nat.reduceBEq, decide_true, ne_eq, eq_self, not_true_eq_false, not_false_eq_true, true_imp_iff, false_imp_iff, Int.reduceNe, Int.reduceEq, Int.reduceLT, Int.reduceLE, Bool.not_true, Bool.not_false]
    exact ⟨ho2, hw1.below.trans hb2⟩

def cmpI (x y : Int) : Int := if x < y then -1 else if y < x then 1 else 0
theorem isNaN_c (x : Int) (w : World) : Fun Tryd.prog 37 [.int .i64 x] w fun r w' => r = .bool false ∧ w' = w := by
  refine fun_of_vc Tryd.func37 rfl (by kernel_rfl) [2] rfl ?_
  simp -dsimp only [push_cast, fr0, Tryd.ntmps37, List.length_cons, List.length_nil, Nat.reduceAdd, Nat.reduceSub, Nat.reduceBEq, List.replicate_succ, List.replicate_zero]
  simp
theorem compare_c (x y : Int) (w : World) : Fun Tryd.prog 23 [.int .i64 x, .int .i64 y] w fun r w' => r = .int .i64 (cmpI x y) ∧ w' = w := by
  refine fun_of_vc Tryd.func23 rfl (by kernel_rfl) [4] rfl ?_
  simp -dsimp only [push_cast, fr0, Tryd.ntmps23, List.length_cons, List.length_nil, Nat.reduceAdd, Nat.reduceSub, Nat.reduceBEq, List.replicate_succ, List.replicate_zero]
  refine callK_of (isNaN_c x w) ?_
  rintro _ w1 ⟨rfl, rfl⟩
  simp -dsimp only [push_cast, Nat.reduceAdd, Nat.reduceLeDiff, Nat.reduceBEq, decide_true]
  refine callK_of (isNaN_c y w1) ?_
  rintro _ w2 ⟨rfl, rfl⟩
  simp -dsimp only [push_cast, Nat.reduceAdd, Nat.reduceLeDiff, Nat.reduceBEq, decide_true]
  unfold cmpI
  refine ⟨fun h => by rw [if_pos h], fun h => ⟨fun h2 => by rw [if_neg h, if_pos h2], fun h2 => by rw [if_neg h, if_neg h2]⟩⟩
theorem closure_c (x y : Rg) (w : World) : Fun Tryd.prog 22 [.agg #[.int .i64 x.1, .int .i64 x.2], .agg #[.int .i64 y.1, .int .i64 y.2]] w fun r w' => r = .int .i64 (cmpI x.1 y.1) ∧ ∃ os, w' = Go.Sort.grow w os := by
  refine fun_of_vc Tryd.func22 rfl (by kernel_rfl) [4] rfl ?_
  simp -dsimp only [push_cast, fr0, Tryd.ntmps22, List.length_cons, List.length_nil, Nat.reduceAdd, Nat.reduceSub, Nat.reduceBEq, List.replicate_succ, List.replicate_zero]
  refine boxK_of ?_
  intro w1 hw1
  have sz1 := hw1.size
  simp -dsimp only [push_cast, Nat.reduceAdd, Nat.reduceLeDiff, Nat.reduceBEq, decide_true]
  refine boxK_of ?_
  intro w2 hw2
  have sz2 := hw2.size
  have c0 : w2.cell? ⟨w.heap.size, 0, none⟩ = some (.int .i64 x.1) := (hw2.below.cell (by show w.heap.size < w1.heap.size; omega)).trans (hw1.cell rfl)
  have c1 : w2.cell? ⟨w1.heap.size, 0, none⟩ = some (.int .i64 y.1) := hw2.cell rfl
  simp -dsimp only [push_cast, Nat.reduceAdd, Nat.reduceLeDiff, Nat.reduceBEq, decide_true, c0, c1]
  refine callK_of (compare_c x.1 y.1 w2) ?_
  rintro _ w3 ⟨rfl, rfl⟩
  simp -dsimp only [push_cast, Nat.reduceAdd, Nat.reduceLeDiff, Nat.reduceBEq, decide_true, ne_eq, eq_self, not_true_eq_false, not_false_eq_true, true_imp_iff, false_imp_iff, Int.reduceNe, Int.reduceEq, Int.reduceLT, Int.reduceLE, Bool.not_true, Bool.not_false]
  refine ⟨_, by rw [hw2.is, hw1.is, Go.Sort.alloc_eq_grow, Go.Sort.alloc_eq_grow, Go.Sort.grow_grow]⟩
end Go.Proofs.YthmkbjmkpdjgjaaDoor
