import Derived.Test.YthmkbjmkpdjgjaaDoorMerg
namespace Cae
theorem has_in {s : List Rg} (h : setRight (-2) s = true) (p : Int) : hasP s p = true → 0 ≤ p ∧ p ≤ 1114111 := fun hp => by
  have := has_above h hp; omega
theorem law1 {a b : List Rg} (ha : setRight (-2) a = true) (hb : setRight (-2) b = true) : setNot (setOr a b) = setAnd (setNot a) (setNot b) := by
  refine set_ext (setNot_right (setOr_right _ _)) (setAnd_right _ _) fun p => ?_
  rw [setNot_has (setOr_right _ _), setOr_has ha hb, setAnd_has (setNot_right ha) (setNot_right hb), setNot_has ha, setNot_has hb]
  cases decide (0 ≤ p ∧ p ≤ 1114111) <;> cases hasP a p <;> cases hasP b p <;> rfl
theorem law3 {a : List Rg} (ha : setRight (-2) a = true) : setNot (setNot a) = a := by
  refine set_ext (setNot_right (setNot_right ha)) ha fun p => ?_
  rw [setNot_has (setNot_right ha), setNot_has ha]
  have h := has_in ha p
  cases hp : hasP a p with
  | true => rw [decide_eq_true (h hp)]; rfl
  | false => cases decide (0 ≤ p ∧ p ≤ 1114111) <;> rfl
theorem law4 {a b : List Rg} (ha : setRight (-2) a = true) (hb : setRight (-2) b = true) : setOr a b = setOr b a := by
  refine set_ext (setOr_right _ _) (setOr_right _ _) fun p => ?_
  rw [setOr_has ha hb, setOr_has hb ha, Bool.or_comm]
theorem law5 {a b c : List Rg} (ha : setRight (-2) a = true) (hb : setRight (-2) b = true) (hc : setRight (-2) c = true) : setAnd a (setOr b c) = setOr (setAnd a b) (setAnd a c) := by
  refine set_ext (setAnd_right _ _) (setOr_right _ _) fun p => ?_
  rw [setAnd_has ha (setOr_right _ _), setOr_has hb hc, setOr_has (setAnd_right _ _) (setAnd_right _ _), setAnd_has ha hb, setAnd_has ha hc, Bool.and_or_distrib_left]
theorem law6 {a b : List Rg} (ha : setRight (-2) a = true) (hb : setRight (-2) b = true) : setOr (setLess a b) (setAnd a b) = a := by
  refine set_ext (setOr_right _ _) ha fun p => ?_
  rw [setOr_has (setLess_right _ _) (setAnd_right _ _), setLess_has ha hb, setAnd_has ha hb]
  cases hasP a p <;> cases hasP b p <;> rfl
theorem law7 {a : List Rg} (ha : setRight (-2) a = true) : setAnd a (setNot a) = [] := by
  refine set_ext (b := -2) (setAnd_right _ _) rfl fun p => ?_
  rw [setAnd_has ha (setNot_right ha), setNot_has ha, hasP_nil]
  cases decide (0 ≤ p ∧ p ≤ 1114111) <;> cases hasP a p <;> rfl
theorem has_at_in {a : List Rg} (ha : setRight (-2) a = true) {p : Int} (h0 : 0 ≤ p) (h1 : p ≤ 1114111) : hasP (setNot a) p = !hasP a p := by
  rw [setNot_has ha, decide_eq_true ⟨h0, h1⟩, Bool.true_and]
theorem inB_in (l : List Rg) {p : Int} (h0 : 0 ≤ p) (h1 : p ≤ 1114111) : hasP (setOf l) p = hasP l p := by
  rw [setOf_has]; unfold inB; rw [decide_eq_true ⟨h0, h1⟩, Bool.true_and]
end Cae
namespace Go.RowKit
theorem Below.tr {a b c : World} (h : Below a.heap.size a b) (k : Below b.heap.size b c) : Below a.heap.size a c := h.trans (k.mono h.size)
end Go.RowKit
namespace Go.Proofs.YthmkbjmkpdjgjaaDoor
open Go.Vc Go.Proofs Go.RowKit Cae
set_option maxRecDepth 100000
set_option linter.unusedSimpArgs false
set_option linter.unusedVariables false
attribute [local irreducible] wpL callK valK unitK runK Fun Sl Own vc vcOps opK pureK
set_option maxHeartbeats 8000000

/-- A set that a value is. -/
structure AL (B n : Nat) (w : World) (v : Value) (s : List Rg) : Prop where
  sl : Sl (fun b => b < B) 2 (En encR) w v s
  base : B ≤ w.heap.size
  arg : Arg v
  right : setRight (-2) s = true
  len : s.length ≤ n
theorem AL.to {B n : Nat} {w w' : World} {v : Value} {s : List Rg} (h : AL B n w v s) (hb : Below w.heap.size w w') : AL B n w' v s := ⟨h.sl.below hb, Nat.le_trans h.base hb.size, h.arg, h.right, h.len⟩
theorem AL.kept {B n : Nat} {Y : Nat → Prop} {w w' : World} {v : Value} {s : List Rg} (h : AL B n w v s) (hk : Kept Y w w') (hY : ∀ i, Y i → i < B) : AL B n w' v s := ⟨h.sl.kept hk hY, Nat.le_trans h.base hk.size, h.arg, h.right, h.len⟩
theorem AL.of {n B B' : Nat} {w w' : World} {v : Value} {s : List Rg} (h : Own B' 29 2 encR w' v s) (hr : setRight (-2) s = true) (hl : s.length ≤ n) (hB : B ≤ B') (hb : Below B' w w') (hw : B ≤ w.heap.size) : AL B n w' v s := ⟨h.sl.weaken (fun _ h => by omega), Nat.le_trans hw hb.size, h.nilArg, hr, hl⟩
theorem not_A {B n : Nat} {s : List Rg} {v : Value} {w : World} (h : AL B n w v s) (hn : n < 10000) : Fun Tryd.prog 10 [v] w fun r w' => AL B (n + 1) w' r (setNot s) ∧ Below w.heap.size w w' := by
  have hl := h.len
  refine (not_c s (by omega) h.right _ v w h.sl).mono ?_
  rintro r w' ⟨ho, hb⟩
  exact ⟨AL.of ho (setNot_right h.right) (by have := setNot_len s; omega) h.base hb h.base, hb⟩
theorem or_A {B n m : Nat} {s t : List Rg} {v u : Value} {w : World} (h : AL B n w v s) (k : AL B m w u t) (hn : n < 10000) (hm : m < 10000) : Fun Tryd.prog 11 [v, u] w fun r w' => AL B (n + m) w' r (setOr s t) ∧ Below w.heap.size w w' := by
  have hl := h.len
  have kl := k.len
  refine (or_c s t (by omega) (by omega) _ v u w h.sl k.sl h.arg k.arg).mono ?_
  rintro r w' ⟨ho, hb⟩
  exact ⟨AL.of ho (setOr_right _ _) (by have := setOr_len s t; omega) h.base hb h.base, hb⟩
theorem and_A {B n m : Nat} {s t : List Rg} {v u : Value} {w : World} (h : AL B n w v s) (k : AL B m w u t) (hn : n < 10000) (hm : m < 10000) : Fun Tryd.prog 12 [v, u] w fun r w' => AL B (n + m + 3) w' r (setAnd s t) ∧ Below w.heap.size w w' := by
  have hl := h.len
  have kl := k.len
  refine (and_c s t (by omega) (by omega) h.right k.right _ v u w h.sl k.sl).mono ?_
  rintro r w' ⟨ho, hb⟩
  exact ⟨AL.of ho (setAnd_right _ _) (by have := setAnd_len s t; omega) h.base hb h.base, hb⟩
theorem less_A {B n m : Nat} {s t : List Rg} {v u : Value} {w : World} (h : AL B n w v s) (k : AL B m w u t) (hn : n < 10000) (hm : m < 10000) : Fun Tryd.prog 13 [v, u] w fun r w' => AL B (n + m + 4) w' r (setLess s t) ∧ Below w.heap.size w w' := by
  have hl := h.len
  have kl := k.len
  refine (less_c s t (by omega) (by omega) h.right k.right _ v u w h.sl k.sl).mono ?_
  rintro r w' ⟨ho, hb⟩
  exact ⟨AL.of ho (setLess_right _ _) (by have := setLess_len s t; omega) h.base hb h.base, hb⟩
theorem same_A {B n m : Nat} {s t : List Rg} {v u : Value} {w : World} (h : AL B n w v s) (k : AL B m w u t) (e : s = t) (hn : n < 10000) : Fun Tryd.prog 7 [v, u] w fun r w' => r = .bool true ∧ Below w.heap.size w w' := by
  have hl := h.len
  refine (same_c s t (by omega) h.right _ _ v u w h.sl k.sl).mono ?_
  rintro r w' ⟨rfl, hb⟩
  exact ⟨by rw [decide_eq_true e], hb⟩
theorem has_A {B n : Nat} {s : List Rg} {v : Value} {w : World} (h : AL B n w v s) (p : Int) {x : Bool} (e : hasP s p = x) (hn : n < 10000) : Fun Tryd.prog 15 [v, .int .i64 p] w fun r w' => r = .bool x ∧ Below w.heap.size w w' := by
  have hl := h.len
  refine (has_c s (by omega) h.right p _ v w h.sl).mono ?_
  rintro r w' ⟨rfl, hb⟩
  exact ⟨by rw [e], hb⟩
theorem of_A {B n : Nat} {l : List Rg} {X : Nat → Prop} {v : Value} {w : World} (hl : l.length ≤ n) (hv : Sl X 2 (En encR) w v l) (ha : Arg v) (hn : n < 10000) (hB : B ≤ w.heap.size) : Fun Tryd.prog 6 [v] w fun r w' => AL B n w' r (setOf l) ∧ Below w.heap.size w w' := by
  refine (of_c l (by omega) _ v w hv ha).mono ?_
  rintro r w' ⟨ho, hb⟩
  exact ⟨AL.of ho (setOf_right l) (by have := setOf_len l; omega) hB hb hB, hb⟩
end Go.Proofs.YthmkbjmkpdjgjaaDoor
