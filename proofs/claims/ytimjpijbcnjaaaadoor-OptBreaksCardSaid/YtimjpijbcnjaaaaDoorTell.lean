import Derived.Test.YtimjpijbcnjaaaaDoorAs
namespace Go.Proofs.YtimjpijbcnjaaaaDoor
open Go.Vc Go.Proofs Go.RowKit Cae
set_option maxRecDepth 100000
set_option linter.unusedSimpArgs false
set_option linter.unusedVariables false
attribute [local irreducible] wpL callK valK unitK runK Fun Sl Own vc vcOps opK pureK
open Go.RowKit Go.Extern.Stop Go.Stop Go.Extern
set_option maxHeartbeats 4000000

theorem asE_c (v u : Value) (n : Int) (b : Nat) (w : World) (hE : ErrVar w) (hv : IsErr w v n) (hB : Blk w b 33 [u]) :
    Fun Tryd.prog 48 [v, .iface 88 (.pointer (some ⟨b, 0, none⟩))] w
      fun r w' => r = .bool true ∧ Blk w' b 33 [.int .i64 n] ∧ Kept (· = b) w w' := by
  obtain ⟨ty, vv, hvv⟩ : ∃ ty vv, v = .iface ty vv := by cases hv <;> exact ⟨_, _, rfl⟩
  refine fun_of_vc Tryd.func48 rfl (by kernel_rfl) [4] rfl ?_
  simp -dsimp only [push_cast, fr0, Tryd.ntmps48, List.length_cons, List.length_nil, Nat.reduceAdd, Nat.reduceSub, Nat.reduceBEq, List.replicate_succ, List.replicate_zero]
  subst hvv
  simp -dsimp only [push_cast, Nat.reduceAdd, Nat.reduceLeDiff, Nat.reduceBEq, decide_true]
  refine callK_ext (e := fun args => ReflectliteValue.unpack (args.getD 0 (.tuple #[]))) Tryd.func82 (by kernel_rfl) (by kernel_rfl) (by kernel_rfl) (by kernel_rfl) (valueOfPE _ _) ?_
  have hN : New w (w.alloc (.cells #[.pointer (some ⟨b, 0, none⟩)] 88)) 88 [.pointer (some ⟨b, 0, none⟩)] := ⟨rfl⟩
  generalize w.alloc (.cells #[.pointer (some ⟨b, 0, none⟩)] 88) = w1 at hN
  have k1 : Kept (fun _ => False) w w1 := Kept.new hN
  simp -dsimp only [push_cast, Nat.reduceAdd, Nat.reduceLeDiff, Nat.reduceBEq, decide_true]
  refine allocK (z := [.pointer none, .pointer none, .int .u64 0]) (by kernel_rfl) ?_
  intro w2 hw2
  have k2 := k1.trans (Kept.new (X := fun _ => False) hw2) (fun _ _ => id)
  simp -dsimp only [push_cast, Nat.reduceAdd, Nat.reduceLeDiff, Nat.reduceBEq, decide_true]
  refine storeAgg (n := 3) (by kernel_rfl) hw2.blk rfl (by simp) (by simp [Value.oneCell']) ?_
  intro w3 hw3
  have k3 : Kept (fun k => w.heap.size ≤ k) w w3 := (k2.weaken (fun _ _ h => h.elim)).trans hw3.kept (fun i _ h => by have := hN.size; show w.heap.size ≤ i; omega)
  have hB3 := hB.kept k3 (by have := hB.lt; omega)
  have c3 : cellsAt w3 ⟨w1.heap.size, 0, none⟩ 0 3 = some [.pointer (some ⟨2, 88, none⟩), .pointer (some ⟨w.heap.size, 0, none⟩), .int .u64 150] :=
    cellsAt_of (b := w1.heap.size) (o := 0) [.pointer (some ⟨2, 88, none⟩), .pointer (some ⟨w.heap.size, 0, none⟩), .int .u64 150] 0 (fun j u hu => by simpa using hw3.blk.cell (by simpa using hu))
  simp -dsimp only [push_cast, Nat.reduceAdd, Nat.reduceLeDiff, Nat.reduceBEq, decide_true, c3]
  refine callK_ext (e := ReflectliteValue.methodAny (ReflectliteValue.valueError "reflectlite.Value.Type" 0) (fun t _ _ _ => ReflectliteType.toType t)) Tryd.func83 (by kernel_rfl) (by kernel_rfl) (by kernel_rfl) (by kernel_rfl) (typePE _ _) ?_
  have k3' : Kept (fun _ => False) w w3 := ⟨k3.os, k3.tape, k3.output, k3.size, fun i hi _ => k3.block i hi (by omega)⟩
  have hE3 : ErrVar w3 := k3'.cell hE id
  have hs3 : w3.cell? ⟨w.heap.size, 0, none⟩ = some (.pointer (some ⟨b, 0, none⟩)) := hw3.kept.cell (World.cell?_of_block (w := w1) (hw2.below.block w.heap.size (by have := hN.size; omega)) |>.trans (hN.cell rfl)) (by have := hN.size; show ¬ w.heap.size = w1.heap.size; omega)
  unfold ErrVar at hE3
  simp -dsimp only [push_cast, Nat.reduceAdd, Nat.reduceLeDiff, Nat.reduceBEq, decide_true]
  refine invK_of (mKind _ _) ?_
  refine callK_ext (e := ReflectliteType.abiMethod fun t => do pure (.int .u8 (← Rtype.kind t))) Tryd.func110 (by kernel_rfl) (by kernel_rfl) (by kernel_rfl) (by kernel_rfl) (kindPE _) ?_
  simp -dsimp only [push_cast, Nat.reduceAdd, Nat.reduceLeDiff, Nat.reduceBEq, decide_true, ne_eq, eq_self, not_true_eq_false, not_false_eq_true, true_imp_iff, false_imp_iff, Int.reduceNe, Int.reduceEq, Int.reduceLT, Int.reduceLE, Bool.not_true, Bool.not_false, c3]
  refine callK_ext (e := ReflectliteValue.method (ReflectliteValue.valueError "reflectlite.Value.IsNil" 0) ReflectliteValue.isNil) Tryd.func84 (by kernel_rfl) (by kernel_rfl) (by kernel_rfl) (by kernel_rfl) (isNilPE _ _ _ hs3) ?_
  simp -dsimp only [push_cast, Nat.reduceAdd, Nat.reduceLeDiff, Nat.reduceBEq, decide_true]
  refine invK_of (mElem _ _) ?_
  refine callK_ext (e := ReflectliteType.method ReflectliteType.elem) Tryd.func120 (by kernel_rfl) (by kernel_rfl) (by kernel_rfl) (by kernel_rfl) (elemPE _) ?_
  simp -dsimp only [push_cast, Nat.reduceAdd, Nat.reduceLeDiff, Nat.reduceBEq, decide_true]
  refine invK_of (mKind _ _) ?_
  refine callK_ext (e := ReflectliteType.abiMethod fun t => do pure (.int .u8 (← Rtype.kind t))) Tryd.func110 (by kernel_rfl) (by kernel_rfl) (by kernel_rfl) (by kernel_rfl) (kindE _) ?_
  simp -dsimp only [push_cast, Nat.reduceAdd, Nat.reduceLeDiff, Nat.reduceBEq, decide_true, ne_eq, eq_self, not_true_eq_false, not_false_eq_true, true_imp_iff, false_imp_iff, Int.reduceNe, Int.reduceEq, Int.reduceLT, Int.reduceLE, Bool.not_true, Bool.not_false, hE3]
  refine invK_of (mImplements _ _) ?_
  refine callK_ext (e := ReflectliteType.relation "Implements" ReflectliteType.implements_) Tryd.func121 (by kernel_rfl) (by kernel_rfl) (by kernel_rfl) (by kernel_rfl) (implementsE _) ?_
  simp -dsimp only [push_cast, Nat.reduceAdd, Nat.reduceLeDiff, Nat.reduceBEq, decide_true, c3]
  refine callK_of (as_c _ u n b w.heap.size w3 (hv.mono k3' (fun _ _ => id)) hB3 hs3) ?_
  rintro _ w4 ⟨rfl, hB4, hk4⟩
  simp -dsimp only [push_cast, Nat.reduceAdd, Nat.reduceLeDiff, Nat.reduceBEq, decide_true]
  exact ⟨hB4, (k3'.weaken (fun _ _ h => h.elim)).trans hk4 (fun _ _ => id)⟩

/-- api.Tell. -/
theorem tell0_c (w : World) : Fun Tryd.prog 12 [.nilIface] w fun r w' => r = .int .i64 0 ∧ w' = w := by
  refine fun_of_vc Tryd.func12 rfl (by kernel_rfl) [2] rfl ?_
  simp -dsimp only [push_cast, fr0, Tryd.ntmps12, List.length_cons, List.length_nil, Nat.reduceAdd, Nat.reduceSub, Nat.reduceBEq, List.replicate_succ, List.replicate_zero]

theorem tell_c (v : Value) (n : Int) (w : World) (hE : ErrVar w) (hv : IsErr w v n) : Fun Tryd.prog 12 [v] w fun r w' => r = .int .i64 n ∧ Below w.heap.size w w' := by
  obtain ⟨ty, vv, hvv⟩ : ∃ ty vv, v = .iface ty vv := by cases hv <;> exact ⟨_, _, rfl⟩
  refine fun_of_vc Tryd.func12 rfl (by kernel_rfl) [2] rfl ?_
  simp -dsimp only [push_cast, fr0, Tryd.ntmps12, List.length_cons, List.length_nil, Nat.reduceAdd, Nat.reduceSub, Nat.reduceBEq, List.replicate_succ, List.replicate_zero]
  subst hvv
  simp -dsimp only [push_cast, Nat.reduceAdd, Nat.reduceLeDiff, Nat.reduceBEq, decide_true]
  refine allocK (z := [.int .i64 0]) (by kernel_rfl) ?_
  intro w1 hw1
  have k1 : Kept (fun _ => False) w w1 := Kept.new hw1
  simp -dsimp only [push_cast, Nat.reduceAdd, Nat.reduceLeDiff, Nat.reduceBEq, decide_true]
  refine callK_of (asE_c _ _ n _ w1 (k1.cell hE id) (hv.mono k1 (fun _ _ => id)) hw1.blk) ?_
  rintro _ w2 ⟨rfl, hB2, hk2⟩
  have c2 := hB2.cell (o := 0) rfl
  simp -dsimp only [push_cast, Nat.reduceAdd, Nat.reduceLeDiff, Nat.reduceBEq, decide_true, c2]
  exact hw1.below.trans (hk2.below (Nat.le_of_lt (by have := hw1.size; omega)) (fun i h => by subst h; exact Nat.le_refl _))

/-- What plain.Place says of an error. -/
inductive Placed (w : World) : Value → Int → Int → Prop
  | bare (n : Int) : Placed w (.iface 33 (.int .i64 n)) n (-1)
  | at_ (b : Nat) (n p : Int) : w.cell? ⟨b, 0, none⟩ = some (.int .i64 n) → w.cell? ⟨b, 1, none⟩ = some (.int .i64 p) → Placed w (.iface 161 (.pointer (some ⟨b, 0, none⟩))) n p

theorem Placed.isErr {w : World} {v : Value} {n p : Int} (h : Placed w v n p) : IsErr w v n := by
  cases h with
  | bare => exact .bare _
  | at_ b _ _ h1 _ => exact .at_ b _ h1
theorem Placed.mono {w w' : World} {v : Value} {n p : Int} {X : Nat → Prop} (h : Placed w v n p) (hk : Kept X w w') (hX : ∀ b o, v = .iface 161 (.pointer (some ⟨b, o, none⟩)) → ¬ X b) : Placed w' v n p := by
  cases h with
  | bare n => exact .bare n
  | at_ b n p h1 h2 => exact .at_ b n p (hk.cell h1 (hX _ _ rfl)) (hk.cell h2 (hX _ _ rfl))
theorem Placed.below {w w' : World} {v : Value} {n p : Int} (h : Placed w v n p) (hk : Below w.heap.size w w') : Placed w' v n p := by
  cases h with
  | bare n => exact .bare n
  | at_ b n p h1 h2 => exact .at_ b n p ((hk.cell (World.block_lt_of_cell? w _ h1)).trans h1) ((hk.cell (World.block_lt_of_cell? w _ h2)).trans h2)

theorem place0_c (w : World) : Fun Tryd.prog 86 [.nilIface] w fun r w' => r = .tuple #[.int .i64 0, .int .i64 (-1)] ∧ w' = w := by
  refine fun_of_vc Tryd.func86 rfl (by kernel_rfl) [2, 3] rfl ?_
  simp -dsimp only [push_cast, fr0, Tryd.ntmps86, List.length_cons, List.length_nil, Nat.reduceAdd, Nat.reduceSub, Nat.reduceBEq, List.replicate_succ, List.replicate_zero]
  refine callK_of (tell0_c w) ?_
  rintro _ w1 ⟨rfl, hw1⟩
  simp -dsimp only [push_cast, Nat.reduceAdd, Nat.reduceLeDiff, Nat.reduceBEq, decide_true]
  refine wpL_loop [0, 2, 3, 5, 6, 7, 8, 11, 12, 13, 14, 15, 16, 17, 18, 19, 20, 21, 22, 23, 24, 25, 26, 27, 28, 29, 30, 31, 32, 33, 34, 35, 36] (fun z wx => z 0 = .nilIface ∧ wx = w1) (fun _ _ => 0) ⟨rfl, rfl⟩ ?_
  intro z wx hI
  obtain ⟨h0, hw⟩ := hI
  simp -dsimp only [push_cast, Nat.reduceAdd, Nat.reduceLeDiff, Nat.reduceBEq, decide_true, h0]
  exact hw.trans hw1

theorem place_c (v : Value) (n p : Int) (w : World) (hE : ErrVar w) (hv : Placed w v n p) : Fun Tryd.prog 86 [v] w fun r w' => r = .tuple #[.int .i64 n, .int .i64 p] ∧ Below w.heap.size w w' := by
  refine fun_of_vc Tryd.func86 rfl (by kernel_rfl) [2, 3] rfl ?_
  simp -dsimp only [push_cast, fr0, Tryd.ntmps86, List.length_cons, List.length_nil, Nat.reduceAdd, Nat.reduceSub, Nat.reduceBEq, List.replicate_succ, List.replicate_zero]
  refine callK_of (tell_c v n w hE hv.isErr) ?_
  rintro _ w1 ⟨rfl, hb1⟩
  simp -dsimp only [push_cast, Nat.reduceAdd, Nat.reduceLeDiff, Nat.reduceBEq, decide_true]
  refine wpL_loop [0, 2, 3, 5, 6, 7, 8, 11, 12, 13, 14, 15, 16, 17, 18, 19, 20, 21, 22, 23, 24, 25, 26, 27, 28, 29, 30, 31, 32, 33, 34, 35, 36] (fun z wx => z 0 = v ∧ wx = w1) (fun _ _ => 0) ⟨rfl, rfl⟩ ?_
  rintro z wx ⟨h0, rfl⟩
  have hv1 := hv.below hb1
  cases hv1 with
  | bare n =>
    simp -dsimp only [push_cast, Nat.reduceAdd, Nat.reduceLeDiff, Nat.reduceBEq, decide_true, h0]
    refine valK_of (v := .tuple #[.pointer none, .bool false]) (w' := wx) (by kernel_rfl) ?_
    simp -dsimp only [push_cast, Nat.reduceAdd, Nat.reduceLeDiff, Nat.reduceBEq, decide_true]
    refine assert_lacks (z := .nilIface) Tryd.underlying156 (by kernel_rfl) (by kernel_rfl) ?_
    simp -dsimp only [push_cast, Nat.reduceAdd, Nat.reduceLeDiff, Nat.reduceBEq, decide_true]
    exact hb1
  | at_ b n p h1 h2 =>
    simp -dsimp only [push_cast, Nat.reduceAdd, Nat.reduceLeDiff, Nat.reduceBEq, decide_true, h0]
    refine valK_of (v := .tuple #[.pointer (some ⟨b, 0, none⟩), .bool true]) (w' := wx) (by kernel_rfl) ?_
    simp -dsimp only [push_cast, Nat.reduceAdd, Nat.reduceLeDiff, Nat.reduceBEq, decide_true]
    refine wpL_draw (fun w' => w' = wx.drew) mixed (by kernel_rfl) rfl ?_
    have d2 : wx.drew.cell? ⟨b, 1, none⟩ = some (.int .i64 p) := h2
    simp -dsimp only [push_cast, Nat.reduceAdd, Nat.reduceLeDiff, Nat.reduceBEq, decide_true, d2]
    exact ⟨fun w'' hw => by subst hw; rw [d2]; exact rfl, hb1.drew⟩
end Go.Proofs.YtimjpijbcnjaaaaDoor
