import Derived.Test.YtplbgmoeannobaaGreatDoorAs
namespace Go.Proofs.YtplbgmoeannobaaGreatDoor
open Go.Vc Go.Proofs Go.RowKit Cae
set_option maxRecDepth 100000
set_option linter.unusedSimpArgs false
set_option linter.unusedVariables false
attribute [local irreducible] wpL callK valK unitK runK Fun Sl Own vc vcOps opK pureK
open Go.RowKit Go.Extern.Stop Go.Stop Go.Extern
set_option maxHeartbeats 4000000

theorem asE_c (v u : Value) (n : Int) (b : Nat) (w : World) (hE : ErrVar w) (hv : IsErr w v n) (hB : Blk w b 31 [u]) :
    Fun Tryz.prog 134 [v, .iface 175 (.pointer (some ⟨b, 0, none⟩))] w
      fun r w' => r = .bool true ∧ Blk w' b 31 [.int .i64 n] ∧ Kept (· = b) w w' := by
  obtain ⟨ty, vv, hvv⟩ : ∃ ty vv, v = .iface ty vv := by cases hv <;> exact ⟨_, _, rfl⟩
  refine fun_of_vc Tryz.func134 rfl (by kernel_rfl) [4] rfl ?_
  push_cast -dsimp (maxSteps := 4000000) [Tryz.ntmps134]
  subst hvv
  push_cast -dsimp
  refine callK_ext (e := fun args => ReflectliteValue.unpack (args.getD 0 (.tuple #[]))) Tryz.func156 (by kernel_rfl) (by kernel_rfl) (by kernel_rfl) (by kernel_rfl) (valueOfPE _ _) ?_
  have hN : New w (w.alloc (.cells #[.pointer (some ⟨b, 0, none⟩)] 175)) 175 [.pointer (some ⟨b, 0, none⟩)] := ⟨rfl⟩
  generalize w.alloc (.cells #[.pointer (some ⟨b, 0, none⟩)] 175) = w1 at hN
  have k1 : Kept (fun _ => False) w w1 := Kept.new hN
  push_cast -dsimp
  refine allocK (z := [.pointer none, .pointer none, .int .u64 0]) (by kernel_rfl) ?_
  intro w2 hw2
  have k2 := k1.trans (Kept.new (X := fun _ => False) hw2) (fun _ _ => id)
  push_cast -dsimp
  refine storeAgg (n := 3) (by kernel_rfl) hw2.blk rfl (by simp) (by simp [Value.oneCell']) ?_
  intro w3 hw3
  have k3 : Kept (fun k => w.heap.size ≤ k) w w3 := (k2.weaken (fun _ _ h => h.elim)).trans hw3.kept (fun i _ h => by have := hN.size; show w.heap.size ≤ i; omega)
  have hB3 := hB.kept k3 (by have := hB.lt; omega)
  have c3 : cellsAt w3 ⟨w1.heap.size, 0, none⟩ 0 3 = some [.pointer (some ⟨12, 175, none⟩), .pointer (some ⟨w.heap.size, 0, none⟩), .int .u64 150] :=
    cellsAt_of (b := w1.heap.size) (o := 0) [.pointer (some ⟨12, 175, none⟩), .pointer (some ⟨w.heap.size, 0, none⟩), .int .u64 150] 0 (fun j u hu => by simpa using hw3.blk.cell (by simpa using hu))
  push_cast -dsimp [c3]
  refine callK_ext (e := ReflectliteValue.methodAny (ReflectliteValue.valueError "reflectlite.Value.Type" 0) (fun t _ _ _ => ReflectliteType.toType t)) Tryz.func157 (by kernel_rfl) (by kernel_rfl) (by kernel_rfl) (by kernel_rfl) (typePE _ _) ?_
  have k3' : Kept (fun _ => False) w w3 := ⟨k3.os, k3.tape, k3.output, k3.size, fun i hi _ => k3.block i hi (by omega)⟩
  have hE3 : ErrVar w3 := k3'.cell hE id
  have hs3 : w3.cell? ⟨w.heap.size, 0, none⟩ = some (.pointer (some ⟨b, 0, none⟩)) := hw3.kept.cell (World.cell?_of_block (w := w1) (hw2.below.block w.heap.size (by have := hN.size; omega)) |>.trans (hN.cell rfl)) (by have := hN.size; show ¬ w.heap.size = w1.heap.size; omega)
  unfold ErrVar at hE3
  push_cast -dsimp
  refine invK_of (mKind _ _) ?_
  refine callK_ext (e := ReflectliteType.abiMethod fun t => do pure (.int .u8 (← Rtype.kind t))) Tryz.func183 (by kernel_rfl) (by kernel_rfl) (by kernel_rfl) (by kernel_rfl) (kindPE _) ?_
  push_cast -dsimp [c3]
  refine callK_ext (e := ReflectliteValue.method (ReflectliteValue.valueError "reflectlite.Value.IsNil" 0) ReflectliteValue.isNil) Tryz.func158 (by kernel_rfl) (by kernel_rfl) (by kernel_rfl) (by kernel_rfl) (isNilPE _ _ _ hs3) ?_
  push_cast -dsimp
  refine invK_of (mElem _ _) ?_
  refine callK_ext (e := ReflectliteType.method ReflectliteType.elem) Tryz.func200 (by kernel_rfl) (by kernel_rfl) (by kernel_rfl) (by kernel_rfl) (elemPE _) ?_
  push_cast -dsimp
  refine invK_of (mKind _ _) ?_
  refine callK_ext (e := ReflectliteType.abiMethod fun t => do pure (.int .u8 (← Rtype.kind t))) Tryz.func183 (by kernel_rfl) (by kernel_rfl) (by kernel_rfl) (by kernel_rfl) (kindE _) ?_
  push_cast -dsimp [hE3]
  refine invK_of (mImplements _ _) ?_
  refine callK_ext (e := ReflectliteType.relation "Implements" ReflectliteType.implements_) Tryz.func201 (by kernel_rfl) (by kernel_rfl) (by kernel_rfl) (by kernel_rfl) (implementsE _) ?_
  push_cast -dsimp [c3]
  refine callK_of (as_c _ u n b w.heap.size w3 (hv.mono k3' (fun _ _ => id)) hB3 hs3) ?_
  rintro _ w4 ⟨rfl, hB4, hk4⟩
  push_cast -dsimp
  exact ⟨hB4, (k3'.weaken (fun _ _ h => h.elim)).trans hk4 (fun _ _ => id)⟩

/-- api.Tell. -/
theorem tell0_c (w : World) : Fun Tryz.prog 105 [.nilIface] w fun r w' => r = .int .i64 0 ∧ w' = w := by
  refine fun_of_vc Tryz.func105 rfl (by kernel_rfl) [2] rfl ?_
  push_cast -dsimp (maxSteps := 4000000) [Tryz.ntmps105]

theorem tell_c (v : Value) (n : Int) (w : World) (hE : ErrVar w) (hv : IsErr w v n) : Fun Tryz.prog 105 [v] w fun r w' => r = .int .i64 n ∧ Below w.heap.size w w' := by
  obtain ⟨ty, vv, hvv⟩ : ∃ ty vv, v = .iface ty vv := by cases hv <;> exact ⟨_, _, rfl⟩
  refine fun_of_vc Tryz.func105 rfl (by kernel_rfl) [2] rfl ?_
  push_cast -dsimp (maxSteps := 4000000) [Tryz.ntmps105]
  subst hvv
  push_cast -dsimp
  refine allocK (z := [.int .i64 0]) (by kernel_rfl) ?_
  intro w1 hw1
  have k1 : Kept (fun _ => False) w w1 := Kept.new hw1
  push_cast -dsimp
  refine callK_of (asE_c _ _ n _ w1 (k1.cell hE id) (hv.mono k1 (fun _ _ => id)) hw1.blk) ?_
  rintro _ w2 ⟨rfl, hB2, hk2⟩
  have c2 := hB2.cell (o := 0) rfl
  push_cast -dsimp [c2]
  exact hw1.below.trans (hk2.below (Nat.le_of_lt (by have := hw1.size; omega)) (fun i h => by subst h; exact Nat.le_refl _))

end Go.Proofs.YtplbgmoeannobaaGreatDoor
