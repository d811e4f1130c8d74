import Derived.Test.YtplbgmoeannobaaGreatDoorAsF
namespace Go.Proofs.YtplbgmoeannobaaGreatDoor
open Go.Vc Go.Proofs Go.RowKit Cae
set_option maxRecDepth 100000
set_option linter.unusedSimpArgs false
set_option linter.unusedVariables false
attribute [local irreducible] wpL callK valK unitK runK Fun Sl Own vc vcOps opK pureK
open Go.RowKit Go.Extern.Stop Go.Stop Go.Extern
set_option maxHeartbeats 4000000

/-- (*At).Unwrap. -/
theorem unwrap_c (b : Nat) (n : Int) (w : World) (hB : w.cell? ⟨b, 0, none⟩ = some (.int .i64 n)) : Fun Tryz.prog 192 [.pointer (some ⟨b, 0, none⟩)] w fun v w' => v = .iface 31 (.int .i64 n) ∧ w' = w := by
  refine fun_of_vc Tryz.func192 rfl (by kernel_rfl) [2] rfl ?_
  simp -dsimp (maxSteps := 4000000) only [push_cast, fr0, Tryz.ntmps192, List.length_cons, List.length_nil, Nat.reduceAdd, Nat.reduceSub, Nat.reduceBEq, List.replicate_succ, List.replicate_zero]
  simp -dsimp only [push_cast, Nat.reduceAdd, Nat.reduceLeDiff, Nat.reduceBEq, Int.reduceNe, Int.reduceEq, Int.reduceLT, Int.reduceLE, hB]

/-- An error that errors.As finds an Errno in: the number. -/
inductive IsErr (w : World) : Value → Int → Prop
  | bare (n : Int) : IsErr w (.iface 31 (.int .i64 n)) n
  | at_ (b : Nat) (n : Int) : w.cell? ⟨b, 0, none⟩ = some (.int .i64 n) → IsErr w (.iface 136 (.pointer (some ⟨b, 0, none⟩))) n

theorem IsErr.mono {w w' : World} {v : Value} {n : Int} {X : Nat → Prop} (h : IsErr w v n) (hk : Kept X w w') (hX : ∀ a, v = .iface 136 (.pointer (some a)) → ¬ X a.block) : IsErr w' v n := by
  cases h with
  | bare n => exact .bare n
  | at_ b n hb => exact .at_ b n (hk.cell hb (hX _ rfl))

theorem as_c (v u : Value) (n : Int) (b c : Nat) (w : World) (hv : IsErr w v n) (hB : Blk w b 31 [u]) (hc : w.cell? ⟨c, 0, none⟩ = some (.pointer (some ⟨b, 0, none⟩))) :
    Fun Tryz.prog 159 [v, .iface 175 (.pointer (some ⟨b, 0, none⟩)), .agg #[.pointer (some ⟨12, 175, none⟩), .pointer (some ⟨c, 0, none⟩), .int .u64 150], .iface 216 (.agg #[.pointer (some ⟨12, 31, none⟩)])] w
      fun r w' => r = .bool true ∧ Blk w' b 31 [.int .i64 n] ∧ Kept (· = b) w w' := by
  refine fun_of_vc Tryz.func159 rfl (by kernel_rfl) [8] rfl ?_
  simp -dsimp (maxSteps := 4000000) only [push_cast, fr0, Tryz.ntmps159, List.length_cons, List.length_nil, Nat.reduceAdd, Nat.reduceSub, Nat.reduceBEq, List.replicate_succ, List.replicate_zero]
  refine boxK_of ?_
  intro w1 hw1
  simp -dsimp only [push_cast, Nat.reduceAdd, Nat.reduceLeDiff, Nat.reduceBEq, Int.reduceNe, Int.reduceEq, Int.reduceLT, Int.reduceLE]
  refine wpL_loop [0, 8, 9, 10, 11, 12, 14, 15, 16, 17, 18, 19, 20, 21, 22, 23, 24, 25, 26, 27, 28, 29, 30, 31, 32, 33, 34, 35, 36, 37, 38, 39, 40, 41, 42, 43, 44, 45, 46, 47, 48, 49, 50, 51, 52, 53, 54, 55, 56, 57, 58, 59, 60, 61] (fun z wx => IsErr wx (z 0) n ∧ Kept (fun _ => False) w1 wx) (fun z _ => match z 0 with | .iface _ (.pointer _) => 1 | _ => 0) ?_ ?_
  · exact ⟨hv.mono (Kept.new hw1 (X := fun _ => False)) (fun _ _ => id), Kept.refl _ _⟩
  · intro z wx hI
    obtain ⟨hv, hk⟩ := hI
    have hk0 : Kept (fun _ => False) w wx := (Kept.new hw1).trans hk (fun _ _ => id)
    have hB := hB.kept hk0 id
    have hc := hk0.cell hc id
    have c1 : cellsAt wx ⟨w.heap.size, 0, none⟩ 0 3 = some [.pointer (some ⟨12, 175, none⟩), .pointer (some ⟨c, 0, none⟩), .int .u64 150] :=
      cellsAt_of (b := w.heap.size) (o := 0) [.pointer (some ⟨12, 175, none⟩), .pointer (some ⟨c, 0, none⟩), .int .u64 150] 0 (fun j u hu => hk.cell (by simpa using hw1.cell hu) id)
    generalize hz : z 0 = v0 at hv
    cases hv with
    | bare n =>
      simp -dsimp only [push_cast, Nat.reduceAdd, Nat.reduceLeDiff, Nat.reduceBEq, Int.reduceNe, Int.reduceEq, Int.reduceLT, Int.reduceLE, hz]
      refine callK_ext (e := ReflectliteType.typeOf) Tryz.func165 (by kernel_rfl) (by kernel_rfl) (by kernel_rfl) (by kernel_rfl) (typeOfE _ _) ?_
      simp -dsimp only [push_cast, Nat.reduceAdd, Nat.reduceLeDiff, Nat.reduceBEq, Int.reduceNe, Int.reduceEq, Int.reduceLT, Int.reduceLE]
      refine invK_of (mAssignableTo _ _) ?_
      refine callK_ext (e := ReflectliteType.relation "AssignableTo" ReflectliteType.assignableTo) Tryz.func198 (by kernel_rfl) (by kernel_rfl) (by kernel_rfl) (by kernel_rfl) (assignE _) ?_
      simp -dsimp only [push_cast, Nat.reduceAdd, Nat.reduceLeDiff, Nat.reduceBEq, Int.reduceNe, Int.reduceEq, Int.reduceLT, Int.reduceLE, c1]
      refine callK_ext (e := ReflectliteValue.method (ReflectliteValue.valueError "reflectlite.Value.Elem" 0) ReflectliteValue.elem) Tryz.func166 (by kernel_rfl) (by kernel_rfl) (by kernel_rfl) (by kernel_rfl) (elemVPE _ _ _ hc) ?_
      simp -dsimp only [push_cast, Nat.reduceAdd, Nat.reduceLeDiff, Nat.reduceBEq, Int.reduceNe, Int.reduceEq, Int.reduceLT, Int.reduceLE]
      refine callK_ext (e := fun args => ReflectliteValue.unpack (args.getD 0 (.tuple #[]))) Tryz.func156 (by kernel_rfl) (by kernel_rfl) (by kernel_rfl) (by kernel_rfl) (valueOfE _ _) ?_
      simp -dsimp only [push_cast, Nat.reduceAdd, Nat.reduceLeDiff, Nat.reduceBEq, Int.reduceNe, Int.reduceEq, Int.reduceLT, Int.reduceLE]
      have hN : New wx (wx.alloc (.cells #[.int .i64 n] 31)) 31 [.int .i64 n] := ⟨rfl⟩
      generalize wx.alloc (.cells #[.int .i64 n] 31) = w2 at hN
      have hB2 := hB.kept (Kept.new hN (X := fun _ => False)) id
      have hf : w2.frozen? ⟨b, 0, none⟩ = false := by
        simp only [World.frozen?]
        rw [show w2.heap[b]? = _ from hB2]
        simp
      refine callK_ext (e := ReflectliteValue.set) Tryz.func167 (by kernel_rfl) (by kernel_rfl) (by kernel_rfl) (by kernel_rfl) (setE _ _ n u _ (hN.cell rfl) (hB2.cell rfl) hf) ?_
      simp -dsimp only [push_cast, Nat.reduceAdd, Nat.reduceLeDiff, Nat.reduceBEq, Int.reduceNe, Int.reduceEq, Int.reduceLT, Int.reduceLE]
      have hP := Put.of_setRow (cs := [.int .i64 n]) hB2
      rw [setCell_eq_setRow w2 b 0 _ _ (0, 0) _ hB2]
      exact ⟨hP.blk, (hk0.trans (Kept.new hN (X := fun _ => False)) (fun _ _ => id)).weaken (fun _ _ h => h.elim) |>.trans hP.kept (fun _ _ => id)⟩
    | at_ a n ha =>
      simp -dsimp only [push_cast, Nat.reduceAdd, Nat.reduceLeDiff, Nat.reduceBEq, Int.reduceNe, Int.reduceEq, Int.reduceLT, Int.reduceLE, hz]
      refine callK_ext (e := ReflectliteType.typeOf) Tryz.func165 (by kernel_rfl) (by kernel_rfl) (by kernel_rfl) (by kernel_rfl) (typeOfA _ _) ?_
      simp -dsimp only [push_cast, Nat.reduceAdd, Nat.reduceLeDiff, Nat.reduceBEq, Int.reduceNe, Int.reduceEq, Int.reduceLT, Int.reduceLE]
      refine invK_of (mAssignableTo _ _) ?_
      refine callK_ext (e := ReflectliteType.relation "AssignableTo" ReflectliteType.assignableTo) Tryz.func198 (by kernel_rfl) (by kernel_rfl) (by kernel_rfl) (by kernel_rfl) (assignA _) ?_
      simp -dsimp only [push_cast, Nat.reduceAdd, Nat.reduceLeDiff, Nat.reduceBEq, Int.reduceNe, Int.reduceEq, Int.reduceLT, Int.reduceLE, c1]
      refine assert_lacks (z := .nilIface) Tryz.underlying221 (by kernel_rfl) (by kernel_rfl) ?_
      simp -dsimp only [push_cast, Nat.reduceAdd, Nat.reduceLeDiff, Nat.reduceBEq, Int.reduceNe, Int.reduceEq, Int.reduceLT, Int.reduceLE]
      refine assert_has Tryz.underlying139 (by kernel_rfl) ?_
      simp -dsimp only [push_cast, Nat.reduceAdd, Nat.reduceLeDiff, Nat.reduceBEq, Int.reduceNe, Int.reduceEq, Int.reduceLT, Int.reduceLE]
      refine invK_of (mUnwrap _ _) (callK_of (unwrap_c a n wx ha) ?_)
      rintro _ _ ⟨rfl, rfl⟩
      simp -dsimp only [push_cast, Nat.reduceAdd, Nat.reduceLeDiff, Nat.reduceBEq, Int.reduceNe, Int.reduceEq, Int.reduceLT, Int.reduceLE]
      exact ⟨⟨.bare n, hk⟩, Nat.zero_lt_one⟩
end Go.Proofs.YtplbgmoeannobaaGreatDoor
