/- Texts of this claim, merged: As, Tell, MnC, MnD, IdxI, MnE, MnF, RowM. -/
import Derived.Test.YtgodgfeinjminaaGreatDoorM9
import Derived.Test.YtgodgfeinjminaaGreatDoorM3
import Derived.Test.YtgodgfeinjminaaGreatDoorM2
import Derived.Test.YtgodgfeinjminaaGreatDoorTie
import Derived.WalkKit
import Derived.ProofKit
import Derived.Handy
import Derived.Lay
import Derived.OpenShut
import Derived.LaidMore
import Derived.Carry
import Derived.SevenTiedAt
import Derived.LaidHandle
import Derived.LaidSub
import Derived.LaidLaws
import Derived.Lib.LaidTab
import Derived.HandedShaped
import Derived.Shelf.Vars
section
namespace Go.Proofs.YtgodgfeinjminaaGreatDoor
open Go.Vc Go.Proofs Go.RowKit Cae
set_option maxRecDepth 100000
set_option linter.unusedSimpArgs false
set_option linter.unusedVariables false
attribute [local irreducible] wpL callK valK unitK runK Fun Sl Vc.Own vc vcOps opK pureK
open Go.RowKit Go.Extern.Stop Go.Stop Go.Extern
set_option maxHeartbeats 4000000

theorem unwrap_c (b : Nat) (n : Int) (w : World) (hB : w.cell? ⟨b, 0, none⟩ = some (.int .i64 n)) : Fun Tryz.prog 196 [.pointer (some ⟨b, 0, none⟩)] w fun v w' => v = .iface 78 (.int .i64 n) ∧ w' = w := by
 refine fun_of_vc Tryz.func196 rfl (by kernel_rfl) [2] rfl ?_
 simp -dsimp (maxSteps := 4000000) only [push_cast, fr0, Tryz.ntmps196, List.length_cons, List.length_nil, Nat.reduceAdd, Nat.reduceSub, Nat.reduceBEq, List.replicate_succ, List.replicate_zero]
 simp -dsimp only [push_cast, Nat.reduceAdd, Nat.reduceLeDiff, Nat.reduceBEq, decide_true, hB]

inductive IsErr (w : World) : Value → Int → Prop
 | bare (n : Int) : IsErr w (.iface 78 (.int .i64 n)) n
 | at_ (b : Nat) (n : Int) : w.cell? ⟨b, 0, none⟩ = some (.int .i64 n) → IsErr w (.iface 90 (.pointer (some ⟨b, 0, none⟩))) n

theorem IsErr.mono {w w' : World} {v : Value} {n : Int} {X : Nat → Prop} (h : IsErr w v n) (hk : Kept X w w') (hX : ∀ a, v = .iface 90 (.pointer (some a)) → ¬ X a.block) : IsErr w' v n := by
 cases h with
 | bare n => exact .bare n
 | at_ b n hb => exact .at_ b n (hk.cell hb (hX _ rfl))

theorem as_c (v u : Value) (n : Int) (b c : Nat) (w : World) (hv : IsErr w v n) (hB : Blk w b 78 [u]) (hc : w.cell? ⟨c, 0, none⟩ = some (.pointer (some ⟨b, 0, none⟩))) :
  Fun Tryz.prog 72 [v, .iface 112 (.pointer (some ⟨b, 0, none⟩)), .agg #[.pointer (some ⟨10, 112, none⟩), .pointer (some ⟨c, 0, none⟩), .int .u64 150], .iface 150 (.agg #[.pointer (some ⟨10, 78, none⟩)])] w
   fun r w' => r = .bool true ∧ Blk w' b 78 [.int .i64 n] ∧ Kept (· = b) w w' := by
 refine fun_of_vc Tryz.func72 rfl (by kernel_rfl) [8] rfl ?_
 simp -dsimp (maxSteps := 4000000) only [push_cast, fr0, Tryz.ntmps72, List.length_cons, List.length_nil, Nat.reduceAdd, Nat.reduceSub, Nat.reduceBEq, List.replicate_succ, List.replicate_zero]
 refine boxK_of ?_
 intro w1 hw1
 simp -dsimp only [push_cast, Nat.reduceAdd, Nat.reduceLeDiff, Nat.reduceBEq, decide_true]
 refine wpL_loop [0, 8, 9, 10, 11, 12, 14, 15, 16, 17, 18, 19, 20, 21, 22, 23, 24, 25, 26, 27, 28, 29, 30, 31, 32, 33, 34, 35, 36, 37, 38, 39, 40, 41, 42, 43, 44, 45, 46, 47, 48, 49, 50, 51, 52, 53, 54, 55, 56, 57, 58, 59, 60, 61] (fun z wx => IsErr wx (z 0) n ∧ Kept (fun _ => False) w1 wx) (fun z _ => match z 0 with | .iface _ (.pointer _) => 1 | _ => 0) ?_ ?_
 ·exact ⟨hv.mono (Kept.new hw1 (X := fun _ => False)) (fun _ _ => id), Kept.refl _ _⟩
 ·intro z wx hI
  obtain ⟨hv, hk⟩ := hI
  have hk0 : Kept (fun _ => False) w wx := (Kept.new hw1).trans hk (fun _ _ => id)
  have hB := hB.kept hk0 id
  have hc := hk0.cell hc id
  have c1 : cellsAt wx ⟨w.heap.size, 0, none⟩ 0 3 = some [.pointer (some ⟨10, 112, none⟩), .pointer (some ⟨c, 0, none⟩), .int .u64 150] :=
   cellsAt_of (b := w.heap.size) (o := 0) [.pointer (some ⟨10, 112, none⟩), .pointer (some ⟨c, 0, none⟩), .int .u64 150] 0 (fun j u hu => hk.cell (by simpa using hw1.cell hu) id)
  generalize hz : z 0 = v0 at hv
  cases hv with
  | bare n =>
   simp -dsimp only [push_cast, Nat.reduceAdd, Nat.reduceLeDiff, Nat.reduceBEq, decide_true, hz]
   refine callK_ext (e := ReflectliteType.typeOf) Tryz.func85 (by kernel_rfl) (by kernel_rfl) (by kernel_rfl) (by kernel_rfl) (typeOfE _ _) ?_
   simp -dsimp only [push_cast, Nat.reduceAdd, Nat.reduceLeDiff, Nat.reduceBEq, decide_true]
   refine invK_of (mAssignableTo _ _) ?_
   refine callK_ext (e := ReflectliteType.relation "AssignableTo" ReflectliteType.assignableTo) Tryz.func202 (by kernel_rfl) (by kernel_rfl) (by kernel_rfl) (by kernel_rfl) (assignE _) ?_
   simp -dsimp only [push_cast, Nat.reduceAdd, Nat.reduceLeDiff, Nat.reduceBEq, decide_true, c1]
   refine callK_ext (e := ReflectliteValue.method (ReflectliteValue.valueError "reflectlite.Value.Elem" 0) ReflectliteValue.elem) Tryz.func86 (by kernel_rfl) (by kernel_rfl) (by kernel_rfl) (by kernel_rfl) (elemVPE _ _ _ hc) ?_
   simp -dsimp only [push_cast, Nat.reduceAdd, Nat.reduceLeDiff, Nat.reduceBEq, decide_true]
   refine callK_ext (e := fun args => ReflectliteValue.unpack (args.getD 0 (.tuple #[]))) Tryz.func69 (by kernel_rfl) (by kernel_rfl) (by kernel_rfl) (by kernel_rfl) (valueOfE _ _) ?_
   simp -dsimp only [push_cast, Nat.reduceAdd, Nat.reduceLeDiff, Nat.reduceBEq, decide_true]
   have hN : New wx (wx.alloc (.cells #[.int .i64 n] 78)) 78 [.int .i64 n] := ⟨rfl⟩
   generalize wx.alloc (.cells #[.int .i64 n] 78) = w2 at hN
   have hB2 := hB.kept (Kept.new hN (X := fun _ => False)) id
   have hf : w2.frozen? ⟨b, 0, none⟩ = false := by
    simp only [World.frozen?]
    rw [show w2.heap[b]? = _ from hB2]
    simp
   refine callK_ext (e := ReflectliteValue.set) Tryz.func87 (by kernel_rfl) (by kernel_rfl) (by kernel_rfl) (by kernel_rfl) (setE _ _ n u _ (hN.cell rfl) (hB2.cell rfl) hf) ?_
   simp -dsimp only [push_cast, Nat.reduceAdd, Nat.reduceLeDiff, Nat.reduceBEq, decide_true]
   have hP := Put.of_setRow (cs := [.int .i64 n]) hB2
   rw [setCell_eq_setRow w2 b 0 _ _ (0, 0) _ hB2]
   exact ⟨hP.blk, (hk0.trans (Kept.new hN (X := fun _ => False)) (fun _ _ => id)).weaken (fun _ _ h => h.elim) |>.trans hP.kept (fun _ _ => id)⟩
  | at_ a n ha =>
   simp -dsimp only [push_cast, Nat.reduceAdd, Nat.reduceLeDiff, Nat.reduceBEq, decide_true, hz]
   refine callK_ext (e := ReflectliteType.typeOf) Tryz.func85 (by kernel_rfl) (by kernel_rfl) (by kernel_rfl) (by kernel_rfl) (typeOfA _ _) ?_
   simp -dsimp only [push_cast, Nat.reduceAdd, Nat.reduceLeDiff, Nat.reduceBEq, decide_true]
   refine invK_of (mAssignableTo _ _) ?_
   refine callK_ext (e := ReflectliteType.relation "AssignableTo" ReflectliteType.assignableTo) Tryz.func202 (by kernel_rfl) (by kernel_rfl) (by kernel_rfl) (by kernel_rfl) (assignA _) ?_
   simp -dsimp only [push_cast, Nat.reduceAdd, Nat.reduceLeDiff, Nat.reduceBEq, decide_true, c1]
   refine assert_lacks (z := .nilIface) Tryz.underlying155 (by kernel_rfl) (by kernel_rfl) ?_
   simp -dsimp only [push_cast, Nat.reduceAdd, Nat.reduceLeDiff, Nat.reduceBEq, decide_true]
   refine assert_has Tryz.underlying158 (by kernel_rfl) ?_
   simp -dsimp only [push_cast, Nat.reduceAdd, Nat.reduceLeDiff, Nat.reduceBEq, decide_true]
   refine invK_of (mUnwrap _ _) (callK_of (unwrap_c a n wx ha) ?_)
   rintro _ _ ⟨rfl, rfl⟩
   simp -dsimp only [push_cast, Nat.reduceAdd, Nat.reduceLeDiff, Nat.reduceBEq, decide_true]
   exact ⟨⟨.bare n, hk⟩, Nat.zero_lt_one⟩
end Go.Proofs.YtgodgfeinjminaaGreatDoor
end
section
namespace Go.Proofs.YtgodgfeinjminaaGreatDoor
open Go.Vc Go.Proofs Go.RowKit Cae
set_option maxRecDepth 100000
set_option linter.unusedSimpArgs false
set_option linter.unusedVariables false
attribute [local irreducible] wpL callK valK unitK runK Fun Sl Vc.Own vc vcOps opK pureK
open Go.RowKit Go.Extern.Stop Go.Stop Go.Extern
set_option maxHeartbeats 4000000

theorem asE_c (v u : Value) (n : Int) (b : Nat) (w : World) (hE : ErrVar w) (hv : IsErr w v n) (hB : Blk w b 78 [u]) :
  Fun Tryz.prog 46 [v, .iface 112 (.pointer (some ⟨b, 0, none⟩))] w
   fun r w' => r = .bool true ∧ Blk w' b 78 [.int .i64 n] ∧ Kept (· = b) w w' := by
 obtain ⟨ty, vv, hvv⟩ : ∃ ty vv, v = .iface ty vv := by cases hv <;> exact ⟨_, _, rfl⟩
 refine fun_of_vc Tryz.func46 rfl (by kernel_rfl) [4] rfl ?_
 simp -dsimp (maxSteps := 4000000) only [push_cast, fr0, Tryz.ntmps46, List.length_cons, List.length_nil, Nat.reduceAdd, Nat.reduceSub, Nat.reduceBEq, List.replicate_succ, List.replicate_zero]
 subst hvv
 simp -dsimp only [push_cast, Nat.reduceAdd, Nat.reduceLeDiff, Nat.reduceBEq, decide_true]
 refine callK_ext (e := fun args => ReflectliteValue.unpack (args.getD 0 (.tuple #[]))) Tryz.func69 (by kernel_rfl) (by kernel_rfl) (by kernel_rfl) (by kernel_rfl) (valueOfPE _ _) ?_
 have hN : New w (w.alloc (.cells #[.pointer (some ⟨b, 0, none⟩)] 112)) 112 [.pointer (some ⟨b, 0, none⟩)] := ⟨rfl⟩
 generalize w.alloc (.cells #[.pointer (some ⟨b, 0, none⟩)] 112) = w1 at hN
 have k1 : Kept (fun _ => False) w w1 := Kept.new hN
 simp -dsimp only [push_cast, Nat.reduceAdd, Nat.reduceLeDiff, Nat.reduceBEq, decide_true]
 refine allocK (z := [.pointer none, .pointer none, .int .u64 0]) (by kernel_rfl) ?_
 intro w2 hw2
 have k2 := k1.trans (Kept.new (X := fun _ => False) hw2) (fun _ _ => id)
 simp -dsimp only [push_cast, Nat.reduceAdd, Nat.reduceLeDiff, Nat.reduceBEq, decide_true]
 refine storeAgg (n := 3) (by kernel_rfl) hw2.blk rfl (by simp) (by simp [Value.oneCell']) ?_
 intro w3 hw3
 have k3 : Kept (fun k => w.heap.size ≤ k) w w3 := (k2.weaken (fun _ _ h => h.elim)).trans hw3.kept (fun i _ h => by have := hN.size; show w.heap.size ≤ i; omega)
 have hB3 := hB.kept k3 (by have := hB.lt; omega)
 have c3 : cellsAt w3 ⟨w1.heap.size, 0, none⟩ 0 3 = some [.pointer (some ⟨10, 112, none⟩), .pointer (some ⟨w.heap.size, 0, none⟩), .int .u64 150] :=
  cellsAt_of (b := w1.heap.size) (o := 0) [.pointer (some ⟨10, 112, none⟩), .pointer (some ⟨w.heap.size, 0, none⟩), .int .u64 150] 0 (fun j u hu => by simpa using hw3.blk.cell (by simpa using hu))
 simp -dsimp only [push_cast, Nat.reduceAdd, Nat.reduceLeDiff, Nat.reduceBEq, decide_true, c3]
 refine callK_ext (e := ReflectliteValue.methodAny (ReflectliteValue.valueError "reflectlite.Value.Type" 0) (fun t _ _ _ => ReflectliteType.toType t)) Tryz.func70 (by kernel_rfl) (by kernel_rfl) (by kernel_rfl) (by kernel_rfl) (typePE _ _) ?_
 have k3' : Kept (fun _ => False) w w3 := ⟨k3.os, k3.tape, k3.output, k3.size, fun i hi _ => k3.block i hi (by omega)⟩
 have hE3 : ErrVar w3 := k3'.cell hE id
 have hs3 : w3.cell? ⟨w.heap.size, 0, none⟩ = some (.pointer (some ⟨b, 0, none⟩)) := hw3.kept.cell (World.cell?_of_block (w := w1) (hw2.below.block w.heap.size (by have := hN.size; omega)) |>.trans (hN.cell rfl)) (by have := hN.size; show ¬ w.heap.size = w1.heap.size; omega)
 unfold ErrVar at hE3
 simp -dsimp only [push_cast, Nat.reduceAdd, Nat.reduceLeDiff, Nat.reduceBEq, decide_true]
 refine invK_of (mKind _ _) ?_
 refine callK_ext (e := ReflectliteType.abiMethod fun t => do pure (.int .u8 (← Rtype.kind t))) Tryz.func191 (by kernel_rfl) (by kernel_rfl) (by kernel_rfl) (by kernel_rfl) (kindPE _) ?_
 simp -dsimp only [push_cast, Nat.reduceAdd, Nat.reduceLeDiff, Nat.reduceBEq, decide_true, ne_eq, eq_self, not_true_eq_false, not_false_eq_true, true_imp_iff, false_imp_iff, Int.reduceNe, Int.reduceEq, Int.reduceLT, Int.reduceLE, Bool.not_true, Bool.not_false, c3]
 refine callK_ext (e := ReflectliteValue.method (ReflectliteValue.valueError "reflectlite.Value.IsNil" 0) ReflectliteValue.isNil) Tryz.func71 (by kernel_rfl) (by kernel_rfl) (by kernel_rfl) (by kernel_rfl) (isNilPE _ _ _ hs3) ?_
 simp -dsimp only [push_cast, Nat.reduceAdd, Nat.reduceLeDiff, Nat.reduceBEq, decide_true]
 refine invK_of (mElem _ _) ?_
 refine callK_ext (e := ReflectliteType.method ReflectliteType.elem) Tryz.func204 (by kernel_rfl) (by kernel_rfl) (by kernel_rfl) (by kernel_rfl) (elemPE _) ?_
 simp -dsimp only [push_cast, Nat.reduceAdd, Nat.reduceLeDiff, Nat.reduceBEq, decide_true]
 refine invK_of (mKind _ _) ?_
 refine callK_ext (e := ReflectliteType.abiMethod fun t => do pure (.int .u8 (← Rtype.kind t))) Tryz.func191 (by kernel_rfl) (by kernel_rfl) (by kernel_rfl) (by kernel_rfl) (kindE _) ?_
 simp -dsimp only [push_cast, Nat.reduceAdd, Nat.reduceLeDiff, Nat.reduceBEq, decide_true, ne_eq, eq_self, not_true_eq_false, not_false_eq_true, true_imp_iff, false_imp_iff, Int.reduceNe, Int.reduceEq, Int.reduceLT, Int.reduceLE, Bool.not_true, Bool.not_false, hE3]
 refine invK_of (mImplements _ _) ?_
 refine callK_ext (e := ReflectliteType.relation "Implements" ReflectliteType.implements_) Tryz.func205 (by kernel_rfl) (by kernel_rfl) (by kernel_rfl) (by kernel_rfl) (implementsE _) ?_
 simp -dsimp only [push_cast, Nat.reduceAdd, Nat.reduceLeDiff, Nat.reduceBEq, decide_true, c3]
 refine callK_of (as_c _ u n b w.heap.size w3 (hv.mono k3' (fun _ _ => id)) hB3 hs3) ?_
 rintro _ w4 ⟨rfl, hB4, hk4⟩
 simp -dsimp only [push_cast, Nat.reduceAdd, Nat.reduceLeDiff, Nat.reduceBEq, decide_true]
 exact ⟨hB4, (k3'.weaken (fun _ _ h => h.elim)).trans hk4 (fun _ _ => id)⟩

theorem tell_c (v : Value) (n : Int) (w : World) (hE : ErrVar w) (hv : IsErr w v n) : Fun Tryz.prog 30 [v] w fun r w' => r = .int .i64 n ∧ Below w.heap.size w w' := by
 obtain ⟨ty, vv, hvv⟩ : ∃ ty vv, v = .iface ty vv := by cases hv <;> exact ⟨_, _, rfl⟩
 refine fun_of_vc Tryz.func30 rfl (by kernel_rfl) [2] rfl ?_
 simp -dsimp (maxSteps := 4000000) only [push_cast, fr0, Tryz.ntmps30, List.length_cons, List.length_nil, Nat.reduceAdd, Nat.reduceSub, Nat.reduceBEq, List.replicate_succ, List.replicate_zero]
 subst hvv
 simp -dsimp only [push_cast, Nat.reduceAdd, Nat.reduceLeDiff, Nat.reduceBEq, decide_true]
 refine allocK (z := [.int .i64 0]) (by kernel_rfl) ?_
 intro w1 hw1
 have k1 : Kept (fun _ => False) w w1 := Kept.new hw1
 simp -dsimp only [push_cast, Nat.reduceAdd, Nat.reduceLeDiff, Nat.reduceBEq, decide_true]
 refine callK_of (asE_c _ _ n _ w1 (k1.cell hE id) (hv.mono k1 (fun _ _ => id)) hw1.blk) ?_
 rintro _ w2 ⟨rfl, hB2, hk2⟩
 have c2 := hB2.cell (o := 0) rfl
 simp -dsimp only [push_cast, Nat.reduceAdd, Nat.reduceLeDiff, Nat.reduceBEq, decide_true, c2]
 exact hw1.below.trans (hk2.below (Nat.le_of_lt (by have := hw1.size; omega)) (fun i h => by subst h; exact Nat.le_refl _))

end Go.Proofs.YtgodgfeinjminaaGreatDoor
end
section
namespace Go.Proofs.YtgodgfeinjminaaGreatDoor
open Go.Vc Go.Proofs Go.RowKit Cae
set_option maxRecDepth 100000
set_option linter.unusedSimpArgs false
set_option linter.unusedVariables false
attribute [local irreducible] wpL callK valK unitK runK Fun Sl Vc.Own vc vcOps opK pureK
set_option maxHeartbeats 8000000
theorem ErrVar.below {w w' : World} (h : ErrVar w) (hb : Below w.heap.size w w') : ErrVar w' := (hb.cell (World.block_lt_of_cell? w _ h)).trans h
theorem checked_c (w : World) (hd : Db w) (he : SErrs w) (hv : ErrVar w) (hg : 10 ≤ w.heap.size) : Fun Tryz.prog 16 [] w fun r w' => r = .bool true ∧ Below w.heap.size w w' := by
 refine fun_of_vc Tryz.func16 rfl (by kernel_rfl) [0] rfl ?_
 simp -dsimp (maxSteps := 4000000) only [push_cast, fr0, Tryz.ntmps16, List.length_cons, List.length_nil, Nat.reduceAdd, Nat.reduceSub, Nat.reduceBEq, List.replicate_succ, List.replicate_zero]
 -- factC: bytes; parse_C: parse lemma; w: world of the call ((Below.refl w.heap.size w): Below from w); names: w$5 the world behind
 refine callK_of (ruleParse_c factC (by decide) (w) (hd.below ((Below.refl w.heap.size w)) hd.lt) (he.below ((Below.refl w.heap.size w))) (by have := ((Below.refl w.heap.size w)).size; omega)) ?_
 rintro _ w1 ⟨hP, hb1⟩
 rcases hP with ⟨f', v, e1, rfl, hV⟩ | ⟨e, pos, b, e1, _⟩
 rotate_left
 ·rw [parse_C] at e1; cases e1
 rw [parse_C] at e1
 cases e1
 have hV0 := hV
 obtain ⟨cv, rv, cs, rs, rfl, S1, S2, A1, A2⟩ := hV
 obtain ⟨ca, cc, rfl, hcc⟩ := S1.shape
 obtain ⟨ra, rc, rfl, hrc⟩ := S2.shape
 have z1 := hb1.size
 simp -dsimp only [push_cast, Nat.reduceAdd, Nat.reduceLeDiff, Nat.reduceBEq, decide_true, ne_eq, eq_self, not_true_eq_false, not_false_eq_true, true_imp_iff, false_imp_iff, Int.reduceNe, Int.reduceEq, Int.reduceLT, Int.reduceLE, Bool.not_true, Bool.not_false]
 refine allocK (z := [.slice none 0 0, .slice none 0 0, .bool false]) (by kernel_rfl) ?_
 intro w2 hw2
 have z2 := hw2.size
 simp -dsimp only [push_cast, Nat.reduceAdd, Nat.reduceLeDiff, Nat.reduceBEq, decide_true, ne_eq, eq_self, not_true_eq_false, not_false_eq_true, true_imp_iff, false_imp_iff, Int.reduceNe, Int.reduceEq, Int.reduceLT, Int.reduceLE, Bool.not_true, Bool.not_false]
 refine storeAgg (n := 3) (by kernel_rfl) hw2.blk rfl (by simp) (by intro v hv; simp only [List.mem_cons, List.not_mem_nil, or_false] at hv; rcases hv with rfl | rfl | rfl <;> rfl) ?_
 intro w3 hw3
 have z3 := hw3.size
 have B3 : Blk w3 w1.heap.size 26 [.slice ca cs.length cc, .slice ra rs.length rc, .bool fileC.els] := hw3.blk
 have hb13 : Below w1.heap.size w1 w3 := hw2.below.trans (hw3.kept.below (by omega) (fun i h => by omega))
 have hbw3 := hb1.trans (hb13.mono z1)
 have d3 : cellsAt w3 ⟨w1.heap.size, 0, none⟩ 0 3 = some [.slice ca cs.length cc, .slice ra rs.length rc, .bool fileC.els] := B3.cellsAt
 have hpo := parse_ok (s := factC) (by decide) parse_C
 have hpp := parse_pn parse_C (by decide)
 have hV3 := hV0.below hb13
 simp -dsimp only [push_cast, Nat.reduceAdd, Nat.reduceLeDiff, Nat.reduceBEq, decide_true, ne_eq, eq_self, not_true_eq_false, not_false_eq_true, true_imp_iff, false_imp_iff, Int.reduceNe, Int.reduceEq, Int.reduceLT, Int.reduceLE, Bool.not_true, Bool.not_false, d3]
 refine callK_of (check_c fileC hpo.1 hpp (by omega) (by omega) _ _ w3 hV3) ?_
 rintro _ w4 ⟨hE, hb4⟩
 rw [chk_C] at hE
 obtain rfl : _ = Value.nilIface := hE
 have z4 := hb4.size
 have B4 := B3.below hb4 B3.lt
 have d4 : cellsAt w4 ⟨w1.heap.size, 0, none⟩ 0 3 = some [.slice ca cs.length cc, .slice ra rs.length rc, .bool fileC.els] := B4.cellsAt
 simp -dsimp only [push_cast, Nat.reduceAdd, Nat.reduceLeDiff, Nat.reduceBEq, decide_true, ne_eq, eq_self, not_true_eq_false, not_false_eq_true, true_imp_iff, false_imp_iff, Int.reduceNe, Int.reduceEq, Int.reduceLT, Int.reduceLE, Bool.not_true, Bool.not_false, d4]
 refine callK_of (names_c fileC hpo.1.1 (by omega) _ _ w4 (hV3.below hb4)) ?_
 rintro _ w5 ⟨hN, hb5⟩
 have z5 := hb5.size
 unfold NamesRes at hN
 rw [names_C] at hN
 obtain ⟨mb, hmb, rfl, ⟨kvs, hM, hA⟩, hRN⟩ := hN
 have hbw5 := (hbw3.trans (hb4.mono (by omega))).trans (hb5.mono (by omega))
 simp -dsimp only [push_cast, Nat.reduceAdd, Nat.reduceLeDiff, Nat.reduceBEq, decide_true, ne_eq, eq_self, not_true_eq_false, not_false_eq_true, true_imp_iff, false_imp_iff, Int.reduceNe, Int.reduceEq, Int.reduceLT, Int.reduceLE, Bool.not_true, Bool.not_false]
 have hf := NamV.find (n := [98]) hA
 rcases hf with ⟨f1, f2⟩ | ⟨s, u, f1, f2, hs, ha⟩
 ·cases f1
 have hs97 : s = [(97, 98)] := by cases f1; rfl
 subst hs97
 refine lookupG (kt := 9) (et := 81) (z := .slice none 0 0) (c := false) (k := [98]) (by kernel_rfl) (keyStr (by kernel_rfl)) (by kernel_rfl) hM ?_
 rw [if_neg (by decide), f2]
 obtain ⟨sa, sc, rfl, _⟩ := hs.shape
 have hdb5 := hd.below hbw5 hd.lt
 simp -dsimp only [push_cast, Nat.reduceAdd, Nat.reduceLeDiff, Nat.reduceBEq, decide_true, ne_eq, eq_self, not_true_eq_false, not_false_eq_true, true_imp_iff, false_imp_iff, Int.reduceNe, Int.reduceEq, Int.reduceLT, Int.reduceLE, Bool.not_true, Bool.not_false, Option.getD_some]
 refine callK_of (print_c [(97, 98)] (by decide) (by intro r hr; simp at hr; subst hr; decide) _ _ w5 hs hdb5) ?_
 rintro _ w6 ⟨rfl, hb6⟩
 have z6 := hb6.size
 have hbw6 := hbw5.trans (hb6.mono (by omega))
 rw [print_C]
 have B6 := (B4.below hb5 B4.lt).below hb6 (by have := B4.lt; omega)
 have hd6 := hd.below hbw6 hd.lt
 have he6 := he.below hbw6
 have hv6 := hv.below hbw6
 simp -dsimp only [push_cast, Nat.reduceAdd, Nat.reduceLeDiff, Nat.reduceBEq, decide_true, ne_eq, eq_self, not_true_eq_false, not_false_eq_true, true_imp_iff, false_imp_iff, Int.reduceNe, Int.reduceEq, Int.reduceLT, Int.reduceLE, Bool.not_true, Bool.not_false]
 refine callK_of (ruleParse_c factD (by decide) w6 hd6 he6 (by omega)) ?_
 rintro _ w7 ⟨hP, hb7⟩
 have z7 := hb7.size
 rcases hP with ⟨f', v, e1, rfl, hV⟩ | ⟨e, pos, b, e1, _⟩
 rotate_left
 ·rw [parse_D] at e1; cases e1
 rw [parse_D] at e1
 cases e1
 have hW0 := hV
 obtain ⟨cv', rv', cs', rs', rfl, S1', S2', A1', A2'⟩ := hV
 obtain ⟨ca', cc', rfl, hcc'⟩ := S1'.shape
 obtain ⟨ra', rc', rfl, hrc'⟩ := S2'.shape
 have B7 := B6.below hb7 B6.lt
 have hbw7 := hbw6.trans (hb7.mono (by omega))
 simp -dsimp only [push_cast, Nat.reduceAdd, Nat.reduceLeDiff, Nat.reduceBEq, decide_true, ne_eq, eq_self, not_true_eq_false, not_false_eq_true, true_imp_iff, false_imp_iff, Int.reduceNe, Int.reduceEq, Int.reduceLT, Int.reduceLE, Bool.not_true, Bool.not_false]
 refine storeAgg (n := 3) (by kernel_rfl) B7 rfl (by simp) (by intro v hv; simp only [List.mem_cons, List.not_mem_nil, or_false] at hv; rcases hv with rfl | rfl | rfl <;> rfl) ?_
 intro w8 hw8
 have z8 := hw8.size
 have B8 : Blk w8 w1.heap.size 26 [.slice ca' cs'.length cc', .slice ra' rs'.length rc', .bool fileD.els] := hw8.blk
 have d8 : cellsAt w8 ⟨w1.heap.size, 0, none⟩ 0 3 = some [.slice ca' cs'.length cc', .slice ra' rs'.length rc', .bool fileD.els] := B8.cellsAt
 have hpo' := parse_ok (s := factD) (by decide) parse_D
 have hpp' := parse_pn parse_D (by decide)
 have hbw8 : Below w.heap.size w w8 := hbw7.trans (hw8.kept.below (by omega) (fun i h => by omega))
 have hV8 : FileV (· = w1.heap.size) w8 (.agg #[.slice ca' cs'.length cc', .slice ra' rs'.length rc', .bool fileD.els]) fileD := hW0.mono hw8.kept (fun i h => by omega) (fun i h => by omega)
 simp -dsimp only [push_cast, Nat.reduceAdd, Nat.reduceLeDiff, Nat.reduceBEq, decide_true, ne_eq, eq_self, not_true_eq_false, not_false_eq_true, true_imp_iff, false_imp_iff, Int.reduceNe, Int.reduceEq, Int.reduceLT, Int.reduceLE, Bool.not_true, Bool.not_false, d8]
 refine callK_of (check_c fileD hpo'.1 hpp' (by omega) (by omega) _ _ w8 hV8) ?_
 rintro _ w9 ⟨hE, hb9⟩
 rw [chk_D] at hE
 obtain ⟨eb, heb, rfl, hEB⟩ := hE
 have hbw9 := hbw8.trans (hb9.mono (by omega))
 have c9 : w9.cell? ⟨eb, 0, none⟩ = some (.int .i64 7) := hEB.cell rfl
 simp -dsimp only [push_cast, Nat.reduceAdd, Nat.reduceLeDiff, Nat.reduceBEq, decide_true, ne_eq, eq_self, not_true_eq_false, not_false_eq_true, true_imp_iff, false_imp_iff, Int.reduceNe, Int.reduceEq, Int.reduceLT, Int.reduceLE, Bool.not_true, Bool.not_false]
 refine callK_of (tell_c _ 7 w9 (hv.below hbw9) (.at_ eb 7 c9)) ?_
 rintro _ wa ⟨rfl, hba⟩
 simp -dsimp only [push_cast, Nat.reduceAdd, Nat.reduceLeDiff, Nat.reduceBEq, decide_true, ne_eq, eq_self, not_true_eq_false, not_false_eq_true, true_imp_iff, false_imp_iff, Int.reduceNe, Int.reduceEq, Int.reduceLT, Int.reduceLE, Bool.not_true, Bool.not_false]
 exact hbw9.trans (hba.mono hbw9.size)
end Go.Proofs.YtgodgfeinjminaaGreatDoor
end
section
namespace Go.Proofs.YtgodgfeinjminaaGreatDoor
open Go.Vc Go.Proofs Go.RowKit Cae
set_option maxRecDepth 100000
set_option linter.unusedSimpArgs false
set_option linter.unusedVariables false
attribute [local irreducible] wpL callK valK unitK runK Fun Sl Vc.Own vc vcOps opK pureK
set_option maxHeartbeats 8000000
theorem meant_c (w : World) (hd : Db w) (he : SErrs w) (hv : ErrVar w) (hl : Least w) (hg : 10 ≤ w.heap.size) : Fun Tryz.prog 6 [] w fun r w' => r = .bool true ∧ Below w.heap.size w w' := by
 refine fun_of_vc Tryz.func6 rfl (by kernel_rfl) [0] rfl ?_
 simp -dsimp (maxSteps := 4000000) only [push_cast, fr0, Tryz.ntmps6, List.length_cons, List.length_nil, Nat.reduceAdd, Nat.reduceSub, Nat.reduceBEq, List.replicate_succ, List.replicate_zero]
 refine callK_of (ruleParse_c factE (by decide) w hd he (by omega)) ?_
 rintro _ w1 ⟨hP, hb1⟩
 have z1 := hb1.size
 rcases hP with ⟨f', v, e1, rfl, hV⟩ | ⟨e, pos, b, e1, _⟩
 rotate_left
 ·rw [parse_E] at e1; cases e1
 rw [parse_E] at e1
 cases e1
 have hV0 := hV
 obtain ⟨cv, rv, cs, rs, rfl, S1, S2, A1, A2⟩ := hV
 obtain ⟨ca, cc, rfl, hcc⟩ := S1.shape
 obtain ⟨ra, rc, rfl, hrc⟩ := S2.shape
 simp -dsimp only [push_cast, Nat.reduceAdd, Nat.reduceLeDiff, Nat.reduceBEq, decide_true, ne_eq, eq_self, not_true_eq_false, not_false_eq_true, true_imp_iff, false_imp_iff, Int.reduceNe, Int.reduceEq, Int.reduceLT, Int.reduceLE, Bool.not_true, Bool.not_false]
 refine allocK (z := [.slice none 0 0, .slice none 0 0, .bool false]) (by kernel_rfl) ?_
 intro w2 hw2
 have z2 := hw2.size
 simp -dsimp only [push_cast, Nat.reduceAdd, Nat.reduceLeDiff, Nat.reduceBEq, decide_true, ne_eq, eq_self, not_true_eq_false, not_false_eq_true, true_imp_iff, false_imp_iff, Int.reduceNe, Int.reduceEq, Int.reduceLT, Int.reduceLE, Bool.not_true, Bool.not_false]
 refine storeAgg (n := 3) (by kernel_rfl) hw2.blk rfl (by simp) (by intro v hv; simp only [List.mem_cons, List.not_mem_nil, or_false] at hv; rcases hv with rfl | rfl | rfl <;> rfl) ?_
 intro w3 hw3
 have z3 := hw3.size
 have B3 : Blk w3 w1.heap.size 26 [.slice ca cs.length cc, .slice ra rs.length rc, .bool fileE.els] := hw3.blk
 have hb13 : Below w1.heap.size w1 w3 := hw2.below.trans (hw3.kept.below (by omega) (fun i h => by omega))
 have hbw3 := hb1.trans (hb13.mono z1)
 have hpo := parse_ok (s := factE) (by decide) parse_E
 have hpp := parse_pn parse_E (by decide)
 have hV3 := hV0.below hb13
 have hd3 := hd.below hbw3 hd.lt
 simp -dsimp only [push_cast, Nat.reduceAdd, Nat.reduceLeDiff, Nat.reduceBEq, decide_true, ne_eq, eq_self, not_true_eq_false, not_false_eq_true, true_imp_iff, false_imp_iff, Int.reduceNe, Int.reduceEq, Int.reduceLT, Int.reduceLE, Bool.not_true, Bool.not_false]
 refine callK_of (checked_c w3 hd3 (he.below hbw3) (hv.below hbw3) (by omega)) ?_
 rintro _ w4 ⟨rfl, hb4⟩
 have z4 := hb4.size
 have hbw4 := hbw3.trans (hb4.mono (by omega))
 have B4 := (B3.below hb4 B3.lt).drew
 have hbd := below_drew w4
 have hV4 := (hV3.below hb4).below hbd
 have zd : w4.drew.heap.size = w4.heap.size := rfl
 have hcl : ∀ w'', Blk w'' w1.heap.size 26 [.slice ca cs.length cc, .slice ra rs.length rc, .bool fileE.els] → cellsAt w'' ⟨w1.heap.size, 0, none⟩ 0 3 = some [.slice ca cs.length cc, .slice ra rs.length rc, .bool fileE.els] := fun w'' h => h.cellsAt
 have d4 := hcl _ B4
 simp -dsimp only [push_cast, Nat.reduceAdd, Nat.reduceLeDiff, Nat.reduceBEq, decide_true, ne_eq, eq_self, not_true_eq_false, not_false_eq_true, true_imp_iff, false_imp_iff, Int.reduceNe, Int.reduceEq, Int.reduceLT, Int.reduceLE, Bool.not_true, Bool.not_false]
 refine wpL_drawN (fun w' => Blk w' w1.heap.size 26 [.slice ca cs.length cc, .slice ra rs.length rc, .bool fileE.els]) mixed (by kernel_rfl) B4 ?_
 simp -dsimp only [push_cast, Nat.reduceAdd, Nat.reduceLeDiff, Nat.reduceBEq, decide_true, ne_eq, eq_self, not_true_eq_false, not_false_eq_true, true_imp_iff, false_imp_iff, Int.reduceNe, Int.reduceEq, Int.reduceLT, Int.reduceLE, Bool.not_true, Bool.not_false, d4]
 refine ⟨fun w'' h => by rw [hcl w'' h]; exact rfl, ?_⟩
 have hbw4d := hbw4.trans (hbd.mono (by omega))
 refine callK_of (decode_c factT (by decide) w4.drew (hl.below hbw4d)) ?_
 rintro uv w5 ⟨hO, hb5⟩
 have z5 := hb5.size
 refine ⟨B4.below hb5 B4.lt, ?_⟩
 obtain ⟨ua, uc, rfl⟩ := hO.slice
 simp -dsimp only [push_cast, Nat.reduceAdd, Nat.reduceLeDiff, Nat.reduceBEq, decide_true, ne_eq, eq_self, not_true_eq_false, not_false_eq_true, true_imp_iff, false_imp_iff, Int.reduceNe, Int.reduceEq, Int.reduceLT, Int.reduceLE, Bool.not_true, Bool.not_false]
 refine callK_of (breaks_c fileE hpo.1 hpp (by omega) (by omega) (udec 0 factT) (by decide +kernel) (fun _ => False) _ _ w5 ((hV4.below hb5).mono (Kept.refl (fun _ => False) _) (fun _ h => h.elim) (fun _ h => h.elim)) (hO.sl.weaken (fun _ h => h.elim))) ?_
 rintro _ w6 ⟨hB, hb6⟩
 have z6 := hb6.size
 refine ⟨(B4.below hb5 B4.lt).below hb6 (by have := B4.lt; omega), ?_⟩
 have hbw6 := (hbw4d.trans (hb5.mono (by omega))).trans (hb6.mono (by omega))
 unfold BrkR at hB
 rw [chk_E] at hB
 obtain ⟨nm, bv, hnm, rfl, hBO⟩ := hB
 rw [names_E] at hnm
 cases hnm
 rw [units_T, breaks_E] at hBO
 obtain ⟨ba, bc, rfl⟩ := hBO.slice
 simp -dsimp only [push_cast, Nat.reduceAdd, Nat.reduceLeDiff, Nat.reduceBEq, decide_true, ne_eq, eq_self, not_true_eq_false, not_false_eq_true, true_imp_iff, false_imp_iff, Int.reduceNe, Int.reduceEq, Int.reduceLT, Int.reduceLE, Bool.not_true, Bool.not_false]
 refine rowK elI_31 rfl rfl (by omega) ?_
 intro w7 hw7
 have z7 := hw7.size
 have hO7 : Vc.Own w6.heap.size 3 1 encN w7 (.slice (some ⟨w6.heap.size, 0, none⟩) 4 4) [0, 2, 3, 5] := hw7.own (by rfl) rfl (fun _ => rfl) (by omega) (by omega)
 simp -dsimp only [push_cast, Nat.reduceAdd, Nat.reduceLeDiff, Nat.reduceBEq, decide_true, ne_eq, eq_self, not_true_eq_false, not_false_eq_true, true_imp_iff, false_imp_iff, Int.reduceNe, Int.reduceEq, Int.reduceLT, Int.reduceLE, Bool.not_true, Bool.not_false]
 refine callK_of (equalN_c [0, 2, 3, 5] [0, 2, 3, 5] (by decide) _ _ _ _ w7 (hBO.new hw7).sl hO7.sl) ?_
 rintro _ w8 ⟨rfl, hb8⟩
 simp -dsimp only [push_cast, Nat.reduceAdd, Nat.reduceLeDiff, Nat.reduceBEq, decide_true, ne_eq, eq_self, not_true_eq_false, not_false_eq_true, true_imp_iff, false_imp_iff, Int.reduceNe, Int.reduceEq, Int.reduceLT, Int.reduceLE, Bool.not_true, Bool.not_false]
 exact ((hbw6.trans (hw7.below.mono (by omega))).trans (hb8.mono (by omega)))
end Go.Proofs.YtgodgfeinjminaaGreatDoor
end
section
namespace Go.Proofs.YtgodgfeinjminaaGreatDoor
open Go.Vc Go.Proofs Go.RowKit Cae
set_option maxRecDepth 100000
set_option linter.unusedSimpArgs false
set_option linter.unusedVariables false
attribute [local irreducible] wpL callK valK unitK runK Fun Sl Vc.Own vc vcOps opK pureK

theorem indexI_c (l : List Int) (hl : l.length < 10000000) (y : Int) (X : Nat → Prop) (v : Value) (w : World) (hv : Sl X 1 (En encI) w v l) :
  Fun Tryz.prog 24 [v, .int .i64 y] w fun r w' => (∃ n : Int, r = .int .i64 n ∧ (0 ≤ n ↔ y ∈ l)) ∧ Below w.heap.size w w' := by
 obtain ⟨a, c, rfl, hc⟩ := hv.shape
 refine fun_of_vc Tryz.func24 rfl (by kernel_rfl) [4] rfl ?_
 simp -dsimp (maxSteps := 4000000) only [push_cast, fr0, Tryz.ntmps24, List.length_cons, List.length_nil, Nat.reduceAdd, Nat.reduceSub, Nat.reduceBEq, List.replicate_succ, List.replicate_zero]
 refine wpL_loop [4, 5, 8, 9, 10, 11, 12, 13, 14, 15, 16, 17, 18] (fun z wx => ∃ (i : Nat), z 8 = .int .i64 i ∧ i ≤ l.length ∧ (y ∉ l.take i) ∧ Below w.heap.size w wx) (fun z _ => l.length - (intOf (z 8)).toNat) ?_ ?_
 ·exact ⟨0, rfl, Nat.zero_le _, by simp, Below.refl _ _⟩
 ·intro z wx hI
  obtain ⟨i, h8, hi, hok, hb⟩ := hI
  simp -dsimp only [push_cast, Nat.reduceAdd, Nat.reduceLeDiff, Nat.reduceBEq, decide_true, h8]
  refine ⟨fun hlt => ?_, fun hge => ?_⟩
  ·obtain ⟨x, hx, hxm, hd, ht⟩ := lt_get (l := l) (i := i) (by omega)
   obtain ⟨b, o, rfl, hX, hcell⟩ := (hv.below hb).get hx
   have c0 : wx.cell? ⟨b, o + i, none⟩ = some (.int .i64 x) := by simpa using hcell 0 _ rfl
   simp -dsimp only [push_cast, Nat.reduceAdd, Nat.reduceLeDiff, Nat.reduceBEq, decide_true, c0]
   refine ⟨⟨by omega, by omega⟩, fun heq => ?_, fun hne => ?_⟩
   ·exact ⟨⟨i, rfl, ⟨fun _ => by rw [heq]; exact hxm, fun _ => by omega⟩⟩, hb⟩
   ·refine ⟨⟨by omega, by omega⟩, ⟨i + 1, rfl, by omega, ?_, hb⟩, by rw [h8]; simp only [intOf]; omega⟩
    rw [ht, List.mem_append, List.mem_singleton]
    rintro (hy | rfl)
    ·exact hok hy
    ·exact hne rfl
  ·refine ⟨⟨-1, rfl, ?_⟩, hb⟩
   rw [List.take_of_length_le (by omega)] at hok
   constructor
   ·intro h; omega
   ·intro h; exact absurd h hok

theorem containsI_c (l : List Int) (hl : l.length < 10000000) (y : Int) (X : Nat → Prop) (v : Value) (w : World) (hv : Sl X 1 (En encI) w v l) :
  Fun Tryz.prog 14 [v, .int .i64 y] w fun r w' => (∃ b : Bool, r = .bool b ∧ (b = true ↔ y ∈ l)) ∧ Below w.heap.size w w' := by
 refine fun_of_vc Tryz.func14 rfl (by kernel_rfl) [4] rfl ?_
 simp -dsimp (maxSteps := 4000000) only [push_cast, fr0, Tryz.ntmps14, List.length_cons, List.length_nil, Nat.reduceAdd, Nat.reduceSub, Nat.reduceBEq, List.replicate_succ, List.replicate_zero]
 refine callK_of (indexI_c l hl y X v w hv) ?_
 rintro r w1 ⟨⟨n, rfl, hn⟩, hb⟩
 simp -dsimp only [push_cast, Nat.reduceAdd, Nat.reduceLeDiff, Nat.reduceBEq, decide_true]
 exact ⟨⟨_, rfl, by rw [decide_eq_true_iff]; exact hn⟩, hb⟩

end Go.Proofs.YtgodgfeinjminaaGreatDoor
end
section
namespace Go.Proofs.YtgodgfeinjminaaGreatDoor
open Go.Vc Go.Proofs Go.RowKit Cae
set_option maxRecDepth 100000
set_option linter.unusedSimpArgs false
set_option linter.unusedVariables false
attribute [local irreducible] wpL callK valK unitK runK Fun Sl Vc.Own vc vcOps opK pureK
set_option maxHeartbeats 8000000
theorem slInts {X : Nat → Prop} {w : World} {v : Value} {l : List Nat} (h : Sl X 1 (En encN) w v l) : Sl X 1 (En Vc.encI) w v (intsN l) := by
 unfold Sl at h ⊢
 obtain ⟨a, c, rfl, hc, el⟩ := h
 refine ⟨a, c, by simp [intsN], by simpa [intsN] using hc, fun i x hx => ?_⟩
 unfold intsN at hx
 rw [List.getElem?_map] at hx
 obtain ⟨n, hn, rfl⟩ := Option.map_eq_some_iff.1 hx
 exact el i n hn
theorem containsN_c (l : List Nat) (hl : l.length < 10000000) (y : Nat) (X : Nat → Prop) (v : Value) (w : World) (hv : Sl X 1 (En encN) w v l) :
  Fun Tryz.prog 14 [v, .int .i64 y] w fun r w' => r = .bool (l.contains y) ∧ Below w.heap.size w w' := by
 refine (containsI_c (intsN l) (by simpa [intsN] using hl) y X v w (slInts hv)).mono ?_
 rintro r w' ⟨⟨b, rfl, hb⟩, hbb⟩
 refine ⟨?_, hbb⟩
 congr 1
 have : b = true ↔ l.contains y = true := by
  rw [hb, List.contains_iff_mem]
  unfold intsN
  rw [List.mem_map]
  constructor
  ·rintro ⟨n, hn, e⟩
   have : n = y := by omega
   subst this; exact hn
  ·intro h; exact ⟨y, h, rfl⟩
 cases b <;> cases hc : l.contains y <;> simp_all
end Go.Proofs.YtgodgfeinjminaaGreatDoor
end
section
namespace Cae
open Go.Proofs.YtgodgfeinjminaaGreatDoor
def turnF (f : FileP) : FileP := ⟨f.classes, f.rules.map turnR, !f.els⟩
theorem rulesS_turn {nm : NamesP} : ∀ l : List RuleP, rulesS nm (l.map turnR) = rulesS nm l
 | [] => rfl
 | r :: l => by
  rw [List.map_cons, rulesS, rulesS, rulesS_turn l]
  rfl
theorem chk_turn (f : FileP) : chkS (turnF f) = chkS f := by
 unfold chkS
 show (match namesS [] f.classes with | .error e => _ | .ok nm => (rulesS nm (f.rules.map turnR)).map _) = _
 cases namesS [] f.classes with
 | error e => rfl
 | ok nm => dsimp only; rw [rulesS_turn]
theorem breaksM_len {has : KindP → Int → Prop} {pts : List Int} (rules : List RuleP) (els : Bool) : (breaksM has pts rules els).length ≤ pts.length + 1 := by
 unfold breaksM
 split
 ·simp
 ·exact Nat.le_trans (List.length_filter_le _ _) (by simp)
def turnT (x : Nat × Bool × Nat × Nat) : Nat × Bool × Nat × Nat := (x.1, !x.2.1, x.2.2.1, x.2.2.2)
end Cae
namespace Go.Proofs.YtgodgfeinjminaaGreatDoor
open Go.Vc Go.Proofs Go.RowKit Cae
set_option maxRecDepth 100000
set_option linter.unusedSimpArgs false
set_option linter.unusedVariables false
attribute [local irreducible] wpL callK valK unitK runK Fun Sl Vc.Own vc vcOps opK pureK
set_option maxHeartbeats 8000000
structure Vm (w : World) : Prop where
 d : Db w
 e : SErrs w
 v : ErrVar w
 l : Least w
 g : 10 ≤ w.heap.size
theorem Vm.below {w w' : World} (h : Vm w) (hb : Below w.heap.size w w') : Vm w' := ⟨h.d.below hb h.d.lt, h.e.below hb, h.v.below hb, h.l.below hb, by have := hb.size; have := h.g; omega⟩
theorem cells3 {a1 a2 : Option Addr} {n1 k1 n2 k2 : Nat} {e : Bool} : ∀ v ∈ [Value.slice a1 n1 k1, .slice a2 n2 k2, .bool e], v.oneCell' = true := by
 intro v hv
 simp only [List.mem_cons, List.not_mem_nil, or_false] at hv
 rcases hv with rfl | rfl | rfl <;> rfl
theorem all2_map2 {α β γ δ : Type} {R : α → β → Prop} {S : γ → δ → Prop} {f : α → γ} {g : β → δ} {l : List α} {m : List β} (h : All2 R l m) (k : ∀ a b, R a b → S (f a) (g b)) : All2 S (l.map f) (m.map g) := by
 induction h with
 | nil => exact .nil
 | cons h1 _ ih => exact .cons (k _ _ h1) ih
theorem meanTurned_c (s t : List UInt8) (w : World) (hv : Vm w) : Fun Tryz.prog 5 [str s, str t] w fun r w' => r = .bool true ∧ Below w.heap.size w w' := by
 refine fun_of_vc Tryz.func5 rfl (by kernel_rfl) [4] rfl ?_
 simp -dsimp (maxSteps := 4000000) only [push_cast, fr0, Tryz.ntmps5, List.length_cons, List.length_nil, Nat.reduceAdd, Nat.reduceSub, Nat.reduceBEq, List.replicate_succ, List.replicate_zero]
 -- the beginning of each law: Below.refl _ _ what to do where the text is long
 refine ⟨fun hlong => Below.refl _ _, fun hshort => ?_⟩
 refine callK_of (meant_c w hv.d hv.e hv.v hv.l hv.g) ?_
 rintro _ w1 ⟨rfl, hb1⟩
 have z1 := hb1.size
 have hv1 := hv.below hb1
 simp -dsimp only [push_cast, Nat.reduceAdd, Nat.reduceLeDiff, Nat.reduceBEq, decide_true, ne_eq, eq_self, not_true_eq_false, not_false_eq_true, true_imp_iff, false_imp_iff, Int.reduceNe, Int.reduceEq, Int.reduceLT, Int.reduceLE, Bool.not_true, Bool.not_false]
 refine callK_of (right_c s w1 hv1.d hv1.e hv1.g) ?_
 rintro _ w2 ⟨⟨a1, n1, k1, a2, n2, k2, e, b, rfl, hright⟩, hb2⟩
 have z2 := hb2.size
 have hbw2 := hb1.trans (hb2.mono z1)
 simp -dsimp only [push_cast, Nat.reduceAdd, Nat.reduceLeDiff, Nat.reduceBEq, decide_true, ne_eq, eq_self, not_true_eq_false, not_false_eq_true, true_imp_iff, false_imp_iff, Int.reduceNe, Int.reduceEq, Int.reduceLT, Int.reduceLE, Bool.not_true, Bool.not_false]
 refine allocK (z := [.slice none 0 0, .slice none 0 0, .bool false]) (by kernel_rfl) ?_
 intro w3 hw3
 have z3 := hw3.size
 simp -dsimp only [push_cast, Nat.reduceAdd, Nat.reduceLeDiff, Nat.reduceBEq, decide_true, ne_eq, eq_self, not_true_eq_false, not_false_eq_true, true_imp_iff, false_imp_iff, Int.reduceNe, Int.reduceEq, Int.reduceLT, Int.reduceLE, Bool.not_true, Bool.not_false]
 refine storeAgg (n := 3) (by kernel_rfl) hw3.blk rfl (by simp) cells3 ?_
 intro w4 hw4
 have z4 := hw4.size
 have B4 : Blk w4 w2.heap.size 26 [.slice a1 n1 k1, .slice a2 n2 k2, .bool e] := hw4.blk
 have hb24 : Below w2.heap.size w2 w4 := hw3.below.trans (hw4.kept.below (by omega) (fun i h => by omega))
 have hbw4 := hbw2.trans (hb24.mono (by omega))
 have hv4 := hv.below hbw4
 have d4 : cellsAt w4 ⟨w2.heap.size, 0, none⟩ 0 3 = some [.slice a1 n1 k1, .slice a2 n2 k2, .bool e] := B4.cellsAt
 cases b with
 | false =>
  simp -dsimp only [push_cast, Nat.reduceAdd, Nat.reduceLeDiff, Nat.reduceBEq, decide_true, ne_eq, eq_self, not_true_eq_false, not_false_eq_true, true_imp_iff, false_imp_iff, Int.reduceNe, Int.reduceEq, Int.reduceLT, Int.reduceLE, Bool.not_true, Bool.not_false]
  exact hbw4
 | true =>
  obtain ⟨hs5, f, hpar, hchk, hV⟩ := hright rfl
  have hpo := parse_ok (by omega) hpar
  have hpp := parse_pn hpar (by omega)
  have hV4 := hV.below hb24
  obtain ⟨cv, rv, cs, rs, hag, S1, S2, A1, A2⟩ := hV
  have hsh1 := S1.shape
  obtain ⟨_, _, rfl, hcc⟩ := hsh1
  have hsh2 := S2.shape
  obtain ⟨_, _, rfl, hrc⟩ := hsh2
  simp only [Value.agg.injEq, Array.mk.injEq, List.cons.injEq, Value.slice.injEq, Value.bool.injEq, and_true] at hag
  obtain ⟨⟨rfl, rfl, rfl⟩, ⟨rfl, rfl, rfl⟩, rfl⟩ := hag
  have hrl := All2.len A2
  simp -dsimp only [push_cast, Nat.reduceAdd, Nat.reduceLeDiff, Nat.reduceBEq, decide_true, ne_eq, eq_self, not_true_eq_false, not_false_eq_true, true_imp_iff, false_imp_iff, Int.reduceNe, Int.reduceEq, Int.reduceLT, Int.reduceLE, Bool.not_true, Bool.not_false, d4]
  refine allocK (z := [.slice none 0 0, .slice none 0 0, .bool false]) (by kernel_rfl) ?_
  intro w5 hw5
  have z5 := hw5.size
  simp -dsimp only [push_cast, Nat.reduceAdd, Nat.reduceLeDiff, Nat.reduceBEq, decide_true, ne_eq, eq_self, not_true_eq_false, not_false_eq_true, true_imp_iff, false_imp_iff, Int.reduceNe, Int.reduceEq, Int.reduceLT, Int.reduceLE, Bool.not_true, Bool.not_false]
  refine storeAgg (n := 3) (by kernel_rfl) hw5.blk rfl (by simp) cells3 ?_
  intro w6 hw6
  have z6 := hw6.size
  have hb46 : Below w4.heap.size w4 w6 := hw5.below.trans (hw6.kept.below (by omega) (fun i h => by omega))
  have e6 : w6.cell? ⟨w2.heap.size, 2, none⟩ = some (.bool f.els) := (B4.below hb46 (by omega)).cell rfl
  simp -dsimp only [push_cast, Nat.reduceAdd, Nat.reduceLeDiff, Nat.reduceBEq, decide_true, ne_eq, eq_self, not_true_eq_false, not_false_eq_true, true_imp_iff, false_imp_iff, Int.reduceNe, Int.reduceEq, Int.reduceLT, Int.reduceLE, Bool.not_true, Bool.not_false, e6]
  refine storeK_of hw6.blk (by simp) rfl ?_
  intro w7 hw7
  have z7 := hw7.size
  simp -dsimp only [push_cast, Nat.reduceAdd, Nat.reduceLeDiff, Nat.reduceBEq, decide_true, ne_eq, eq_self, not_true_eq_false, not_false_eq_true, true_imp_iff, false_imp_iff, Int.reduceNe, Int.reduceEq, Int.reduceLT, Int.reduceLE, Bool.not_true, Bool.not_false]
  refine storeK_of hw7.blk (by simp) rfl ?_
  intro w8 hw8
  have z8 := hw8.size
  have hb48 : Below w4.heap.size w4 w8 := hb46.trans ((hw7.kept.below (by omega) (fun i h => by omega)).trans (hw8.kept.below (by omega) (fun i h => by omega)))
  have G8 : Blk w8 w4.heap.size 26 [.slice a1 cs.length k1, .slice none 0 0, .bool (!f.els)] := hw8.blk
  have hB48 := hbw4.trans (hb48.mono (by omega))
  simp -dsimp only [push_cast, Nat.reduceAdd, Nat.reduceLeDiff, Nat.reduceBEq, decide_true, ne_eq, eq_self, not_true_eq_false, not_false_eq_true, true_imp_iff, false_imp_iff, Int.reduceNe, Int.reduceEq, Int.reduceLT, Int.reduceLE, Bool.not_true, Bool.not_false]
  refine wpL_loop [8, 9, 34, 35, 36, 37, 38, 39, 40, 41, 42, 43, 44, 45, 46, 47, 48, 49, 50, 51, 52, 53, 54, 55] (fun z wx => ∃ (i : Nat) (ov : Value), z 8 = .int .i64 i ∧ i ≤ f.rules.length ∧ Blk wx w4.heap.size 26 [.slice a1 cs.length k1, ov, .bool (!f.els)] ∧ Vc.Own w8.heap.size 42 4 encRu wx ov ((rs.take i).map turnT) ∧ Below w4.heap.size w4 wx ∧ w8.heap.size ≤ wx.heap.size) (fun z _ => f.rules.length - (intOf (z 8)).toNat) ?_ ?_
  ·exact ⟨0, _, rfl, Nat.zero_le _, G8, Vc.Own.nil (enc := encRu) _ _ (fun _ => rfl) _, hb48, Nat.le_refl _⟩
  ·intro z wx hI
   obtain ⟨i, ov, h8, hi, hG, hO, hb4x, zx⟩ := hI
   have hbx := hbw4.trans (hb4x.mono (by omega))
   have F1 : wx.cell? ⟨w2.heap.size, 1, none⟩ = some (.slice a2 rs.length k2) := (B4.below hb4x (by omega)).cell rfl
   simp -dsimp only [push_cast, Nat.reduceAdd, Nat.reduceLeDiff, Nat.reduceBEq, decide_true, ne_eq, eq_self, not_true_eq_false, not_false_eq_true, true_imp_iff, false_imp_iff, Int.reduceNe, Int.reduceEq, Int.reduceLT, Int.reduceLE, Bool.not_true, Bool.not_false, h8, F1]
   refine ⟨fun hlt => ?_, fun hge => ?_⟩
   ·obtain ⟨x, hx, hxm, _, ht⟩ := lt_get (l := rs) (i := i) (by omega)
    have S2x := (S2.below hb24).below hb4x
    obtain ⟨b1, o, rfl, hnb, hcell⟩ := S2x.get hx
    obtain ⟨xp, xb, x1, x2⟩ := x
    have c4 : cellsAt wx ⟨b1, o + i * 4, none⟩ 0 4 = some [.int .i64 xp, .bool xb, .pointer (some ⟨x1, 0, none⟩), .pointer (some ⟨x2, 0, none⟩)] := cellsAt_of _ 0 (fun j u hu => by simpa [encRu, ptrP] using hcell j u hu)
    simp -dsimp only [push_cast, Nat.reduceAdd, Nat.reduceLeDiff, Nat.reduceBEq, decide_true, ne_eq, eq_self, not_true_eq_false, not_false_eq_true, true_imp_iff, false_imp_iff, Int.reduceNe, Int.reduceEq, Int.reduceLT, Int.reduceLE, Bool.not_true, Bool.not_false, c4]
    refine ⟨⟨by omega, by omega⟩, ?_⟩
    refine allocK (z := [.int .i64 0, .bool false, .pointer none, .pointer none]) (by kernel_rfl) ?_
    intro wa hwa
    have za := hwa.size
    simp -dsimp only [push_cast, Nat.reduceAdd, Nat.reduceLeDiff, Nat.reduceBEq, decide_true, ne_eq, eq_self, not_true_eq_false, not_false_eq_true, true_imp_iff, false_imp_iff, Int.reduceNe, Int.reduceEq, Int.reduceLT, Int.reduceLE, Bool.not_true, Bool.not_false]
    refine storeAgg (n := 4) (by kernel_rfl) hwa.blk rfl (by simp) (by simp [Value.oneCell']) ?_
    intro wb hwb
    have zb := hwb.size
    have cb : wb.cell? ⟨wx.heap.size, 1, none⟩ = some (.bool xb) := hwb.blk.cell rfl
    simp -dsimp only [push_cast, Nat.reduceAdd, Nat.reduceLeDiff, Nat.reduceBEq, decide_true, ne_eq, eq_self, not_true_eq_false, not_false_eq_true, true_imp_iff, false_imp_iff, Int.reduceNe, Int.reduceEq, Int.reduceLT, Int.reduceLE, Bool.not_true, Bool.not_false, cb]
    refine storeK_of hwb.blk (by simp) rfl ?_
    intro wc hwc
    have zc := hwc.size
    have hbxc : Below wx.heap.size wx wc := hwa.below.trans ((hwb.kept.below (by omega) (fun i h => by omega)).trans (hwc.kept.below (by omega) (fun i h => by omega)))
    have Rc : Blk wc wx.heap.size 42 [.int .i64 xp, .bool (!xb), .pointer (some ⟨x1, 0, none⟩), .pointer (some ⟨x2, 0, none⟩)] := hwc.blk
    have Gc := hG.below hbxc (by omega)
    have hOc := hO.below hbxc
    have g1 : wc.cell? ⟨w4.heap.size, 1, none⟩ = some ov := Gc.cell rfl
    have dc : cellsAt wc ⟨wx.heap.size, 0, none⟩ 0 4 = some [.int .i64 xp, .bool (!xb), .pointer (some ⟨x1, 0, none⟩), .pointer (some ⟨x2, 0, none⟩)] := Rc.cellsAt
    simp -dsimp only [push_cast, Nat.reduceAdd, Nat.reduceLeDiff, Nat.reduceBEq, decide_true, ne_eq, eq_self, not_true_eq_false, not_false_eq_true, true_imp_iff, false_imp_iff, Int.reduceNe, Int.reduceEq, Int.reduceLT, Int.reduceLE, Bool.not_true, Bool.not_false, g1, dc]
    refine rowK elI_24 rfl rfl (by omega) ?_
    intro wr hwr
    have zr := hwr.size
    simp -dsimp only [push_cast, Nat.reduceAdd, Nat.reduceLeDiff, Nat.reduceBEq, decide_true, ne_eq, eq_self, not_true_eq_false, not_false_eq_true, true_imp_iff, false_imp_iff, Int.reduceNe, Int.reduceEq, Int.reduceLT, Int.reduceLE, Bool.not_true, Bool.not_false]
    refine appendK2 (base := w8.heap.size) [turnT (xp, xb, x1, x2)] (enc := encRu) elI_24 (hOc.new hwr) (by rfl) (fun j u hu => by rw [Nat.zero_add]; exact hwr.cell hu) encRu_one (by simp only [List.length_cons, List.length_nil, List.length_map, List.length_take]; omega) (by omega) ?_
    intro vq wq hOq hgq hnq
    have hkq : Kept (fun j => ov.ownBlock = some j) wr wq := Kept.grown hgq (fun _ h => h)
    have hob := hO.block
    have Gq := (Gc.below hwr.below (by omega)).kept hkq (fun h => by have := hob _ h; omega)
    have zq := hkq.size
    obtain ⟨qa, qc, rfl⟩ := hOq.slice
    simp -dsimp only [push_cast, Nat.reduceAdd, Nat.reduceLeDiff, Nat.reduceBEq, decide_true, ne_eq, eq_self, not_true_eq_false, not_false_eq_true, true_imp_iff, false_imp_iff, Int.reduceNe, Int.reduceEq, Int.reduceLT, Int.reduceLE, Bool.not_true, Bool.not_false]
    refine storeK_of Gq (by simp) rfl ?_
    intro we hwe
    have ze := hwe.size
    have Ge : Blk we w4.heap.size 26 [.slice a1 cs.length k1, .slice qa ((rs.take i).map turnT ++ [turnT (xp, xb, x1, x2)]).length qc, .bool (!f.els)] := hwe.blk
    have hOe := hOq.keptX hwe.kept (fun g hg h => by have := hOq.block g hg; omega)
    have hb4e : Below w4.heap.size w4 we := hb4x.trans ((hbxc.mono (by omega)).trans ((hwr.below.mono (by omega)).trans ((hkq.below (by omega) (fun g h => by have := hob g h; omega)).trans (hwe.kept.below (by omega) (fun i h => by omega)))))
    have hls : (rs.take (i + 1)).map turnT = (rs.take i).map turnT ++ [turnT (xp, xb, x1, x2)] := by rw [ht, List.map_append]; rfl
    simp -dsimp only [push_cast, Nat.reduceAdd, Nat.reduceLeDiff, Nat.reduceBEq, decide_true, ne_eq, eq_self, not_true_eq_false, not_false_eq_true, true_imp_iff, false_imp_iff, Int.reduceNe, Int.reduceEq, Int.reduceLT, Int.reduceLE, Bool.not_true, Bool.not_false]
    refine ⟨⟨by omega, by omega⟩, ⟨i + 1, _, rfl, by omega, Ge, ?_, hb4e, by omega⟩, by rw [h8]; simp only [intOf]; omega⟩
    rw [hls]
    exact hOe
   ·rw [List.take_of_length_le (by omega)] at hO
    have hul := udec_length t.length t 0 rfl
    refine callK_of (decode_c t (by omega) wx (hv.below hbx).l) ?_
    rintro uv wy ⟨hU, hby⟩
    have zy := hby.size
    have hb4y := hb4x.trans (hby.mono (by omega))
    have hbwy := hbx.trans (hby.mono (by omega))
    obtain ⟨ua, uc, rfl⟩ := hU.slice
    have Fy := B4.below hb4y (by omega)
    have Gy := hG.below hby (by omega)
    have dF : cellsAt wy ⟨w2.heap.size, 0, none⟩ 0 3 = some [.slice a1 cs.length k1, .slice a2 rs.length k2, .bool f.els] := Fy.cellsAt
    have hVy : FileV (fun _ => False) wy (.agg #[.slice a1 cs.length k1, .slice a2 rs.length k2, .bool f.els]) f := (hV4.below hb4y).mono (Kept.refl (fun _ => False) _) (fun _ h => h.elim) (fun _ h => h.elim)
    simp -dsimp only [push_cast, Nat.reduceAdd, Nat.reduceLeDiff, Nat.reduceBEq, decide_true, ne_eq, eq_self, not_true_eq_false, not_false_eq_true, true_imp_iff, false_imp_iff, Int.reduceNe, Int.reduceEq, Int.reduceLT, Int.reduceLE, Bool.not_true, Bool.not_false, dF]
    refine callK_of (breaks_c f hpo.1 hpp (by omega) (by omega) (udec 0 t) (by omega) (fun _ => False) _ _ wy hVy (hU.sl.weaken (fun _ h => h.elim))) ?_
    rintro _ wa ⟨hA, hba⟩
    have za := hba.size
    unfold BrkR at hA
    rw [hchk] at hA
    obtain ⟨nm, av, hnm, rfl, hAO⟩ := hA
    obtain ⟨aa, ac, rfl⟩ := hAO.slice
    have Ga := Gy.below hba (by omega)
    obtain ⟨ga, gc, rfl⟩ := hO.slice
    have dG : cellsAt wa ⟨w4.heap.size, 0, none⟩ 0 3 = some [.slice a1 cs.length k1, .slice ga (rs.map turnT).length gc, .bool (!f.els)] := Ga.cellsAt
    have hUa := hU.below hba
    have hOa := (hO.below hby).below hba
    have hb4a := hb4y.trans (hba.mono (by omega))
    have hVa : FileV (fun _ => False) wa (.agg #[.slice a1 cs.length k1, .slice ga (rs.map turnT).length gc, .bool (!f.els)]) (turnF f) :=
     ⟨_, _, cs, rs.map turnT, rfl, ((S1.below hb24).below hb4a).weaken (fun _ h => h.elim), hOa.sl.weaken (fun _ h => h.elim), A1.imp fun a c h => ClsR.mono (Kept.refl (fun _ => False) _) (fun _ h => h.elim) (fun _ h => h.elim) ⟨h.1, h.2.1, (h.2.2.below hb24).below hb4a⟩,
      all2_map2 A2 fun a c h => ⟨h.1, by rw [turnT, turnR, h.2.1], PatV.weak ((h.2.2.1.below hb24).below hb4a) (fun _ h => h.elim), PatV.weak ((h.2.2.2.below hb24).below hb4a) (fun _ h => h.elim)⟩⟩
    have hok' : FileOk (turnF f) := ⟨hpo.1.1, fun r hr => by
     obtain ⟨c, hc, rfl⟩ := List.mem_map.1 hr
     exact hpo.1.2 c hc⟩
    have hpp' : PnOk (turnF f) := fun r hr => by
     obtain ⟨c, hc, rfl⟩ := List.mem_map.1 hr
     exact hpp c hc
    have hlr' : (turnF f).rules.length ≤ 1000000 := by
     show (f.rules.map turnR).length ≤ 1000000
     rw [List.length_map]
     omega
    simp -dsimp only [push_cast, Nat.reduceAdd, Nat.reduceLeDiff, Nat.reduceBEq, decide_true, ne_eq, eq_self, not_true_eq_false, not_false_eq_true, true_imp_iff, false_imp_iff, Int.reduceNe, Int.reduceEq, Int.reduceLT, Int.reduceLE, Bool.not_true, Bool.not_false, dG]
    refine callK_of (breaks_c (turnF f) hok' hpp' (by show f.classes.length ≤ 1000000; omega) hlr' (udec 0 t) (by omega) (fun _ => False) _ _ wa hVa (hUa.sl.weaken (fun _ h => h.elim))) ?_
    rintro _ wb ⟨hB, hbb⟩
    have zb := hbb.size
    unfold BrkR at hB
    rw [chk_turn, hchk] at hB
    obtain ⟨nm', bv, hnm', rfl, hBO⟩ := hB
    have hnn : nm' = nm := by
     have h1 : namesS [] f.classes = .ok nm' := hnm'
     rw [hnm] at h1
     cases h1
     rfl
    subst hnn
    obtain ⟨ba, bc, rfl⟩ := hBO.slice
    have hAb := hAO.below hbb
    have hbwb := hbwy.trans ((hba.mono (by omega)).trans (hbb.mono (by omega)))
    have hlA : (breaksM (hasN nm') (ptsU (udec 0 t)) f.rules f.els).length ≤ 100000 := by have := breaksM_len (has := hasN nm') (pts := ptsU (udec 0 t)) f.rules f.els; rw [ptsU_len] at this; omega
    have hlB : (breaksM (hasN nm') (ptsU (udec 0 t)) (turnF f).rules (turnF f).els).length ≤ 100000 := by have := breaksM_len (has := hasN nm') (pts := ptsU (udec 0 t)) (turnF f).rules (turnF f).els; rw [ptsU_len] at this; omega
    have hin := fun (k : Nat) (h1 : 1 ≤ k) (h2 : k < (ptsU (udec 0 t)).length) => turned_in (has := hasN nm') (pts := ptsU (udec 0 t)) f.rules f.els h1 h2
    rw [ptsU_len] at hin
    simp -dsimp only [push_cast, Nat.reduceAdd, Nat.reduceLeDiff, Nat.reduceBEq, decide_true, ne_eq, eq_self, not_true_eq_false, not_false_eq_true, true_imp_iff, false_imp_iff, Int.reduceNe, Int.reduceEq, Int.reduceLT, Int.reduceLE, Bool.not_true, Bool.not_false]
    refine wpL_loop [4, 15, 76, 77, 78, 79, 80, 81, 82, 83, 84, 85, 86, 87, 88] (fun z wz => ∃ (i : Nat), z 15 = .int .i64 i ∧ 1 ≤ i ∧ Below wb.heap.size wb wz) (fun z _ => (udec 0 t).length - (intOf (z 15)).toNat) ?_ ?_
    ·exact ⟨1, rfl, Nat.le_refl _, Below.refl _ _⟩
    ·intro z wz hI
     obtain ⟨i, h15, hi1, hbz⟩ := hI
     have zz := hbz.size
     have hbwz := hbwb.trans (hbz.mono (by omega))
     simp -dsimp only [push_cast, Nat.reduceAdd, Nat.reduceLeDiff, Nat.reduceBEq, decide_true, ne_eq, eq_self, not_true_eq_false, not_false_eq_true, true_imp_iff, false_imp_iff, Int.reduceNe, Int.reduceEq, Int.reduceLT, Int.reduceLE, Bool.not_true, Bool.not_false, h15]
     refine ⟨fun hlt => ?_, fun hge => ?_⟩
     ·refine callK_of (containsN_c _ (by omega) i _ _ wz (hAb.below hbz).sl) ?_
      rintro _ wc ⟨rfl, hbc⟩
      have zc := hbc.size
      simp -dsimp only [push_cast, Nat.reduceAdd, Nat.reduceLeDiff, Nat.reduceBEq, decide_true, ne_eq, eq_self, not_true_eq_false, not_false_eq_true, true_imp_iff, false_imp_iff, Int.reduceNe, Int.reduceEq, Int.reduceLT, Int.reduceLE, Bool.not_true, Bool.not_false]
      refine callK_of (containsN_c _ (by omega) i _ _ wc ((hBO.below hbz).below hbc).sl) ?_
      rintro _ wd ⟨rfl, hbd⟩
      have hk := hin i hi1 (by omega)
      have hk : (breaksM (hasN nm') (ptsU (udec 0 t)) (turnF f).rules (turnF f).els).contains i = !(breaksM (hasN nm') (ptsU (udec 0 t)) f.rules f.els).contains i := hk
      rw [hk]
      have hq : ∃ q, (breaksM (hasN nm') (ptsU (udec 0 t)) f.rules f.els).contains i = q := ⟨_, rfl⟩
      obtain ⟨q, hq⟩ := hq
      rw [hq]
      cases q <;> (
       simp -dsimp only [push_cast, Nat.reduceAdd, Nat.reduceLeDiff, Nat.reduceBEq, decide_true, ne_eq, eq_self, not_true_eq_false, not_false_eq_true, true_imp_iff, false_imp_iff, Int.reduceNe, Int.reduceEq, Int.reduceLT, Int.reduceLE, Bool.not_true, Bool.not_false]
       refine ⟨fun h => (by cases h), fun _ => ?_⟩
       simp -dsimp only [push_cast, Nat.reduceAdd, Nat.reduceLeDiff, Nat.reduceBEq, decide_true, ne_eq, eq_self, not_true_eq_false, not_false_eq_true, true_imp_iff, false_imp_iff, Int.reduceNe, Int.reduceEq, Int.reduceLT, Int.reduceLE, Bool.not_true, Bool.not_false]
       exact ⟨⟨by omega, by omega⟩, ⟨i + 1, rfl, by omega, hbz.trans ((hbc.mono (by omega)).trans (hbd.mono (by omega)))⟩, by rw [h15]; simp only [intOf]; omega⟩)
     ·exact hbwz
end Go.Proofs.YtgodgfeinjminaaGreatDoor
end
section
namespace Go.Proofs.YtgodgfeinjminaaGreatDoor
open Go.ChangeShapes Go.WideShapes Go.ChangeAt Go.RowKit Go.Vc Cae
set_option maxRecDepth 100000
set_option linter.unusedSimpArgs false
set_option linter.unusedVariables false
theorem own : ownKnob Tryz.prog.godebug = none := by kernel_rfl
theorem laidOut : laidOutB Tryz.prog = true := by kernel_rfl

def dbTab : List Int := [0, 1, 56, 2, 57, 49, 28, 3, 61, 58, 42, 50, 38, 29, 17, 4, 62, 47, 59, 36, 45, 43, 51, 22, 53, 39, 33, 30, 24, 18, 12, 5, 63, 55, 48, 27, 60, 41, 37, 16, 46, 35, 44, 21, 52, 32, 23, 11, 54, 26, 40, 15, 34, 20, 31, 10, 25, 14, 19, 9, 13, 8, 7, 6]
theorem db_of {W : World} {l : List (String × DataW Unit)} (hl : (l.filter fun x => x.1 == "math/bits.deBruijn64tab") = [("math/bits.deBruijn64tab", Rows.laid_math_bits_deBruijn64tab)]) (h : laidMetH Tryz.prog l W) : Db W := by
 have h := h.filter (fun x => x.1 == "math/bits.deBruijn64tab")
 rw [hl, MakeChecks.laidMetH_plain _ _ _ (by kernel_rfl)] at h
 have hg : Tryz.prog.globalNamed "math/bits.deBruijn64tab" = some 7 := by kernel_rfl
 have ht : Lib.TabIs Tryz.prog W "math/bits.deBruijn64tab" .u8 dbTab := Lib.tabIs_of_head (n := 64) (t := 240) (e := 5) hg (by kernel_rfl) (by kernel_rfl) (by kernel_rfl) (by kernel_rfl) (by kernel_rfl) h
 exact ht.cell hg 15 (by decide)

theorem errs_of {W : World} {l : List (String × DataW Unit)} (h1 : (l.filter fun x => x.1 == "strconv.ErrSyntax") = [("strconv.ErrSyntax", Rows.laid_strconv_ErrSyntax)]) (h2 : (l.filter fun x => x.1 == "strconv.ErrRange") = [("strconv.ErrRange", Rows.laid_strconv_ErrRange)]) (h : laidMetH Tryz.prog l W) : SErrs W := by
 constructor
 ·have h := h.filter (fun x => x.1 == "strconv.ErrSyntax")
  rw [h1, MakeChecks.laidMetH_plain _ _ _ (by kernel_rfl)] at h
  obtain ⟨ps, ⟨g, t, cs, fuel, p, q, hg, ht, hv, hd, _, _⟩, _, _⟩ := h
  obtain rfl := Option.some.inj ((show Tryz.prog.globalNamed "strconv.ErrSyntax" = some 4 by kernel_rfl).symm.trans hg)
  obtain rfl := Option.some.inj ((show (Tryz.prog.globals[4]?).map (·.type) = some 33 by kernel_rfl).symm.trans ht)
  obtain ⟨_, u, v, hcs, _, _⟩ := iface_of_trod Tryz.underlying33 hd
  obtain ⟨lc⟩ := cs
  have hcs' : lc = [.iface u v] := hcs
  subst hcs'
  exact ⟨u, v, by simpa using World.var?_cell hg hv 0⟩
 ·have h := h.filter (fun x => x.1 == "strconv.ErrRange")
  rw [h2, MakeChecks.laidMetH_plain _ _ _ (by kernel_rfl)] at h
  obtain ⟨ps, ⟨g, t, cs, fuel, p, q, hg, ht, hv, hd, _, _⟩, _, _⟩ := h
  obtain rfl := Option.some.inj ((show Tryz.prog.globalNamed "strconv.ErrRange" = some 5 by kernel_rfl).symm.trans hg)
  obtain rfl := Option.some.inj ((show (Tryz.prog.globals[5]?).map (·.type) = some 33 by kernel_rfl).symm.trans ht)
  obtain ⟨_, u, v, hcs, _, _⟩ := iface_of_trod Tryz.underlying33 hd
  obtain ⟨lc⟩ := cs
  have hcs' : lc = [.iface u v] := hcs
  subst hcs'
  exact ⟨u, v, by simpa using World.var?_cell hg hv 0⟩

def laidE : List (String × DataW Unit) := [("errors.errorType", Rows.laid_errors_errorType)]

theorem errVar_of {W : World} {l : List (String × DataW Unit)} (hl : (l.filter fun x => x.2.handleName?.isSome) = laidE) (h : laidMetH Tryz.prog l W) : ErrVar W := by
 have h' := (laidMetH_iff.1 h).2
 obtain ⟨name, u, ty, e1, e2, e3, e4, e5⟩ := h' ("errors.errorType", Rows.laid_errors_errorType) (by rw [hl]; exact List.mem_singleton.2 rfl)
 have en : name = [101, 114, 114, 111, 114] := (Option.some.inj e1).symm
 subst en
 obtain rfl := Option.some.inj ((show (Tryz.prog.cutTypes.find? (·.1 == "internal/reflectlite.rtype")).map (·.2) = some 150 by kernel_rfl).symm.trans e2)
 have hm : ty ∈ (List.range Tryz.prog.types.size).filter fun t => Tryz.prog.rowNamed t [101, 114, 114, 111, 114] := List.mem_filter.2 ⟨List.mem_range.2 e3, e4⟩
 rw [show ((List.range Tryz.prog.types.size).filter fun t => Tryz.prog.rowNamed t [101, 114, 114, 111, 114]) = [33] by kernel_rfl] at hm
 obtain rfl := List.mem_singleton.1 hm
 rw [show typeHandle Tryz.prog 33 = .pointer (some ⟨10, 33, none⟩) by kernel_rfl] at e5
 have := World.var?_cell (show Tryz.prog.globalNamed "errors.errorType" = some 1 by kernel_rfl) e5 0
 unfold ErrVar
 simpa using this

theorem least_of {W : World} {l : List (String × DataW Unit)} (hl : (l.filter fun x => x.1 == "caesura/utf.least") = [("caesura/utf.least", Rows.laid_caesura_utf_least)]) (h : laidMetH Tryz.prog l W) : Least W := by
 have h := h.filter (fun x => x.1 == "caesura/utf.least")
 rw [hl, MakeChecks.laidMetH_plain _ _ _ (by kernel_rfl)] at h
 obtain ⟨ps, ⟨g, t, cs, fuel, p, q, hg, ht, hv, hd, _, _⟩, _, _⟩ := h
 obtain rfl := Option.some.inj ((show Tryz.prog.globalNamed "caesura/utf.least" = some 0 by kernel_rfl).symm.trans hg)
 obtain rfl := Option.some.inj ((show (Tryz.prog.globals[0]?).map (·.type) = some 86 by kernel_rfl).symm.trans ht)
 have c5 : Tryz.prog.cellsOf 3 = 1 := by kernel_rfl
 have c29 : Tryz.prog.cellsOf 86 = 5 := by kernel_rfl
 obtain ⟨xs, m, _, ex, hlen, hl, hel⟩ := DataW.trod_array Tryz.underlying86 hd
 rw [c29] at hlen
 have key : cs = #[.int .i64 0, .int .i64 0, .int .i64 128, .int .i64 2048, .int .i64 65536] := by
  obtain ⟨l⟩ := cs
  match l, hlen with
  | [a, b, c, d, e], _ =>
   match xs, hl with
   | [x0, x1, x2, x3, x4], _ =>
    have e3 := (DataW.agg.inj (Prod.mk.inj ex).1)
    simp only [List.map_cons, List.map_nil, List.cons.injEq, and_true] at e3
    have k0 := hel 0 (by omega); have k1 := hel 1 (by omega); have k2 := hel 2 (by omega); have k3 := hel 3 (by omega); have k4 := hel 4 (by omega)
    rw [c5] at k0 k1 k2 k3 k4
    obtain ⟨z0, a0, b0, _⟩ := DataW.trod_int Tryz.underlying3 k0
    obtain ⟨z1, a1, b1, _⟩ := DataW.trod_int Tryz.underlying3 k1
    obtain ⟨z2, a2, b2, _⟩ := DataW.trod_int Tryz.underlying3 k2
    obtain ⟨z3, a3, b3, _⟩ := DataW.trod_int Tryz.underlying3 k3
    obtain ⟨z4, a4, b4, _⟩ := DataW.trod_int Tryz.underlying3 k4
    simp_all
    omega
 subst key
 intro k hk
 rw [World.var?_cell hg hv k]
 have : k = 0 ∨ k = 1 ∨ k = 2 ∨ k = 3 ∨ k = 4 := by omega
 rcases this with e | e | e | e | e <;> subst e <;> rfl

theorem handed_and {H : Type} {enc : TypeId × Value → H} {a : Assume} {C : Checked} {os : Os} {f : FuncId} {fn : Func} {s : ChangeSpec} {conds : List PathCond} {apart fresh handsOn again : Bool} {X : World → Array Value → Prop}
  (hX : ∀ (w w' : World) (args : Array Value), w.heap = w'.heap → X w args → X w' args)
  (own : ownKnob C.prog.godebug = none) (started : os.Started) (noInit : C.prog.inits.idxOf? f = none) (hfn : C.prog.funcs[f]? = some fn)
  (witness : ∃ (w : World) (tape : Tape) (i : Input), w.os = os ∧ (w.forCall tape i).Shaped C.prog ∧ i.vars = [] ∧ Input.okWide C.prog (w.forCall tape i) .any w.heap.size f i ∧
   ((s.pre enc C.prog fn conds apart (w.forCall tape i).memory i.args ∧ X (w.forCall tape i).memory i.args) ∧ sizedMet enc C.prog fn (OpenSpec.ofChange s) apart (w.forCall tape i).memory i.args) ∧ a.holds C.prog (lone (Frame.enter C.prog f i.args .normal) [] (w.forCall tape i)))
  (contract : ∀ (W : World) (base : Nat) (args : Array Value) (ds gs : List (DataW H)) (before : List MemPlace),
   (∀ (j : Nat) t v, fn.params[j]? = some t → args[j]? = some v → Value.okWide C.prog W .any base t v) →
   DataW.Whole enc C.prog fn.params.toList s.vars apart W args.toList ds gs before →
   (DataW.weightsEach C.prog (fn.params.toList ++ s.plain.varTypes C.prog) (ds ++ gs)).all (· ≤ reachBytes) = true → X W args → W.ShapedOpen C.prog →
   Calls C.prog f args W fun e W' => ∃ v, e = .returned v ∧ s.post enc C.prog fn apart fresh handsOn again W args v W') :
  ReturnsInHanded a C os f .any (fun w args => (s.pre enc C.prog fn conds apart w args ∧ X w args) ∧ sizedMet enc C.prog fn (OpenSpec.ofChange s) apart w args) (s.post enc C.prog fn apart fresh handsOn again) := by
 refine returnsInHanded_of_calls own started noInit witness ?_
 intro w tape i _ hsh _ hok hpre hholds
 obtain ⟨_, _, _, fn', hfn', _, _, _, _, hval⟩ := hok
 have e : fn' = fn := Option.some.inj (hfn'.symm.trans hfn)
 subst e
 obtain ⟨⟨⟨ds, gs, before, hw, hc⟩, hx⟩, hz⟩ := hpre
 have hw' := DataW.Whole.of_heap (w' := w.forCall tape i) (by rfl) hw
 refine (contract (w.forCall tape i) w.heap.size i.args ds gs before hval hw' (hz.weights hw) (hX _ _ _ (by rfl) hx) hsh).mono fun e W' ⟨v, he, hp⟩ => ?_
 subst he
 exact ChangeSpec.post_blind hp
theorem ng_of {W : World} (h : W.ShapedOpen Tryz.prog) : 10 ≤ W.heap.size := by
 obtain ⟨o, o0, h1, _⟩ := h.2 10 (of_decide_eq_true (by kernel_rfl)) (of_decide_eq_true (by kernel_rfl))
 have := (Array.getElem?_eq_some_iff.1 h1).1
 omega
def laidB : List (String × DataW Unit) := [("math/bits.deBruijn32tab", Rows.laid_math_bits_deBruijn32tab), ("math/bits.deBruijn64tab", Rows.laid_math_bits_deBruijn64tab), ("internal/strconv.uint64pow10", Rows.laid_internal_strconv_uint64pow10), ("unicode/utf8.acceptRanges", Rows.laid_unicode_utf8_acceptRanges), ("errors.errorType", Rows.laid_errors_errorType), ("caesura/utf.least", Rows.laid_caesura_utf_least), ("strconv.ErrRange", Rows.laid_strconv_ErrRange), ("strconv.ErrSyntax", Rows.laid_strconv_ErrSyntax), ("unicode/utf8.first", Rows.laid_unicode_utf8_first)]
theorem vm_of {W : World} (h : laidMetH Tryz.prog laidB W) (hs : W.ShapedOpen Tryz.prog) : Vm W :=
 ⟨db_of (by kernel_rfl) h, errs_of (by kernel_rfl) (by kernel_rfl) h, errVar_of (by kernel_rfl) h, least_of (by kernel_rfl) h, ng_of hs⟩
noncomputable def wit (os : Os) : World :=
 { World.doorLaid Tryz.prog 76 os with heap := (World.doorLaid Tryz.prog 76 os).heap.modify 8 fun o => match o with
  | .cells _ t x => .cells (Go.Pinned.utf8FirstZ.map fun (n : Nat) => Value.int .u8 (n : Int)).toArray t x
  | o => o }
end Go.Proofs.YtgodgfeinjminaaGreatDoor
end
