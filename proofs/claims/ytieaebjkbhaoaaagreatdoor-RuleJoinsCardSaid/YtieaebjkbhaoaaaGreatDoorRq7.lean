import Derived.Test.YtieaebjkbhaoaaaGreatDoorPrl4
import Derived.Shelf.Strings.Search3
namespace Cae
theorem infix_of_contains {s sub : List UInt8} (h : sub <:+: s) : Go.Lib.contains s sub = true := by
  obtain ⟨a, b, rfl⟩ := h
  rcases Go.Lib.index_spec (a ++ sub ++ b) sub with ⟨_, h⟩ | ⟨i, h, _⟩
  · have h1 := h a.length (by simp)
    have h2 : (a ++ sub ++ b).drop a.length = sub ++ b := by rw [List.append_assoc, List.drop_left]
    unfold Go.Lib.occAt at h1
    rw [h2] at h1
    rw [List.isPrefixOf_iff_prefix.2 (List.prefix_append sub b)] at h1
    cases h1
  · unfold Go.Lib.contains
    exact decide_eq_true (by omega)
def factRL : List UInt8 := [99, 108, 97, 115, 115, 32, 97, 61, 91, 54, 49, 45, 55, 97, 93, 45, 91, 54, 53, 93, 59, 35, 120, 10, 107, 101, 101, 112, 32, 97, 40, 97, 124, 46, 41, 42, 32, 58, 32, 40, 32, 97, 32, 41, 123, 50, 44, 125, 32, 59, 101, 108, 115, 101, 32, 107, 101, 101, 112, 59]
def factWL : List UInt8 := [99, 108, 97, 115, 115, 32, 97, 32, 61, 32, 91, 54, 49, 45, 55, 97, 93, 32, 45, 32, 91, 54, 53, 93, 59, 10, 107, 101, 101, 112, 32, 97, 32, 40, 97, 32, 124, 32, 46, 41, 42, 32, 58, 32, 97, 123, 50, 44, 125, 59, 10, 101, 108, 115, 101, 32, 107, 101, 101, 112, 59, 10]
def okText (s : List UInt8) : List UInt8 := match parseR s with
  | .ok f => fileText f
  | .error _ => []
theorem fact_ok : okText factRL = factWL := by decide +kernel
theorem fact_parse : ∃ f, parseR factRL = .ok f ∧ fileText f = factWL := by
  have h := fact_ok
  unfold okText at h
  split at h
  · rename_i f hf; exact ⟨f, hf, h⟩
  · cases h
end Cae
namespace Go.Proofs.YtieaebjkbhaoaaaGreatDoor
open Go.Vc Go.Proofs Go.RowKit Cae
set_option maxRecDepth 100000
set_option linter.unusedSimpArgs false
set_option linter.unusedVariables false
attribute [local irreducible] wpL callK valK unitK runK Fun Sl Own vc vcOps opK pureK
set_option maxHeartbeats 4000000
def contR_ren : Go.Shelf.Ren := ⟨fun | 144 => 10 | 143 => 19 | 219 => 32 | 217 => 45 | 225 => 46 | 224 => 47 | 267 => 48 | 266 => 55 | 314 => 56 | n => n, fun | 9 => 9 | 4 => 4 | 3 => 3 | 5 => 5 | 46 => 67 | 146 => 104 | 51 => 103 | n => n, fun | 1 => 0 | n => n⟩
theorem contR : Go.Proofs.Lays.n144 Tryz.prog contR_ren := {
  mixed := by kernel_rfl
  f143 := Tryz.func19.trans (congrArg some (by kernel_rfl))
  f144 := Tryz.func10.trans (congrArg some (by kernel_rfl))
  f217 := Tryz.func45.trans (congrArg some (by kernel_rfl))
  f219 := Tryz.func32.trans (congrArg some (by kernel_rfl))
  f224 := Tryz.func47.trans (congrArg some (by kernel_rfl))
  f225 := Tryz.func46.trans (congrArg some (by kernel_rfl))
  f266 := Tryz.func55.trans (congrArg some (by kernel_rfl))
  f267 := Tryz.func48.trans (congrArg some (by kernel_rfl))
  f314 := Tryz.func56.trans (congrArg some (by kernel_rfl))
  t3 := Tryz.underlying3
  a3 := Tryz.isAgg3
  z3 := Tryz.sizeOf3
  v3 := Tryz.zeroValue3
  t4 := Tryz.underlying4
  a4 := Tryz.isAgg4
  z4 := Tryz.sizeOf4
  v4 := Tryz.zeroValue4
  t5 := Tryz.underlying5
  a5 := Tryz.isAgg5
  z5 := Tryz.sizeOf5
  v5 := Tryz.zeroValue5
  t9 := Tryz.underlying9
  a9 := Tryz.isAgg9
  z9 := Tryz.sizeOf9
  v9 := Tryz.zeroValue9
  t46 := Tryz.underlying67
  a46 := Tryz.isAgg67
  z46 := Tryz.sizeOf67
  v46 := Tryz.zeroValue67
  t51 := Tryz.underlying103
  a51 := Tryz.isAgg103
  z51 := Tryz.sizeOf103
  v51 := Tryz.zeroValue103
  t146 := Tryz.underlying104
  a146 := Tryz.isAgg104
  z146 := Tryz.sizeOf104
  v146 := Tryz.zeroValue104
  g1 := by kernel_rfl }

/-- The library's bound, whatever it is. -/
def Mx (w : World) : Prop := ∃ m, w.cell? ⟨0, 0, none⟩ = some (.int .i64 m)
theorem contains_c (s sub : List UInt8) (hs : s.length ≤ 1000000) (w : World) (hm : Mx w) : Fun Tryz.prog 10 [str s, str sub] w fun r w' => r = .bool (Lib.contains s sub) ∧ w' = w := by
  obtain ⟨m, hm⟩ := hm
  refine fun_of_calls Tryz.func10 (by kernel_rfl) (by kernel_rfl) ?_
  refine Calls.mono (Any.strings_Contains contR ⟨s.toArray⟩ ⟨sub.toArray⟩ m w (by show s.toArray.size < _; simp; omega) hm) ?_
  rintro e w' ⟨rfl, rfl⟩
  exact ⟨_, rfl, rfl, rfl⟩
theorem FileV.below {X : Nat → Prop} {w w' : World} {v : Value} {f : FileP} (h : FileV X w v f) (hb : Below w.heap.size w w') : FileV X w' v f := by
  obtain ⟨cv, rv, cs, rs, rfl, S1, S2, A1, A2⟩ := h
  exact ⟨cv, rv, cs, rs, rfl, S1.below hb, S2.below hb, A1.imp fun a c h => ⟨h.1, h.2.1, h.2.2.below hb⟩, A2.imp fun a c h => ⟨h.1, h.2.1, h.2.2.1.below hb, h.2.2.2.below hb⟩⟩
theorem printR_c (s : List UInt8) (hs : s.length ≤ 1000000) {f : FileP} (hf : parseR s = .ok f) (X : Nat → Prop) (v : Value) (w : World) (hv : FileV X w v f) (hd : Db w) :
    Fun Tryz.prog 8 [v] w fun r w' => r = str (fileText f) ∧ Below w.heap.size w w' := by
  have h1 := parse_ok hs hf
  have h2 := text_len hf
  exact print_walk f h1.1 (by omega) (by omega) (by omega) X v w hv hd
theorem ruled_c (w : World) (hd : Db w) (he : Errs w) (hg : 8 ≤ w.heap.size) : Fun Tryz.prog 6 [] w fun r w' => r = .bool true ∧ Below w.heap.size w w' := by
  obtain ⟨f, hf, ht⟩ := fact_parse
  refine fun_of_vc Tryz.func6 rfl (by kernel_rfl) [0] rfl ?_
  simp -dsimp (maxSteps := 4000000) only [push_cast, fr0, Tryz.ntmps6, List.length_cons, List.length_nil, Nat.reduceAdd, Nat.reduceSub, Nat.reduceBEq, List.replicate_succ, List.replicate_zero]
  refine callK_of (ruleParse_c factRL (by decide) w hd he hg) ?_
  rintro _ w1 ⟨hP, hb1⟩
  have z1 := hb1.size
  rcases hP with ⟨f', v, e1, rfl, hV⟩ | ⟨e, pos, b, e1, _⟩
  rotate_left
  · rw [hf] at e1; cases e1
  rw [hf] at e1
  cases e1
  obtain ⟨cv, rv, cs, rs, rfl, S1, S2, A1, A2⟩ := hV
  have hsh1 := S1.shape
  obtain ⟨ca, cc, rfl, hcc⟩ := hsh1
  have hsh2 := S2.shape
  obtain ⟨ra, rc, rfl, hrc⟩ := hsh2
  have hV : FileV (· < w.heap.size) w1 (.agg #[.slice ca cs.length cc, .slice ra rs.length rc, .bool f.els]) f := ⟨_, _, cs, rs, rfl, S1, S2, A1, A2⟩
  simp -dsimp only [push_cast, Nat.reduceAdd, Nat.reduceLeDiff, Nat.reduceBEq, decide_true, ne_eq, eq_self, not_true_eq_false, not_false_eq_true, true_imp_iff, false_imp_iff, Int.reduceNe, Int.reduceEq, Int.reduceLT, Int.reduceLE, Bool.not_true, Bool.not_false]
  refine allocK (z := [.slice none 0 0, .slice none 0 0, .bool false]) (by kernel_rfl) ?_
  intro w2 hw2
  simp -dsimp only [push_cast, Nat.reduceAdd, Nat.reduceLeDiff, Nat.reduceBEq, decide_true, ne_eq, eq_self, not_true_eq_false, not_false_eq_true, true_imp_iff, false_imp_iff, Int.reduceNe, Int.reduceEq, Int.reduceLT, Int.reduceLE, Bool.not_true, Bool.not_false]
  refine storeAgg (n := 3) (by kernel_rfl) hw2.blk rfl (by simp) (by simp; exact ⟨rfl, rfl, rfl⟩) ?_
  intro w3 hw3
  have z3 := hw3.size
  have z2 := hw2.size
  have B3 := hw3.blk
  have hb3 : Below w1.heap.size w1 w3 := hw2.below.trans (hw3.kept.below (B := w1.heap.size) (by omega) (fun i h => by omega))
  have hb3w := hb1.trans (hb3.mono hb1.size)
  have d3 : cellsAt w3 ⟨w1.heap.size, 0, none⟩ 0 3 = some [.slice ca cs.length cc, .slice ra rs.length rc, .bool f.els] := B3.cellsAt
  simp -dsimp only [push_cast, Nat.reduceAdd, Nat.reduceLeDiff, Nat.reduceBEq, decide_true, ne_eq, eq_self, not_true_eq_false, not_false_eq_true, true_imp_iff, false_imp_iff, Int.reduceNe, Int.reduceEq, Int.reduceLT, Int.reduceLE, Bool.not_true, Bool.not_false, d3]
  refine callK_of (printR_c factRL (by decide) hf _ _ w3 (hV.below hb3) (hd.below hb3w hd.lt)) ?_
  rintro _ w4 ⟨rfl, hb4⟩
  rw [ht]
  simp -dsimp only [push_cast, Nat.reduceAdd, Nat.reduceLeDiff, Nat.reduceBEq, decide_true, ne_eq, eq_self, not_true_eq_false, not_false_eq_true, true_imp_iff, false_imp_iff, Int.reduceNe, Int.reduceEq, Int.reduceLT, Int.reduceLE, Bool.not_true, Bool.not_false]
  exact ⟨rfl, hb3w.trans (hb4.mono hb3w.size)⟩
end Go.Proofs.YtieaebjkbhaoaaaGreatDoor
