import Derived.Test.YtonedboaomehaaaDoorRead
import Derived.Test.YtonedboaomehaaaDoorPagain
namespace Go.Proofs.YtonedboaomehaaaDoor
open Go.Vc Go.Proofs Go.RowKit Cae
set_option maxRecDepth 100000
set_option linter.unusedSimpArgs false
set_option linter.unusedVariables false
attribute [local irreducible] wpL callK valK unitK runK Fun Sl Own vc vcOps opK pureK
set_option maxHeartbeats 4000000

theorem strlit2 (l : List UInt8) : Value.string ⟨l.toArray⟩ = str l := (rfl)
attribute [local push_cast] strlit2

def pts (s : List UInt8) : List Int := (udec 0 s).map fun u => (u.p : Int)

theorem again_c (s : List UInt8) (w : World) (hg : Least w) :
    Fun Tryd.prog 4 [str s] w fun r w' => r = .bool true ∧ Below w.heap.size w w' := by
  refine fun_of_vc Tryd.func4 rfl (by kernel_rfl) [2] rfl ?_
  simp -dsimp only [push_cast, fr0, Tryd.ntmps4, List.length_cons, List.length_nil, Nat.reduceAdd, Nat.reduceSub, List.replicate_succ, List.replicate_zero]
  refine ⟨fun _ => Below.refl _ _, fun hs => ?_⟩
  refine callK_of (read_c w hg) ?_
  rintro _ w1 ⟨rfl, hb1⟩
  simp -dsimp only [push_cast, Nat.reduceAdd, Nat.reduceLeDiff, decide_true, Bool.not_true, Bool.not_false]
  refine callK_of (points_c s (by omega) w1 (hg.below hb1)) ?_
  rintro v w2 ⟨ho2, hb2⟩
  have hB2 : Below w.heap.size w w2 := hb1.trans (hb2.mono hb1.size)
  obtain ⟨hok, hlen, hsame⟩ := udec_write s.length s 0 rfl
  change Own _ _ _ _ _ _ (pts s) at ho2
  change ∀ x ∈ pts s, okPoint x at hok
  change (uenc (pts s)).length ≤ _ at hlen
  change (65533 : Int) ∉ pts s → uenc (pts s) = s at hsame
  have hpl : (pts s).length ≤ s.length := by unfold pts; rw [List.length_map]; exact udec_length s.length s 0 rfl
  have hs2 := ho2.sl
  simp -dsimp only [push_cast, Nat.reduceAdd, Nat.reduceLeDiff, decide_true]
  refine callK_of (encode_c (pts s) (by omega) _ v w2 hs2) ?_
  rintro v3 w3 ⟨hco, hb3⟩
  have hB3 : Below w.heap.size w w3 := hB2.trans (hb3.mono hB2.size)
  rcases hco with ⟨_, rfl⟩ | ⟨k, x, b, hx, hbad, _⟩
  rotate_left
  · exact absurd (hok x (List.mem_of_getElem? hx)) hbad
  simp -dsimp only [push_cast, Nat.reduceAdd, Nat.reduceLeDiff, decide_true, Bool.false_or, Bool.not_true, Bool.not_false]
  refine ⟨⟨by omega, by omega⟩, fun _ => ?_, fun h => absurd h (by omega)⟩
  have hback : (udec 0 (uenc (pts s))).map (fun u => (u.p : Int)) = pts s := udec_enc (pts s) 0 hok
  refine callK_of (points_c (uenc (pts s)) (by omega) w3 (hg.below hB3)) ?_
  rintro v4 w4 ⟨ho4, hb4⟩
  rw [hback] at ho4
  have hB4 : Below w.heap.size w w4 := hB3.trans (hb4.mono hB3.size)
  simp -dsimp only [push_cast, Nat.reduceAdd, Nat.reduceLeDiff, decide_true]
  refine callK_of (equalI_c (pts s) (pts s) (by omega) _ _ v4 v w4 ho4.sl ((hs2.below hb3).below hb4)) ?_
  rintro _ w5 ⟨rfl, hb5⟩
  have hB5 : Below w.heap.size w w5 := hB4.trans (hb5.mono hB4.size)
  rw [decide_eq_true rfl]
  simp -dsimp only [push_cast, Nat.reduceAdd, Nat.reduceLeDiff, decide_true, Bool.not_true, Bool.not_false]
  refine callK_of (points_c (uenc (pts s)) (by omega) w5 (hg.below hB5)) ?_
  rintro v6 w6 ⟨ho6, hb6⟩
  rw [hback] at ho6
  have hB6 : Below w.heap.size w w6 := hB5.trans (hb6.mono hB5.size)
  simp -dsimp only [push_cast, Nat.reduceAdd, Nat.reduceLeDiff, decide_true]
  refine callK_of (encode_c (pts s) (by omega) _ v6 w6 ho6.sl) ?_
  rintro v7 w7 ⟨hco, hb7⟩
  have hB7 : Below w.heap.size w w7 := hB6.trans (hb7.mono hB6.size)
  rcases hco with ⟨_, rfl⟩ | ⟨k, x, b, hx, hbad, _⟩
  rotate_left
  · exact absurd (hok x (List.mem_of_getElem? hx)) hbad
  simp -dsimp only [push_cast, Nat.reduceAdd, Nat.reduceLeDiff, decide_true, Bool.false_or, Bool.not_true, Bool.not_false]
  refine callK_of (containsI_c (pts s) (by omega) 65533 _ v w7 ((((hs2.below hb3).below hb4).below hb5).below hb6 |>.below hb7)) ?_
  rintro _ w8 ⟨⟨bb, rfl, hbb⟩, hb8⟩
  have hB8 : Below w.heap.size w w8 := hB7.trans (hb8.mono hB7.size)
  cases bb
  · have hn : (65533 : Int) ∉ pts s := fun h => by cases hbb.2 h
    simp -dsimp only [push_cast, Nat.reduceAdd, Nat.reduceLeDiff, decide_true]
    first
    | exact ⟨by rw [decide_eq_true (hsame hn)], hB8⟩
  · simp -dsimp only [push_cast, Nat.reduceAdd, Nat.reduceLeDiff, decide_true]
    first
    | exact hB8
    | exact ⟨rfl, hB8⟩
end Go.Proofs.YtonedboaomehaaaDoor
