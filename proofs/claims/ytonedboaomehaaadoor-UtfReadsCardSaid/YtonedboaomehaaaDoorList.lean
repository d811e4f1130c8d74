import Derived.Test.YtonedboaomehaaaDoorDec
namespace Go.Proofs.YtonedboaomehaaaDoor
open Go.Vc Go.Proofs Go.RowKit Cae
set_option maxRecDepth 100000
set_option linter.unusedSimpArgs false
set_option linter.unusedVariables false
attribute [local irreducible] wpL callK valK unitK runK Fun Sl Own vc vcOps opK pureK

def encI (n : Int) : List Value := [.int .i64 n]

theorem points_c (s : List UInt8) (hs : s.length < 1000000) (w : World) (hg : Least w) :
    Fun Tryd.prog 12 [str s] w fun v w' => Own w.heap.size 3 1 encI w' v ((udec 0 s).map fun u => (u.p : Int)) ∧ Below w.heap.size w w' := by
  refine fun_of_vc Tryd.func12 rfl (by kernel_rfl) [2] rfl ?_
  simp -dsimp only [push_cast, fr0, Tryd.ntmps12, List.length_cons, List.length_nil, Nat.reduceAdd, Nat.reduceSub, List.replicate_succ, List.replicate_zero]
  refine callK_of (decode_c s hs w hg) ?_
  rintro v w1 ⟨ho, hb⟩
  have hsl := ho.sl
  obtain ⟨a, c, rfl, hc⟩ := hsl.shape
  simp -dsimp only [push_cast, Nat.reduceAdd, Nat.reduceLeDiff, decide_true]
  refine wpL_loop [3, 5, 8, 9, 10, 11, 12, 13, 14, 15, 16, 17, 18, 19, 20, 21] (fun z wx => ∃ (i : Nat), z 5 = .int .i64 i ∧ i ≤ (udec 0 s).length ∧
    Own w1.heap.size 3 1 encI wx (z 3) (((udec 0 s).take i).map fun u => (u.p : Int)) ∧ Below w1.heap.size w1 wx) (fun z _ => (udec 0 s).length - (intOf (z 5)).toNat) ?_ ?_
  · exact ⟨0, rfl, Nat.zero_le _, Own.nil (enc := encI) _ _ (fun _ => rfl) _, Below.refl _ _⟩
  · intro z wx hI
    obtain ⟨i, h5, hi, ho3, hb1⟩ := hI
    simp -dsimp only [push_cast, Nat.reduceAdd, Nat.reduceLeDiff, decide_true, h5]
    refine ⟨fun hlt => ?_, fun hge => ?_⟩
    · obtain ⟨x, hx, hxm, hd, ht⟩ := lt_get (l := udec 0 s) (i := i) (by omega)
      obtain ⟨b, o, rfl, hX, hcell⟩ := (hsl.below hb1).get hx
      have c0 : wx.cell? ⟨b, o + i * 3, none⟩ = some (.int .i64 x.p) := hcell 0 _ rfl
      simp -dsimp only [push_cast, Nat.reduceAdd, Nat.reduceLeDiff, decide_true, c0]
      refine ⟨⟨by omega, by omega⟩, ?_⟩
      refine rowK elI_22 rfl rfl (by omega) ?_
      intro w2 hw2
      simp -dsimp only [push_cast, Nat.reduceAdd, Nat.reduceLeDiff, decide_true]
      refine appendK (ys := [(x.p : Int)]) (enc := encI) elI_22 (ho3.below hw2.below) (fun j u hu => by simpa using hw2.cell hu) (by simp [encI, Value.oneCell']) (by have := udec_length s.length s 0 rfl; simp only [List.length_map, List.length_take, List.length_cons, List.length_nil]; omega) (by have := hb.size; have := hb1.size; have := hw2.size; omega) ?_
      intro v' w3 ho4 _ hb3
      simp -dsimp only [push_cast, Nat.reduceAdd, Nat.reduceLeDiff, decide_true]
      have hl := udec_length s.length s 0 rfl
      exact ⟨⟨by omega, by omega⟩, ⟨i + 1, rfl, by omega, by rw [ht]; simpa using ho4, hb1.trans ((hw2.below.mono hb1.size).trans hb3)⟩, by rw [h5]; simp only [intOf]; omega⟩
    · rw [List.take_of_length_le (by omega)] at ho3
      exact ⟨ho3.mono hb.size, hb.trans (hb1.mono hb.size)⟩
end Go.Proofs.YtonedboaomehaaaDoor
