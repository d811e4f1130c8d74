import Derived.Test.YtonedboaomehaaaDoorUtf
namespace Go.Proofs.YtonedboaomehaaaDoor
open Go.Vc Go.Proofs Go.RowKit Cae
set_option maxRecDepth 100000
set_option linter.unusedSimpArgs false
set_option linter.unusedVariables false
attribute [local irreducible] wpL callK valK unitK runK Fun Sl Own vc vcOps opK pureK

def encU (u : U) : List Value := [.int .i64 u.p, .int .i64 u.at_, .int .i64 u.n]

theorem decode_c (s : List UInt8) (hs : s.length < 1000000) (w : World) (hg : Least w) :
    Fun Tryd.prog 7 [str s] w fun v w' => Own w.heap.size 27 3 encU w' v (udec 0 s) ∧ Below w.heap.size w w' := by
  refine fun_of_vc Tryd.func7 rfl (by kernel_rfl) [2] rfl ?_
  simp -dsimp only [push_cast, fr0, Tryd.ntmps7, List.length_cons, List.length_nil, Nat.reduceAdd, Nat.reduceSub, List.replicate_succ, List.replicate_zero]
  refine wpL_loop [3, 4, 5, 6, 7, 8, 9, 10, 11, 12, 13, 14, 15, 16, 17, 18, 19, 20, 21, 22, 23, 24, 25, 26, 27, 28, 29] (fun z wx => ∃ (i : Nat) (acc : List U), z 4 = .int .i64 i ∧ i ≤ s.length ∧ acc.length ≤ i ∧ acc ++ udec i (s.drop i) = udec 0 s ∧
    Own w.heap.size 27 3 encU wx (z 3) acc ∧ Below w.heap.size w wx) (fun z _ => s.length - (intOf (z 4)).toNat) ?_ ?_
  · exact ⟨0, [], rfl, Nat.zero_le _, Nat.le_refl _, rfl, Own.nil (enc := encU) _ _ (fun _ => rfl) _, Below.refl _ _⟩
  · intro z wx hI
    obtain ⟨i, acc, h4, hi, ha, hd, ho, hb⟩ := hI
    simp -dsimp only [push_cast, Nat.reduceAdd, Nat.reduceLeDiff, decide_true, h4]
    refine ⟨fun hlt => ⟨⟨by omega, by omega⟩, ?_⟩, fun hge => ?_⟩
    · have hne : s.drop i ≠ [] := by intro h; have := congrArg List.length h; simp only [List.length_drop, List.length_nil] at this; omega
      refine callK_of (first_c (s.drop i) (by rw [List.length_drop]; omega) hne wx (hg.below hb)) ?_
      rintro v w1 ⟨rfl, hb1⟩
      simp -dsimp only [push_cast, Nat.reduceAdd, Nat.reduceLeDiff, decide_true]
      have hst := ustep_le (s.drop i) hne
      have hsp := ustep_pos (s.drop i)
      have hu := ufirst_le (s.drop i)
      have hcons := udec_cons i (s.drop i) hne
      refine ⟨fun h0 => ?_, fun h0 => ?_⟩
      · have e : ustep (s.drop i) = (65533, 1) := by unfold ustep; rw [if_pos (by omega)]
        refine rowK elI_24 rfl rfl (by omega) ?_
        intro w2 hw2
        simp -dsimp only [push_cast, Nat.reduceAdd, Nat.reduceLeDiff, decide_true]
        refine appendK (ys := [⟨65533, i, 1⟩]) (enc := encU) elI_24 ((ho.below hb1).below hw2.below) (fun j u hu => by simpa using hw2.cell hu) (by simp [encU, Value.oneCell']) (by simp only [List.length_cons, List.length_nil]; omega) (by have := hb.size; have := hb1.size; have := hw2.size; omega) ?_
        intro v' w3 ho3 _ hb3
        simp -dsimp only [push_cast, Nat.reduceAdd, Nat.reduceLeDiff, decide_true]
        refine ⟨⟨by omega, by omega⟩, ⟨i + 1, _, rfl, by rw [List.length_drop] at hst; rw [e] at hst; (try dsimp only at hst); omega, ?_, ?_, ho3,
          (hb.trans (hb1.mono hb.size)).trans ((hw2.below.mono (Nat.le_trans hb.size hb1.size)).trans hb3)⟩, ?_⟩
        · rw [e] at hsp; simp only [List.length_append, List.length_cons, List.length_nil]; (try dsimp only at hsp); omega
        · rw [← hd, hcons, e, List.drop_drop, List.append_assoc]; rfl
        · rw [e] at hsp; rw [h4]; simp only [intOf]; (try dsimp only at hsp); omega
      · have e : ustep (s.drop i) = ufirst (s.drop i) := by unfold ustep; rw [if_neg (by omega)]
        refine rowK elI_24 rfl rfl (by omega) ?_
        intro w2 hw2
        simp -dsimp only [push_cast, Nat.reduceAdd, Nat.reduceLeDiff, decide_true]
        refine appendK (ys := [⟨(ufirst (s.drop i)).1, i, (ufirst (s.drop i)).2⟩]) (enc := encU) elI_24 ((ho.below hb1).below hw2.below) (fun j u hu => by simpa using hw2.cell hu) (by simp [encU, Value.oneCell']) (by simp only [List.length_cons, List.length_nil]; omega) (by have := hb.size; have := hb1.size; have := hw2.size; omega) ?_
        intro v' w3 ho3 _ hb3
        simp -dsimp only [push_cast, Nat.reduceAdd, Nat.reduceLeDiff, decide_true]
        refine ⟨⟨by omega, by omega⟩, ⟨i + (ufirst (s.drop i)).2, _, rfl, by rw [List.length_drop] at hst; rw [e] at hst; (try dsimp only at hst); omega, ?_, ?_, ho3,
          (hb.trans (hb1.mono hb.size)).trans ((hw2.below.mono (Nat.le_trans hb.size hb1.size)).trans hb3)⟩, ?_⟩
        · rw [e] at hsp; simp only [List.length_append, List.length_cons, List.length_nil]; (try dsimp only at hsp); omega
        · rw [← hd, hcons, e, List.drop_drop, List.append_assoc]; rfl
        · rw [e] at hsp; rw [h4]; simp only [intOf]; (try dsimp only at hsp); omega
    · have e : s.drop i = [] := List.drop_eq_nil_of_le (by omega)
      rw [e, udec_nil, List.append_nil] at hd
      rw [← hd]
      exact ⟨ho, hb⟩
end Go.Proofs.YtonedboaomehaaaDoor
