import Derived.Test.YtimjpijbcnjaaaaDoorImr5
namespace Go.Proofs.YtimjpijbcnjaaaaDoor
open Go.Vc Go.Proofs Go.RowKit Cae
set_option maxRecDepth 100000
set_option linter.unusedSimpArgs false
set_option linter.unusedVariables false
attribute [local irreducible] wpL callK valK unitK runK Fun Sl Own vc vcOps opK pureK
set_option maxHeartbeats 4000000

def rdT (w : World) (p : Nat) (x : St) : Prop := Blk w p 114 [str x.s, .bool x.bad]

theorem tnumA_val (most : Nat) (bad : Bool) (full : List UInt8) : ∀ (s : List UInt8) (i n : Nat), i ≤ 6 → n < 128 ^ i → (tnumA most bad full i n s).1 < 4398046511104 ∧ ((tnumA most bad full i n s).2.s.length ≤ max s.length full.length)
  | [], _, _, _, _ => by rw [tnumA]; exact ⟨by simp, Nat.le_max_right _ _⟩
  | c :: r, i, n, hi, hn => by
    rw [tnumA]
    split
    · exact ⟨by simp, Nat.le_max_right _ _⟩
    · rename_i h4
      have h5 : i = 0 ∨ i = 1 ∨ i = 2 ∨ i = 3 ∨ i = 4 ∨ i = 5 := by omega
      split
      · rename_i hc
        refine ⟨?_, ?_⟩
        · rcases h5 with rfl | rfl | rfl | rfl | rfl | rfl <;> simp only [Nat.reducePow] at hn ⊢ <;> omega
        · simp only [List.length_cons]; omega
      · have hm := Nat.mod_lt c.toNat (show 0 < 128 by omega)
        have := tnumA_val most bad full r (i + 1) (n + c.toNat % 128 * 128 ^ i) (by omega) (by
          rcases h5 with rfl | rfl | rfl | rfl | rfl | rfl <;> simp only [Nat.reducePow, Nat.reduceAdd] at hn ⊢ <;> omega)
        refine ⟨this.1, ?_⟩
        simp only [List.length_cons]; omega
theorem tnum_val (most : Nat) (x : St) : (tnum most x).1 < 4398046511104 := (tnumA_val most x.bad x.s x.s 0 0 (by omega) (by omega)).1
theorem tnum_len (most : Nat) (x : St) : (tnum most x).2.s.length ≤ x.s.length := by
  have := (tnumA_val most x.bad x.s x.s 0 0 (by omega) (by omega)).2
  rw [Nat.max_self] at this
  exact this

theorem tnum_c (most : Nat) (x : St) (p : Nat) (w : World) (hs : x.s.length < 1000000000) (hB : rdT w p x) :
    Fun Tryd.prog 72 [.pointer (some ⟨p, 0, none⟩), .int .i64 most] w fun r w' => r = .int .i64 (tnum most x).1 ∧ Put w w' p 114 [str (tnum most x).2.s, .bool (tnum most x).2.bad] := by
  have hB' : Blk w p 114 [str x.s, .bool x.bad] := hB
  have c0 : w.cell? ⟨p, 0, none⟩ = some (str x.s) := hB'.cell rfl
  have c1 : w.cell? ⟨p, 1, none⟩ = some (.bool x.bad) := hB'.cell rfl
  refine fun_of_vc Tryd.func72 rfl (by kernel_rfl) [4] rfl ?_
  simp -dsimp only [push_cast, fr0, Tryd.ntmps72, List.length_cons, List.length_nil, Nat.reduceAdd, Nat.reduceSub, Nat.reduceBEq, List.replicate_succ, List.replicate_zero]
  refine wpL_loop [4, 5, 6, 7, 8, 9, 10, 11, 12, 13, 14, 15, 16, 17, 18, 19, 20, 21, 22, 23, 24, 25, 26, 27, 28, 29, 30, 31, 32, 33, 34, 35, 36, 37, 38, 39, 40, 41, 42, 43, 44, 45, 46, 47, 48, 49, 50, 51, 52, 53, 54, 55, 56, 57, 58, 59, 60, 61] (fun z wx => ∃ (i n f : Nat), z 7 = .int .i64 i ∧ z 5 = .int .i64 n ∧ z 6 = .int .i64 f ∧ i ≤ x.s.length ∧ i ≤ 6 ∧ n < 128 ^ i ∧ f = 128 ^ i ∧ tnumA most x.bad x.s i n (x.s.drop i) = tnumA most x.bad x.s 0 0 x.s ∧ wx = w) (fun z _ => x.s.length - (intOf (z 7)).toNat) ?_ ?_
  · exact ⟨0, 0, 1, rfl, rfl, rfl, Nat.zero_le _, by omega, by omega, rfl, rfl, rfl⟩
  · intro z wx hI
    obtain ⟨i, n, f, h7, h5, h6, hi, hi6, hn, hf, hg, hw⟩ := hI
    subst hw
    simp -dsimp only [push_cast, Nat.reduceAdd, Nat.reduceLeDiff, Nat.reduceBEq, decide_true, h7, h5, h6, c0]
    have hfin0 : ¬ (i < x.s.length ∧ i < 6) → tnum most x = (0, ⟨x.s, true⟩) := fun h => by
      unfold tnum
      rw [← hg]
      cases hdr : x.s.drop i with
      | nil => rfl
      | cons c r =>
        have hl := congrArg List.length hdr
        simp only [List.length_drop, List.length_cons] at hl
        rw [tnumA, if_pos (by omega)]
    have hend : ∀ w1, ¬ (i < x.s.length ∧ i < 6) → Put wx w1 p 114 [str x.s, .bool true] → Value.int IntKind.i64 0 = Value.int IntKind.i64 ((tnum most x).1 : Int) ∧ Put wx w1 p 114 [str (tnum most x).2.s, .bool (tnum most x).2.bad] := fun w1 h hw1 => by
      rw [hfin0 h]
      exact ⟨rfl, hw1⟩
    refine ⟨fun hlt => ⟨fun hlt6 => ?_, fun hge6 => ?_⟩, fun hge => ?_⟩
    · obtain ⟨c, hc, _, hd, _⟩ := lt_get (l := x.s) (i := i) (by omega)
      have hgd : x.s.getD i 0 = c := by rw [List.getD_eq_getElem?_getD, hc]; rfl
      have hcl : c.toNat < 256 := c.toNat_lt
      rw [hd, tnumA, if_neg (by omega)] at hg
      have hm := Nat.mod_lt c.toNat (show 0 < 128 by omega)
      have h6' : i = 0 ∨ i = 1 ∨ i = 2 ∨ i = 3 ∨ i = 4 ∨ i = 5 := by omega
      have hf5 : 1 ≤ f ∧ f ≤ 34359738368 := by subst hf; rcases h6' with rfl | rfl | rfl | rfl | rfl | rfl <;> simp only [Nat.reducePow] <;> omega
      have hq : c.toNat % 128 * f ≤ 127 * f := Nat.mul_le_mul_right _ (by omega)
      have hnf : n < f := by rw [hf]; exact hn
      have hn' : n + c.toNat % 128 * f < 128 ^ (i + 1) := by
        rw [Nat.pow_succ, ← hf]; omega
      have hf' : f * 128 = 128 ^ (i + 1) := by rw [Nat.pow_succ, ← hf]
      rw [hgd, wrap_i64_nat (by omega), tmod128, ← Int.natCast_mul]
      rw [← hf] at hg
      generalize hqq : c.toNat % 128 * f = q at hq hn' hg ⊢
      refine ⟨⟨by omega, by omega⟩, by omega, ⟨by omega, by omega⟩, ⟨by omega, by omega⟩, ⟨by omega, by omega⟩, fun hc1 => ?_, fun hc1 => ?_⟩
      · rw [if_pos (by omega)] at hg
        have eq1 : c.toNat * f = q := by rw [← hqq, Nat.mod_eq_of_lt (by omega)]
        rw [eq1] at hg
        have e : ((i : Int) + 1).toNat = i + 1 := by omega
        have hres : tnum most x = (n + q, ⟨x.s.drop (i + 1), x.bad || decide (most < n + q)⟩) := by unfold tnum; rw [← hg]
        refine ⟨⟨by omega, by omega⟩, ⟨by omega, by omega⟩, ?_⟩
        refine storeK_of hB' (by simp) rfl ?_
        intro w1 hw1
        have d1 : w1.cell? ⟨p, 1, none⟩ = some (.bool x.bad) := hw1.blk.cell rfl
        have hfin : ∀ bd w2, bd = (x.bad || decide (most < n + q)) → Put w1 w2 p 114 [str (x.s.drop ((i : Int) + 1).toNat), .bool bd] → Value.int IntKind.i64 ((n : Int) + (q : Int)) = Value.int IntKind.i64 ((tnum most x).1 : Int) ∧ Put wx w2 p 114 [str (tnum most x).2.s, .bool (tnum most x).2.bad] := fun bd w2 hbd hw2 => by
          rw [hres]
          subst hbd
          rw [e] at hw2
          exact ⟨rfl, putTrans hw1 hw2⟩
        cases hbad : x.bad with
        | true =>
          rw [hbad] at d1 hw1
          simp -dsimp only [push_cast, Nat.reduceAdd, Nat.reduceLeDiff, Nat.reduceBEq, decide_true, ne_eq, eq_self, not_true_eq_false, not_false_eq_true, true_imp_iff, false_imp_iff, Int.reduceNe, Int.reduceEq, Int.reduceLT, Int.reduceLE, Bool.not_true, Bool.not_false, d1]
          refine storeK_of hw1.blk (by simp) rfl ?_
          intro w2 hw2
          simp -dsimp only [push_cast, Nat.reduceAdd, Nat.reduceLeDiff, Nat.reduceBEq, decide_true]
          rw [hbad] at hfin
          exact hfin true w2 (by rw [Bool.true_or]) hw2
        | false =>
          rw [hbad] at d1 hw1
          simp -dsimp only [push_cast, Nat.reduceAdd, Nat.reduceLeDiff, Nat.reduceBEq, decide_true, ne_eq, eq_self, not_true_eq_false, not_false_eq_true, true_imp_iff, false_imp_iff, Int.reduceNe, Int.reduceEq, Int.reduceLT, Int.reduceLE, Bool.not_true, Bool.not_false, d1]
          refine storeK_of hw1.blk (by simp) rfl ?_
          intro w2 hw2
          simp -dsimp only [push_cast, Nat.reduceAdd, Nat.reduceLeDiff, Nat.reduceBEq, decide_true]
          rw [hbad] at hfin
          refine hfin _ w2 ?_ hw2
          rw [Bool.false_or, decide_eq_decide]; omega
      · rw [if_neg (by omega)] at hg
        refine ⟨⟨by omega, by omega⟩, ⟨i + 1, n + q, f * 128, rfl, by simp, by simp, by omega, by omega, hn', hf', hg⟩, by simp only [intOf]; omega⟩
    · refine storeK_of hB' (by simp) rfl ?_
      intro w1 hw1
      simp -dsimp only [push_cast, Nat.reduceAdd, Nat.reduceLeDiff, Nat.reduceBEq, decide_true]
      exact hend w1 (by omega) hw1
    · refine storeK_of hB' (by simp) rfl ?_
      intro w1 hw1
      simp -dsimp only [push_cast, Nat.reduceAdd, Nat.reduceLeDiff, Nat.reduceBEq, decide_true]
      exact hend w1 (by omega) hw1
end Go.Proofs.YtimjpijbcnjaaaaDoor
