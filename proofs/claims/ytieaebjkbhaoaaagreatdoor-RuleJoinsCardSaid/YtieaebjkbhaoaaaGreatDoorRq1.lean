import Derived.Test.YtieaebjkbhaoaaaGreatDoorRp9
import Derived.Test.YtieaebjkbhaoaaaGreatDoorVd
import Derived.Test.YtieaebjkbhaoaaaGreatDoorJoin
import Derived.Shelf.Strconv.Itoa4
namespace Cae
/-- Numbers that can be written: times; sets that can be written. -/
def KindOk : KindP → Prop
  | .lit _ s => setRight (-2) s = true ∧ s.length < 10000000
  | .ref _ _ => True
  | .not _ k => KindOk k
  | .bin c _ k r => KindOk k ∧ KindOk r ∧ (c = 3 ∨ c = 4 ∨ c = 5)
mutual
def PatOk : PatP → Prop
  | .one k => KindOk k
  | .any => True
  | .edge => True
  | .cat l => PatsOk l
  | .alt l => PatsOk l
  | .many x lo hi => PatOk x ∧ 0 ≤ lo ∧ lo < 100 ∧ hi < 100
def PatsOk : List PatP → Prop
  | [] => True
  | x :: l => PatOk x ∧ PatsOk l
end
theorem decP_dec : ∀ n, n < 100 → Go.Lib.decDigits n = decP n := by decide +kernel
end Cae
namespace Go.Proofs.YtieaebjkbhaoaaaGreatDoor
open Go.Vc Go.Proofs Go.RowKit Cae
set_option maxRecDepth 100000
set_option linter.unusedSimpArgs false
set_option linter.unusedVariables false
attribute [local irreducible] wpL callK valK unitK runK Fun Sl Own vc vcOps opK pureK
set_option maxHeartbeats 4000000
def itoaR_ren : Go.Shelf.Ren := ⟨fun | 171 => 54 | 243 => 67 | 246 => 65 | 283 => 75 | 284 => 76 | 285 => 77 | 286 => 78 | 129 => 91 | 317 => 90 | 318 => 92 | 319 => 93 | 320 => 94 | 337 => 100 | 338 => 101 | n => n, fun | 3 => 3 | 9 => 9 | 2 => 2 | 4 => 4 | 171 => 120 | 0 => 0 | 53 => 121 | 37 => 53 | 5 => 5 | 173 => 124 | 212 => 136 | 51 => 103 | 20 => 20 | 213 => 137 | 46 => 67 | 232 => 153 | 233 => 154 | n => n, fun | 17 => 1 | 18 => 6 | 19 => 7 | n => n⟩
theorem itoaR : Go.Proofs.Lays.n171 Tryz.prog itoaR_ren := {
  mixed := by kernel_rfl
  f129 := Tryz.func91.trans (congrArg some (by kernel_rfl))
  f171 := Tryz.func54.trans (congrArg some (by kernel_rfl))
  f243 := Tryz.func67.trans (congrArg some (by kernel_rfl))
  f246 := Tryz.func65.trans (congrArg some (by kernel_rfl))
  f283 := Tryz.func75.trans (congrArg some (by kernel_rfl))
  f284 := Tryz.func76.trans (congrArg some (by kernel_rfl))
  f285 := Tryz.func77.trans (congrArg some (by kernel_rfl))
  f286 := Tryz.func78.trans (congrArg some (by kernel_rfl))
  f317 := Tryz.func90.trans (congrArg some (by kernel_rfl))
  f318 := Tryz.func92.trans (congrArg some (by kernel_rfl))
  f319 := Tryz.func93.trans (congrArg some (by kernel_rfl))
  f320 := Tryz.func94.trans (congrArg some (by kernel_rfl))
  f337 := Tryz.func100.trans (congrArg some (by kernel_rfl))
  f338 := Tryz.func101.trans (congrArg some (by kernel_rfl))
  t0 := Tryz.underlying0
  a0 := Tryz.isAgg0
  z0 := Tryz.sizeOf0
  v0 := Tryz.zeroValue0
  t2 := Tryz.underlying2
  a2 := Tryz.isAgg2
  z2 := Tryz.sizeOf2
  v2 := Tryz.zeroValue2
  t3 := Tryz.underlying3
  a3 := Tryz.isAgg3
  z3 := Tryz.sizeOf3
  v3 := Tryz.zeroValue3
  t4 := Tryz.underlying4
  a4 := Tryz.isAgg4
  z4 := Tryz.sizeOf4
  v4 := Tryz.zeroValue4
  t5 := Tryz.underlying5
  a5 := Tryz.isAgg5
  z5 := Tryz.sizeOf5
  v5 := Tryz.zeroValue5
  t9 := Tryz.underlying9
  a9 := Tryz.isAgg9
  z9 := Tryz.sizeOf9
  v9 := Tryz.zeroValue9
  t20 := Tryz.underlying20
  a20 := Tryz.isAgg20
  z20 := Tryz.sizeOf20
  v20 := Tryz.zeroValue20
  t37 := Tryz.underlying53
  a37 := Tryz.isAgg53
  z37 := Tryz.sizeOf53
  v37 := Tryz.zeroValue53
  t46 := Tryz.underlying67
  a46 := Tryz.isAgg67
  z46 := Tryz.sizeOf67
  v46 := Tryz.zeroValue67
  t51 := Tryz.underlying103
  a51 := Tryz.isAgg103
  z51 := Tryz.sizeOf103
  v51 := Tryz.zeroValue103
  t53 := Tryz.underlying121
  a53 := Tryz.isAgg121
  z53 := Tryz.sizeOf121
  v53 := Tryz.zeroValue121
  t171 := Tryz.underlying120
  a171 := Tryz.isAgg120
  z171 := Tryz.sizeOf120
  v171 := Tryz.zeroValue120
  t173 := Tryz.underlying124
  a173 := Tryz.isAgg124
  z173 := Tryz.sizeOf124
  v173 := Tryz.zeroValue124
  t212 := Tryz.underlying136
  a212 := Tryz.isAgg136
  z212 := Tryz.sizeOf136
  v212 := Tryz.zeroValue136
  t213 := Tryz.underlying137
  a213 := Tryz.isAgg137
  z213 := Tryz.sizeOf137
  t232 := Tryz.underlying153
  a232 := Tryz.isAgg153
  z232 := Tryz.sizeOf153
  v232 := Tryz.zeroValue153
  t233 := Tryz.underlying154
  a233 := Tryz.isAgg154
  z233 := Tryz.sizeOf154
  v233 := Tryz.zeroValue154
  g17 := by kernel_rfl
  g18 := by kernel_rfl
  g19 := by kernel_rfl }

theorem itoa_c (n : Int) (h0 : 0 ≤ n) (h1 : n < 100) (w : World) : Fun Tryz.prog 54 [.int .i64 n] w fun r w' => r = str (decP n.toNat) ∧ w' = w := by
  refine fun_of_calls Tryz.func54 (by kernel_rfl) (by kernel_rfl) ?_
  have := Any.strconv_Itoa_small itoaR n.toNat (by omega) w
  rw [Int.toNat_of_nonneg h0] at this
  refine Calls.mono this ?_
  rintro e w' ⟨rfl, rfl⟩
  refine ⟨_, rfl, ?_, rfl⟩
  rw [decP_dec _ (by omega)]
  rfl
theorem timesT_c (lo hi : Int) (h0 : 0 ≤ lo) (h1 : lo < 100) (h2 : hi < 100) (w : World) : Fun Tryz.prog 44 [.int .i64 lo, .int .i64 hi] w fun r w' => r = str (timesText lo hi) ∧ w' = w := by
  have l1 := decP_len lo.toNat
  have l2 := decP_len hi.toNat
  have l3 := decP_len 0
  have hdef : timesText lo hi = if lo = 0 ∧ hi < 0 then [42] else if lo = 1 ∧ hi < 0 then [43] else if lo = 0 ∧ hi = 1 then [63]
    else if hi < 0 then 123 :: (decP lo.toNat ++ [44, 125])
    else if hi = lo then 123 :: (decP lo.toNat ++ [125])
    else 123 :: (decP lo.toNat ++ 44 :: (decP hi.toNat ++ [125])) := rfl
  have ll1 : ([123] ++ decP lo.toNat).length < 10 := by rw [List.length_append]; simp; omega
  refine fun_of_vc Tryz.func44 rfl (by kernel_rfl) [4] rfl ?_
  simp -dsimp (maxSteps := 4000000) only [push_cast, fr0, Tryz.ntmps44, List.length_cons, List.length_nil, Nat.reduceAdd, Nat.reduceSub, Nat.reduceBEq, List.replicate_succ, List.replicate_zero]
  by_cases a0 : lo = 0
  · subst a0
    by_cases a1 : hi < 0
    · simp only [eq_true a1, not_true_eq_false, false_implies, true_implies, and_true]
      exact congrArg str (by rw [hdef, if_pos ⟨rfl, a1⟩])
    · by_cases a2 : hi = 1
      · subst a2
        simp only [Int.reduceLT, Int.reduceEq, not_false_eq_true, not_true_eq_false, false_implies, true_implies, and_true, true_and]
        rfl
      · have e1 : ¬ ((0 : Int) = 1) := by decide
        simp only [eq_false a1, eq_false a2, eq_false e1, not_false_eq_true, not_true_eq_false, false_implies, true_implies, and_true, true_and]
        by_cases a3 : hi = 0
        · simp only [eq_true a3, not_false_eq_true, not_true_eq_false, false_implies, true_implies, and_true, true_and]
          refine callK_of (itoa_c _ (by omega) (by omega) w) ?_
          rintro _ _ ⟨rfl, rfl⟩
          simp -dsimp only [push_cast, Nat.reduceAdd, Nat.reduceLeDiff, Nat.reduceBEq, decide_true, ne_eq, eq_self, not_true_eq_false, not_false_eq_true, true_imp_iff, false_imp_iff, Int.reduceNe, Int.reduceEq, Int.reduceLT, Int.reduceLE, Bool.not_true, Bool.not_false]
          refine ⟨by omega, by simp only [List.length_append, List.length_singleton]; omega, congrArg str ?_⟩
          rw [hdef, if_neg (by omega), if_neg (by omega), if_neg (by omega), if_neg (by omega), if_pos a3]
          rfl
        · simp only [eq_false a3, not_false_eq_true, not_true_eq_false, false_implies, true_implies, and_true, true_and]
          refine callK_of (itoa_c _ (by omega) (by omega) w) ?_
          rintro _ _ ⟨rfl, rfl⟩
          simp -dsimp only [push_cast, Nat.reduceAdd, Nat.reduceLeDiff, Nat.reduceBEq, decide_true, ne_eq, eq_self, not_true_eq_false, not_false_eq_true, true_imp_iff, false_imp_iff, Int.reduceNe, Int.reduceEq, Int.reduceLT, Int.reduceLE, Bool.not_true, Bool.not_false]
          refine ⟨by omega, by simp only [List.length_append, List.length_singleton]; omega, ?_⟩
          refine callK_of (itoa_c hi (by omega) (by omega) _) ?_
          rintro _ _ ⟨rfl, rfl⟩
          simp -dsimp only [push_cast, Nat.reduceAdd, Nat.reduceLeDiff, Nat.reduceBEq, decide_true, ne_eq, eq_self, not_true_eq_false, not_false_eq_true, true_imp_iff, false_imp_iff, Int.reduceNe, Int.reduceEq, Int.reduceLT, Int.reduceLE, Bool.not_true, Bool.not_false]
          simp only [List.length_append, List.length_singleton]
          refine ⟨by omega, by omega, congrArg str ?_⟩
          rw [hdef, if_neg (by omega), if_neg (by omega), if_neg (by omega), if_neg (by omega), if_neg a3]
          simp
  · by_cases a1 : hi < 0
    · by_cases a2 : lo = 1
      · simp only [eq_false a0, eq_true a1, eq_true a2, not_false_eq_true, not_true_eq_false, false_implies, true_implies, and_true, true_and]
        exact congrArg str (by rw [hdef, if_neg (by omega), if_pos ⟨a2, a1⟩])
      · simp only [eq_false a0, eq_true a1, eq_false a2, not_false_eq_true, not_true_eq_false, false_implies, true_implies, and_true, true_and]
        refine callK_of (itoa_c lo h0 h1 w) ?_
        rintro _ _ ⟨rfl, rfl⟩
        simp -dsimp only [push_cast, Nat.reduceAdd, Nat.reduceLeDiff, Nat.reduceBEq, decide_true, ne_eq, eq_self, not_true_eq_false, not_false_eq_true, true_imp_iff, false_imp_iff, Int.reduceNe, Int.reduceEq, Int.reduceLT, Int.reduceLE, Bool.not_true, Bool.not_false]
        refine ⟨by omega, by simp only [List.length_append, List.length_singleton]; omega, congrArg str ?_⟩
        rw [hdef, if_neg (by omega), if_neg (by omega), if_neg (by omega), if_pos a1]
        rfl
    · have e2 : (lo = 1 → (hi < 0 → False)) := by omega
      by_cases a2 : lo = 1
      · simp only [eq_false a0, eq_false a1, eq_true a2, not_false_eq_true, not_true_eq_false, false_implies, true_implies, and_true, true_and]
        by_cases a3 : hi = lo
        · simp only [eq_true a3, not_false_eq_true, not_true_eq_false, false_implies, true_implies, and_true, true_and]
          refine callK_of (itoa_c _ (by omega) (by omega) w) ?_
          rintro _ _ ⟨rfl, rfl⟩
          simp -dsimp only [push_cast, Nat.reduceAdd, Nat.reduceLeDiff, Nat.reduceBEq, decide_true, ne_eq, eq_self, not_true_eq_false, not_false_eq_true, true_imp_iff, false_imp_iff, Int.reduceNe, Int.reduceEq, Int.reduceLT, Int.reduceLE, Bool.not_true, Bool.not_false]
          refine ⟨by omega, by simp only [List.length_append, List.length_singleton]; omega, congrArg str ?_⟩
          rw [hdef, if_neg (by omega), if_neg (by omega), if_neg (by omega), if_neg (by omega), if_pos a3]
          rfl
        · simp only [eq_false a3, not_false_eq_true, not_true_eq_false, false_implies, true_implies, and_true, true_and]
          refine callK_of (itoa_c _ (by omega) (by omega) w) ?_
          rintro _ _ ⟨rfl, rfl⟩
          simp -dsimp only [push_cast, Nat.reduceAdd, Nat.reduceLeDiff, Nat.reduceBEq, decide_true, ne_eq, eq_self, not_true_eq_false, not_false_eq_true, true_imp_iff, false_imp_iff, Int.reduceNe, Int.reduceEq, Int.reduceLT, Int.reduceLE, Bool.not_true, Bool.not_false]
          refine ⟨by omega, by simp only [List.length_append, List.length_singleton]; omega, ?_⟩
          refine callK_of (itoa_c hi (by omega) (by omega) _) ?_
          rintro _ _ ⟨rfl, rfl⟩
          simp -dsimp only [push_cast, Nat.reduceAdd, Nat.reduceLeDiff, Nat.reduceBEq, decide_true, ne_eq, eq_self, not_true_eq_false, not_false_eq_true, true_imp_iff, false_imp_iff, Int.reduceNe, Int.reduceEq, Int.reduceLT, Int.reduceLE, Bool.not_true, Bool.not_false]
          simp only [List.length_append, List.length_singleton]
          refine ⟨by omega, by omega, congrArg str ?_⟩
          rw [hdef, if_neg (by omega), if_neg (by omega), if_neg (by omega), if_neg (by omega), if_neg a3]
          simp
      · simp only [eq_false a0, eq_false a1, eq_false a2, not_false_eq_true, not_true_eq_false, false_implies, true_implies, and_true, true_and]
        by_cases a3 : hi = lo
        · simp only [eq_true a3, not_false_eq_true, not_true_eq_false, false_implies, true_implies, and_true, true_and]
          refine callK_of (itoa_c _ (by omega) (by omega) w) ?_
          rintro _ _ ⟨rfl, rfl⟩
          simp -dsimp only [push_cast, Nat.reduceAdd, Nat.reduceLeDiff, Nat.reduceBEq, decide_true, ne_eq, eq_self, not_true_eq_false, not_false_eq_true, true_imp_iff, false_imp_iff, Int.reduceNe, Int.reduceEq, Int.reduceLT, Int.reduceLE, Bool.not_true, Bool.not_false]
          refine ⟨by omega, by simp only [List.length_append, List.length_singleton]; omega, congrArg str ?_⟩
          rw [hdef, if_neg (by omega), if_neg (by omega), if_neg (by omega), if_neg (by omega), if_pos a3]
          rfl
        · simp only [eq_false a3, not_false_eq_true, not_true_eq_false, false_implies, true_implies, and_true, true_and]
          refine callK_of (itoa_c _ (by omega) (by omega) w) ?_
          rintro _ _ ⟨rfl, rfl⟩
          simp -dsimp only [push_cast, Nat.reduceAdd, Nat.reduceLeDiff, Nat.reduceBEq, decide_true, ne_eq, eq_self, not_true_eq_false, not_false_eq_true, true_imp_iff, false_imp_iff, Int.reduceNe, Int.reduceEq, Int.reduceLT, Int.reduceLE, Bool.not_true, Bool.not_false]
          refine ⟨by omega, by simp only [List.length_append, List.length_singleton]; omega, ?_⟩
          refine callK_of (itoa_c hi (by omega) (by omega) _) ?_
          rintro _ _ ⟨rfl, rfl⟩
          simp -dsimp only [push_cast, Nat.reduceAdd, Nat.reduceLeDiff, Nat.reduceBEq, decide_true, ne_eq, eq_self, not_true_eq_false, not_false_eq_true, true_imp_iff, false_imp_iff, Int.reduceNe, Int.reduceEq, Int.reduceLT, Int.reduceLE, Bool.not_true, Bool.not_false]
          simp only [List.length_append, List.length_singleton]
          refine ⟨by omega, by omega, congrArg str ?_⟩
          rw [hdef, if_neg (by omega), if_neg (by omega), if_neg (by omega), if_neg (by omega), if_neg a3]
          simp
end Go.Proofs.YtieaebjkbhaoaaaGreatDoor
