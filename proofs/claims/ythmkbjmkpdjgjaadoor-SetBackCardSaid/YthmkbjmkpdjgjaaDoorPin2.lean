import Derived.Test.YthmkbjmkpdjgjaaDoorPint
import Derived.Test.YthmkbjmkpdjgjaaDoorSo1
import Derived.Shelf.Strconv.ToErrorRange
import Derived.Shelf.Strconv.ToError
namespace Cae
theorem hexP_head {n : Nat} (hn : n < 4294967296) : ∃ b r, hexP n = b :: r ∧ isHex b = true := by
  cases h : hexP n with
  | nil => exact absurd h (hexP_ne n)
  | cons b r => exact ⟨b, r, rfl, hexP_all hn b (by rw [h]; simp)⟩
end Cae
namespace Go.Proofs.YthmkbjmkpdjgjaaDoor
open Go.Vc Go.Proofs Go.RowKit Cae
set_option maxRecDepth 100000
set_option linter.unusedSimpArgs false
set_option linter.unusedVariables false
attribute [local irreducible] wpL callK valK unitK runK Fun Sl Own vc vcOps opK pureK
set_option maxHeartbeats 8000000

/-- The two variables that hold errors. -/
def Errs (w : World) : Prop := (∃ t p, w.cell? ⟨1, 0, none⟩ = some (.iface t p)) ∧ (∃ t p, w.cell? ⟨2, 0, none⟩ = some (.iface t p))
theorem Errs.below {w w' : World} (h : Errs w) (hb : Below w.heap.size w w') : Errs w' := by
  obtain ⟨⟨t, p, h1⟩, ⟨t', p', h2⟩⟩ := h
  exact ⟨⟨t, p, (hb.cell (World.block_lt_of_cell? w _ h1)).trans h1⟩, ⟨t', p', (hb.cell (World.block_lt_of_cell? w _ h2)).trans h2⟩⟩
def toErrR_ren : Go.Shelf.Ren := ⟨fun | 245 => 44 | 279 => 66 | 280 => 67 | 281 => 68 | 282 => 69 | 316 => 85 | 171 => 87 | 205 => 86 | 243 => 97 | 246 => 70 | 283 => 88 | 284 => 89 | 285 => 90 | 286 => 91 | 129 => 58 | 317 => 98 | 318 => 99 | 319 => 100 | 320 => 101 | 337 => 102 | 338 => 103 | n => n, fun | 9 => 9 | 3 => 3 | 75 => 38 | 167 => 97 | 4 => 4 | 168 => 100 | 210 => 115 | 37 => 74 | 0 => 0 | 127 => 103 | 145 => 135 | 143 => 133 | 2 => 2 | 171 => 117 | 53 => 91 | 5 => 5 | 173 => 119 | 212 => 137 | 51 => 89 | 20 => 20 | 213 => 138 | 46 => 47 | 232 => 139 | 233 => 140 | 80 => 80 | n => n, fun | 15 => 1 | 16 => 2 | 17 => 5 | 18 => 6 | 19 => 7 | n => n⟩
theorem toErrR : Go.Proofs.LaysC.n245 Tryd.prog toErrR_ren := {
  mixed := by kernel_rfl
  f129 := Tryd.func58.trans (congrArg some (by kernel_rfl))
  f171 := Tryd.func87.trans (congrArg some (by kernel_rfl))
  f205 := Tryd.func86.trans (congrArg some (by kernel_rfl))
  f243 := Tryd.func97.trans (congrArg some (by kernel_rfl))
  f245 := Tryd.func44.trans (congrArg some (by kernel_rfl))
  f246 := Tryd.func70.trans (congrArg some (by kernel_rfl))
  f279 := Tryd.func66.trans (congrArg some (by kernel_rfl))
  f280 := Tryd.func67.trans (congrArg some (by kernel_rfl))
  f281 := Tryd.func68.trans (congrArg some (by kernel_rfl))
  f282 := Tryd.func69.trans (congrArg some (by kernel_rfl))
  f283 := Tryd.func88.trans (congrArg some (by kernel_rfl))
  f284 := Tryd.func89.trans (congrArg some (by kernel_rfl))
  f285 := Tryd.func90.trans (congrArg some (by kernel_rfl))
  f286 := Tryd.func91.trans (congrArg some (by kernel_rfl))
  f316 := Tryd.func85.trans (congrArg some (by kernel_rfl))
  f317 := Tryd.func98.trans (congrArg some (by kernel_rfl))
  f318 := Tryd.func99.trans (congrArg some (by kernel_rfl))
  f319 := Tryd.func100.trans (congrArg some (by kernel_rfl))
  f320 := Tryd.func101.trans (congrArg some (by kernel_rfl))
  f337 := Tryd.func102.trans (congrArg some (by kernel_rfl))
  f338 := Tryd.func103.trans (congrArg some (by kernel_rfl))
  t0 := Tryd.underlying0
  a0 := Tryd.isAgg0
  z0 := Tryd.sizeOf0
  v0 := Tryd.zeroValue0
  t2 := Tryd.underlying2
  a2 := Tryd.isAgg2
  z2 := Tryd.sizeOf2
  v2 := Tryd.zeroValue2
  t3 := Tryd.underlying3
  a3 := Tryd.isAgg3
  z3 := Tryd.sizeOf3
  v3 := Tryd.zeroValue3
  t4 := Tryd.underlying4
  a4 := Tryd.isAgg4
  z4 := Tryd.sizeOf4
  v4 := Tryd.zeroValue4
  t5 := Tryd.underlying5
  a5 := Tryd.isAgg5
  z5 := Tryd.sizeOf5
  v5 := Tryd.zeroValue5
  t9 := Tryd.underlying9
  a9 := Tryd.isAgg9
  z9 := Tryd.sizeOf9
  v9 := Tryd.zeroValue9
  t20 := Tryd.underlying20
  a20 := Tryd.isAgg20
  z20 := Tryd.sizeOf20
  v20 := Tryd.zeroValue20
  t37 := Tryd.underlying74
  a37 := Tryd.isAgg74
  z37 := Tryd.sizeOf74
  v37 := Tryd.zeroValue74
  t46 := Tryd.underlying47
  a46 := Tryd.isAgg47
  z46 := Tryd.sizeOf47
  v46 := Tryd.zeroValue47
  t51 := Tryd.underlying89
  a51 := Tryd.isAgg89
  z51 := Tryd.sizeOf89
  v51 := Tryd.zeroValue89
  t53 := Tryd.underlying91
  a53 := Tryd.isAgg91
  z53 := Tryd.sizeOf91
  v53 := Tryd.zeroValue91
  t75 := Tryd.underlying38
  a75 := Tryd.isAgg38
  z75 := Tryd.sizeOf38
  v75 := Tryd.zeroValue38
  t127 := Tryd.underlying103
  a127 := Tryd.isAgg103
  z127 := Tryd.sizeOf103
  v127 := Tryd.zeroValue103
  t143 := Tryd.underlying133
  a143 := Tryd.isAgg133
  z143 := Tryd.sizeOf133
  v143 := Tryd.zeroValue133
  t145 := Tryd.underlying135
  a145 := Tryd.isAgg135
  z145 := Tryd.sizeOf135
  v145 := Tryd.zeroValue135
  t167 := Tryd.underlying97
  a167 := Tryd.isAgg97
  z167 := Tryd.sizeOf97
  v167 := Tryd.zeroValue97
  t168 := Tryd.underlying100
  a168 := Tryd.isAgg100
  z168 := Tryd.sizeOf100
  v168 := Tryd.zeroValue100
  t171 := Tryd.underlying117
  a171 := Tryd.isAgg117
  z171 := Tryd.sizeOf117
  v171 := Tryd.zeroValue117
  t173 := Tryd.underlying119
  a173 := Tryd.isAgg119
  z173 := Tryd.sizeOf119
  v173 := Tryd.zeroValue119
  t210 := Tryd.underlying115
  a210 := Tryd.isAgg115
  z210 := Tryd.sizeOf115
  v210 := Tryd.zeroValue115
  t212 := Tryd.underlying137
  a212 := Tryd.isAgg137
  z212 := Tryd.sizeOf137
  v212 := Tryd.zeroValue137
  t213 := Tryd.underlying138
  a213 := Tryd.isAgg138
  z213 := Tryd.sizeOf138
  t232 := Tryd.underlying139
  a232 := Tryd.isAgg139
  z232 := Tryd.sizeOf139
  v232 := Tryd.zeroValue139
  t233 := Tryd.underlying140
  a233 := Tryd.isAgg140
  z233 := Tryd.sizeOf140
  v233 := Tryd.zeroValue140
  g15 := by kernel_rfl
  g16 := by kernel_rfl
  g17 := by kernel_rfl
  g18 := by kernel_rfl
  g19 := by kernel_rfl
  t80 := Tryd.underlying80
  a80 := Tryd.isAgg80
  z80 := Tryd.sizeOf80
  v80 := Tryd.zeroValue80
  i0 := by kernel_rfl
  i2 := by kernel_rfl
  i3 := by kernel_rfl
  i4 := by kernel_rfl
  i5 := by kernel_rfl
  i9 := by kernel_rfl
  i20 := by kernel_rfl
  i37 := by kernel_rfl
  i46 := by kernel_rfl
  i51 := by kernel_rfl
  i53 := by kernel_rfl
  i75 := by kernel_rfl
  i80 := by kernel_rfl
  i127 := by kernel_rfl
  i143 := by kernel_rfl
  i145 := by kernel_rfl
  i167 := by kernel_rfl
  i168 := by kernel_rfl
  i171 := by kernel_rfl
  i173 := by kernel_rfl
  i210 := by kernel_rfl
  i212 := by kernel_rfl
  i232 := by kernel_rfl
  i233 := by kernel_rfl
  m15 := by kernel_rfl
  m16 := by kernel_rfl
  m17 := by kernel_rfl
  m18 := by kernel_rfl
  m19 := by kernel_rfl
  c0 := by kernel_rfl
  c2 := by kernel_rfl
  c3 := by kernel_rfl
  c4 := by kernel_rfl
  c5 := by kernel_rfl
  c9 := by kernel_rfl
  c20 := by kernel_rfl
  c37 := by kernel_rfl
  c46 := by kernel_rfl
  c51 := by kernel_rfl
  c53 := by kernel_rfl
  c75 := by kernel_rfl
  c80 := by kernel_rfl
  c127 := by kernel_rfl
  c143 := by kernel_rfl
  c145 := by kernel_rfl
  c167 := by kernel_rfl
  c168 := by kernel_rfl
  c171 := by kernel_rfl
  c173 := by kernel_rfl
  c210 := by kernel_rfl
  c212 := by kernel_rfl
  c213 := by kernel_rfl
  c232 := by kernel_rfl
  c233 := by kernel_rfl }

theorem toErr_c (f s : List UInt8) (base bits : Int) (k : Int) (hk : k = 1 ∨ k = 2) (hs : s.length ≤ 1000000000) (w : World) (h : Errs w) : Fun Tryd.prog 44 [str f, str s, .int .i64 base, .int .i64 bits, .iface 97 (.int .i64 k)] w fun r w' => (∃ t p, r = .iface t p) ∧ Below w.heap.size w w' := by
  obtain ⟨⟨t1, p1, h1⟩, ⟨t2, p2, h2⟩⟩ := h
  refine fun_of_calls Tryd.func44 (by kernel_rfl) (by kernel_rfl) ?_
  rcases hk with rfl | rfl
  · refine Calls.mono (Any.strconv_toError_range toErrR ⟨f.toArray⟩ ⟨s.toArray⟩ base bits _ w (by show s.length ≤ _; omega) h2 (.inr ⟨_, _, rfl⟩)) ?_
    rintro e w' ⟨N, rfl, _, _, hb⟩
    exact ⟨_, rfl, ⟨_, _, rfl⟩, hb⟩
  · refine Calls.mono (Any.strconv_toError_syntax toErrR ⟨f.toArray⟩ ⟨s.toArray⟩ base bits _ w (by show s.length ≤ _; omega) h1 (.inr ⟨_, _, rfl⟩)) ?_
    rintro e w' ⟨N, rfl, _, _, hb⟩
    exact ⟨_, rfl, ⟨_, _, rfl⟩, hb⟩
theorem parseInt_l (s : List UInt8) (hs : s.length ≤ 1000000000) (w : World) : Fun Tryd.prog 43 [str s, .int .i64 16, .int .i64 32] w fun r w' => (∃ (v : Int) (e : Value), r = .tuple #[.int .i64 v, e] ∧ PErr e ∧ (∀ n < 2147483648, s = hexP n → v = n ∧ e = .nilIface)) ∧ Below w.heap.size w w' := by
  refine fun_of_vc Tryd.func43 rfl (by kernel_rfl) [6, 7] rfl ?_
  simp -dsimp (maxSteps := 4000000) only [push_cast, fr0, Tryd.ntmps43, List.length_cons, List.length_nil, Nat.reduceAdd, Nat.reduceSub, Nat.reduceBEq, List.replicate_succ, List.replicate_zero]
  by_cases hne : s = []
  · subst hne
    have e0 : decide (([] : List UInt8) = []) = true := rfl
    simp -dsimp (maxSteps := 4000000) only [push_cast, Nat.reduceAdd, Nat.reduceLeDiff, Nat.reduceBEq, decide_true, ne_eq, eq_self, not_true_eq_false, not_false_eq_true, true_imp_iff, false_imp_iff, Int.reduceNe, Int.reduceEq, Int.reduceLT, Int.reduceLE, Bool.not_true, Bool.not_false, e0]
    refine ⟨⟨0, _, rfl, .inr (.inr rfl), fun n _ h => absurd h.symm (hexP_ne n)⟩, Below.refl _ _⟩
  have hgc : ∃ c r, s = c :: r := List.exists_cons_of_ne_nil hne
  obtain ⟨c, r, rfl⟩ := hgc
  have e0 : decide (c :: r = []) = false := decide_eq_false hne
  have eh : (c :: r).getD 0 0 = c := rfl
  have hsz : (c :: r).length = r.length + 1 := rfl
  have hgb : ∃ b, c.toNat = b := ⟨_, rfl⟩
  obtain ⟨b, hb0⟩ := hgb
  have hnx : (b = 43 ∨ b = 45) → ∀ n < 2147483648, c :: r ≠ hexP n := fun h n hn hh => by
    obtain ⟨b', r', h1, h2⟩ := hexP_head (n := n) (by omega)
    rw [h1] at hh
    cases hh
    unfold isHex at h2
    rw [hb0, Bool.or_eq_true, Bool.and_eq_true, Bool.and_eq_true, decide_eq_true_eq, decide_eq_true_eq, decide_eq_true_eq, decide_eq_true_eq] at h2
    omega
  have ef : decide False = false := rfl
  have et : decide True = true := rfl
  have ed1 : (c :: r).drop (Int.toNat 1) = r := rfl
  simp -dsimp (maxSteps := 4000000) only [push_cast, Nat.reduceAdd, Nat.reduceLeDiff, Nat.reduceBEq, decide_true, ne_eq, eq_self, not_true_eq_false, not_false_eq_true, true_imp_iff, false_imp_iff, Int.reduceNe, Int.reduceEq, Int.reduceLT, Int.reduceLE, Bool.not_true, Bool.not_false, eh, hb0, ef, et, ed1]
  refine ⟨fun h => absurd h hne, fun _ => ⟨by omega, fun h43 => ⟨by omega, ?_⟩, fun n43 => ⟨fun h45 => ⟨by omega, ?_⟩, fun n45 => ?_⟩⟩⟩
  · have hno := hnx (.inl (by omega))
    refine callK_of (parseUint_c r (by first | omega | exact hs) w) ?_
    rintro _ w1 ⟨⟨v, e, rfl, hv, he, hx⟩, hb⟩
    have ecut : IntKind.u64.wrap (1 * 2 ^ min (IntKind.u64.wrap (32 - 1)).toNat IntKind.u64.bits) = 2147483648 := by decide
    have ewv : IntKind.i64.wrap (v : Int) = (v : Int) := by rw [wrap_i64 (by omega)]
    rcases he with rfl | rfl | rfl
    · simp -dsimp (maxSteps := 4000000) only [push_cast, Nat.reduceAdd, Nat.reduceLeDiff, Nat.reduceBEq, decide_true, ne_eq, eq_self, not_true_eq_false, not_false_eq_true, true_imp_iff, false_imp_iff, Int.reduceNe, Int.reduceEq, Int.reduceLT, Int.reduceLE, Bool.not_true, Bool.not_false, ef, et]
      rw [ecut]
      refine ⟨by omega, by decide, fun hge => ⟨⟨_, _, rfl, .inr (.inl rfl), fun n hn h => ?_⟩, hb⟩, fun hlt => ⟨⟨_, _, rfl, .inl rfl, fun n hn h => ?_⟩, hb⟩⟩
      · first | exact absurd h (hno n hn) | (have := (hx n (by omega) h).1; omega)
      · first | exact absurd h (hno n hn) | (have := (hx n (by omega) h).1; exact ⟨by rw [ewv]; omega, rfl⟩)
    · simp -dsimp (maxSteps := 4000000) only [push_cast, Nat.reduceAdd, Nat.reduceLeDiff, Nat.reduceBEq, decide_true, ne_eq, eq_self, not_true_eq_false, not_false_eq_true, true_imp_iff, false_imp_iff, Int.reduceNe, Int.reduceEq, Int.reduceLT, Int.reduceLE, Bool.not_true, Bool.not_false, ef, et]
      refine neqIfaceK (te := 97) (k := .i64) (q := .i64) rfl rfl rfl Tryd.underlying38 (by kernel_rfl) (by kernel_rfl) ?_
      have e12 : (!((1 : Int) == 1)) = false := rfl
      rw [e12]
      simp -dsimp (maxSteps := 4000000) only [push_cast, Nat.reduceAdd, Nat.reduceLeDiff, Nat.reduceBEq, decide_true, ne_eq, eq_self, not_true_eq_false, not_false_eq_true, true_imp_iff, false_imp_iff, Int.reduceNe, Int.reduceEq, Int.reduceLT, Int.reduceLE, Bool.not_true, Bool.not_false, ef, et]
      refine ⟨by omega, by decide, fun hge => ⟨⟨_, _, rfl, .inr (.inl rfl), fun n hn h => ?_⟩, hb⟩, fun hlt => ⟨⟨_, _, rfl, .inl rfl, fun n hn h => ?_⟩, hb⟩⟩
      · first | exact absurd h (hno n hn) | (have := (hx n (by omega) h).2; cases this)
      · first | exact absurd h (hno n hn) | (have := (hx n (by omega) h).2; cases this)
    · simp -dsimp (maxSteps := 4000000) only [push_cast, Nat.reduceAdd, Nat.reduceLeDiff, Nat.reduceBEq, decide_true, ne_eq, eq_self, not_true_eq_false, not_false_eq_true, true_imp_iff, false_imp_iff, Int.reduceNe, Int.reduceEq, Int.reduceLT, Int.reduceLE, Bool.not_true, Bool.not_false, ef, et]
      refine neqIfaceK (te := 97) (k := .i64) (q := .i64) rfl rfl rfl Tryd.underlying38 (by kernel_rfl) (by kernel_rfl) ?_
      have e12 : (!((2 : Int) == 1)) = true := rfl
      rw [e12]
      simp -dsimp (maxSteps := 4000000) only [push_cast, Nat.reduceAdd, Nat.reduceLeDiff, Nat.reduceBEq, decide_true, ne_eq, eq_self, not_true_eq_false, not_false_eq_true, true_imp_iff, false_imp_iff, Int.reduceNe, Int.reduceEq, Int.reduceLT, Int.reduceLE, Bool.not_true, Bool.not_false, ef, et]
      refine ⟨⟨_, _, rfl, .inr (.inr rfl), fun n hn h => ?_⟩, hb⟩
      first | exact absurd h (hno n hn) | (have := (hx n (by omega) h).2; cases this)
  · have hno := hnx (.inr (by omega))
    refine callK_of (parseUint_c r (by first | omega | exact hs) w) ?_
    rintro _ w1 ⟨⟨v, e, rfl, hv, he, hx⟩, hb⟩
    have ecut : IntKind.u64.wrap (1 * 2 ^ min (IntKind.u64.wrap (32 - 1)).toNat IntKind.u64.bits) = 2147483648 := by decide
    have ewv : IntKind.i64.wrap (v : Int) = (v : Int) := by rw [wrap_i64 (by omega)]
    rcases he with rfl | rfl | rfl
    · simp -dsimp (maxSteps := 4000000) only [push_cast, Nat.reduceAdd, Nat.reduceLeDiff, Nat.reduceBEq, decide_true, ne_eq, eq_self, not_true_eq_false, not_false_eq_true, true_imp_iff, false_imp_iff, Int.reduceNe, Int.reduceEq, Int.reduceLT, Int.reduceLE, Bool.not_true, Bool.not_false, ef, et]
      rw [ecut]
      refine ⟨by omega, by decide, fun hge => ⟨⟨_, _, rfl, .inr (.inl rfl), fun n hn h => ?_⟩, hb⟩, fun hlt => ⟨⟨_, _, rfl, .inl rfl, fun n hn h => ?_⟩, hb⟩⟩
      · first | exact absurd h (hno n hn) | (have := (hx n (by omega) h).1; omega)
      · first | exact absurd h (hno n hn) | (have := (hx n (by omega) h).1; exact ⟨by rw [ewv]; omega, rfl⟩)
    · simp -dsimp (maxSteps := 4000000) only [push_cast, Nat.reduceAdd, Nat.reduceLeDiff, Nat.reduceBEq, decide_true, ne_eq, eq_self, not_true_eq_false, not_false_eq_true, true_imp_iff, false_imp_iff, Int.reduceNe, Int.reduceEq, Int.reduceLT, Int.reduceLE, Bool.not_true, Bool.not_false, ef, et]
      refine neqIfaceK (te := 97) (k := .i64) (q := .i64) rfl rfl rfl Tryd.underlying38 (by kernel_rfl) (by kernel_rfl) ?_
      have e12 : (!((1 : Int) == 1)) = false := rfl
      rw [e12]
      simp -dsimp (maxSteps := 4000000) only [push_cast, Nat.reduceAdd, Nat.reduceLeDiff, Nat.reduceBEq, decide_true, ne_eq, eq_self, not_true_eq_false, not_false_eq_true, true_imp_iff, false_imp_iff, Int.reduceNe, Int.reduceEq, Int.reduceLT, Int.reduceLE, Bool.not_true, Bool.not_false, ef, et]
      refine ⟨by omega, by decide, fun hge => ⟨⟨_, _, rfl, .inr (.inl rfl), fun n hn h => ?_⟩, hb⟩, fun hlt => ⟨⟨_, _, rfl, .inl rfl, fun n hn h => ?_⟩, hb⟩⟩
      · first | exact absurd h (hno n hn) | (have := (hx n (by omega) h).2; cases this)
      · first | exact absurd h (hno n hn) | (have := (hx n (by omega) h).2; cases this)
    · simp -dsimp (maxSteps := 4000000) only [push_cast, Nat.reduceAdd, Nat.reduceLeDiff, Nat.reduceBEq, decide_true, ne_eq, eq_self, not_true_eq_false, not_false_eq_true, true_imp_iff, false_imp_iff, Int.reduceNe, Int.reduceEq, Int.reduceLT, Int.reduceLE, Bool.not_true, Bool.not_false, ef, et]
      refine neqIfaceK (te := 97) (k := .i64) (q := .i64) rfl rfl rfl Tryd.underlying38 (by kernel_rfl) (by kernel_rfl) ?_
      have e12 : (!((2 : Int) == 1)) = true := rfl
      rw [e12]
      simp -dsimp (maxSteps := 4000000) only [push_cast, Nat.reduceAdd, Nat.reduceLeDiff, Nat.reduceBEq, decide_true, ne_eq, eq_self, not_true_eq_false, not_false_eq_true, true_imp_iff, false_imp_iff, Int.reduceNe, Int.reduceEq, Int.reduceLT, Int.reduceLE, Bool.not_true, Bool.not_false, ef, et]
      refine ⟨⟨_, _, rfl, .inr (.inr rfl), fun n hn h => ?_⟩, hb⟩
      first | exact absurd h (hno n hn) | (have := (hx n (by omega) h).2; cases this)
  · skip
    refine callK_of (parseUint_c (c :: r) (by first | omega | exact hs) w) ?_
    rintro _ w1 ⟨⟨v, e, rfl, hv, he, hx⟩, hb⟩
    have ecut : IntKind.u64.wrap (1 * 2 ^ min (IntKind.u64.wrap (32 - 1)).toNat IntKind.u64.bits) = 2147483648 := by decide
    have ewv : IntKind.i64.wrap (v : Int) = (v : Int) := by rw [wrap_i64 (by omega)]
    rcases he with rfl | rfl | rfl
    · simp -dsimp (maxSteps := 4000000) only [push_cast, Nat.reduceAdd, Nat.reduceLeDiff, Nat.reduceBEq, decide_true, ne_eq, eq_self, not_true_eq_false, not_false_eq_true, true_imp_iff, false_imp_iff, Int.reduceNe, Int.reduceEq, Int.reduceLT, Int.reduceLE, Bool.not_true, Bool.not_false, ef, et]
      rw [ecut]
      refine ⟨by omega, by decide, fun hge => ⟨⟨_, _, rfl, .inr (.inl rfl), fun n hn h => ?_⟩, hb⟩, fun hlt => ⟨⟨_, _, rfl, .inl rfl, fun n hn h => ?_⟩, hb⟩⟩
      · first | exact absurd h (hno n hn) | (have := (hx n (by omega) h).1; omega)
      · first | exact absurd h (hno n hn) | (have := (hx n (by omega) h).1; exact ⟨by rw [ewv]; omega, rfl⟩)
    · simp -dsimp (maxSteps := 4000000) only [push_cast, Nat.reduceAdd, Nat.reduceLeDiff, Nat.reduceBEq, decide_true, ne_eq, eq_self, not_true_eq_false, not_false_eq_true, true_imp_iff, false_imp_iff, Int.reduceNe, Int.reduceEq, Int.reduceLT, Int.reduceLE, Bool.not_true, Bool.not_false, ef, et]
      refine neqIfaceK (te := 97) (k := .i64) (q := .i64) rfl rfl rfl Tryd.underlying38 (by kernel_rfl) (by kernel_rfl) ?_
      have e12 : (!((1 : Int) == 1)) = false := rfl
      rw [e12]
      simp -dsimp (maxSteps := 4000000) only [push_cast, Nat.reduceAdd, Nat.reduceLeDiff, Nat.reduceBEq, decide_true, ne_eq, eq_self, not_true_eq_false, not_false_eq_true, true_imp_iff, false_imp_iff, Int.reduceNe, Int.reduceEq, Int.reduceLT, Int.reduceLE, Bool.not_true, Bool.not_false, ef, et]
      refine ⟨by omega, by decide, fun hge => ⟨⟨_, _, rfl, .inr (.inl rfl), fun n hn h => ?_⟩, hb⟩, fun hlt => ⟨⟨_, _, rfl, .inl rfl, fun n hn h => ?_⟩, hb⟩⟩
      · first | exact absurd h (hno n hn) | (have := (hx n (by omega) h).2; cases this)
      · first | exact absurd h (hno n hn) | (have := (hx n (by omega) h).2; cases this)
    · simp -dsimp (maxSteps := 4000000) only [push_cast, Nat.reduceAdd, Nat.reduceLeDiff, Nat.reduceBEq, decide_true, ne_eq, eq_self, not_true_eq_false, not_false_eq_true, true_imp_iff, false_imp_iff, Int.reduceNe, Int.reduceEq, Int.reduceLT, Int.reduceLE, Bool.not_true, Bool.not_false, ef, et]
      refine neqIfaceK (te := 97) (k := .i64) (q := .i64) rfl rfl rfl Tryd.underlying38 (by kernel_rfl) (by kernel_rfl) ?_
      have e12 : (!((2 : Int) == 1)) = true := rfl
      rw [e12]
      simp -dsimp (maxSteps := 4000000) only [push_cast, Nat.reduceAdd, Nat.reduceLeDiff, Nat.reduceBEq, decide_true, ne_eq, eq_self, not_true_eq_false, not_false_eq_true, true_imp_iff, false_imp_iff, Int.reduceNe, Int.reduceEq, Int.reduceLT, Int.reduceLE, Bool.not_true, Bool.not_false, ef, et]
      refine ⟨⟨_, _, rfl, .inr (.inr rfl), fun n hn h => ?_⟩, hb⟩
      first | exact absurd h (hno n hn) | (have := (hx n (by omega) h).2; cases this)
theorem parseInt_c (s : List UInt8) (hs : s.length ≤ 1000000000) (w : World) (h : Errs w) : Fun Tryd.prog 32 [str s, .int .i64 16, .int .i64 32] w fun r w' => (∃ (v : Int) (e : Value), r = .tuple #[.int .i64 v, e] ∧ (e = .nilIface ∨ ∃ t x, e = .iface t x) ∧ (∀ n < 2147483648, s = hexP n → v = n ∧ e = .nilIface)) ∧ Below w.heap.size w w' := by
  refine fun_of_vc Tryd.func32 rfl (by kernel_rfl) [6, 7] rfl ?_
  simp -dsimp (maxSteps := 4000000) only [push_cast, fr0, Tryd.ntmps32, List.length_cons, List.length_nil, Nat.reduceAdd, Nat.reduceSub, Nat.reduceBEq, List.replicate_succ, List.replicate_zero]
  refine callK_of (parseInt_l s hs w) ?_
  rintro _ w1 ⟨⟨v, e, rfl, he, hx⟩, hb⟩
  rcases he with rfl | rfl | rfl
  · simp -dsimp (maxSteps := 4000000) only [push_cast, Nat.reduceAdd, Nat.reduceLeDiff, Nat.reduceBEq, decide_true, ne_eq, eq_self, not_true_eq_false, not_false_eq_true, true_imp_iff, false_imp_iff, Int.reduceNe, Int.reduceEq, Int.reduceLT, Int.reduceLE, Bool.not_true, Bool.not_false, ]
    exact ⟨⟨_, _, rfl, .inl rfl, hx⟩, hb⟩
  · simp -dsimp (maxSteps := 4000000) only [push_cast, Nat.reduceAdd, Nat.reduceLeDiff, Nat.reduceBEq, decide_true, ne_eq, eq_self, not_true_eq_false, not_false_eq_true, true_imp_iff, false_imp_iff, Int.reduceNe, Int.reduceEq, Int.reduceLT, Int.reduceLE, Bool.not_true, Bool.not_false, ]
    refine callK_of (toErr_c [80, 97, 114, 115, 101, 73, 110, 116] s 16 32 1 (.inl rfl) hs w1 (h.below hb)) ?_
    rintro _ w2 ⟨⟨t, p, rfl⟩, hb2⟩
    simp -dsimp (maxSteps := 4000000) only [push_cast, Nat.reduceAdd, Nat.reduceLeDiff, Nat.reduceBEq, decide_true, ne_eq, eq_self, not_true_eq_false, not_false_eq_true, true_imp_iff, false_imp_iff, Int.reduceNe, Int.reduceEq, Int.reduceLT, Int.reduceLE, Bool.not_true, Bool.not_false, ]
    exact ⟨⟨_, _, rfl, .inr ⟨_, _, rfl⟩, fun n hn hh => by have := (hx n hn hh).2; cases this⟩, hb.trans (hb2.mono hb.size)⟩
  · simp -dsimp (maxSteps := 4000000) only [push_cast, Nat.reduceAdd, Nat.reduceLeDiff, Nat.reduceBEq, decide_true, ne_eq, eq_self, not_true_eq_false, not_false_eq_true, true_imp_iff, false_imp_iff, Int.reduceNe, Int.reduceEq, Int.reduceLT, Int.reduceLE, Bool.not_true, Bool.not_false, ]
    refine callK_of (toErr_c [80, 97, 114, 115, 101, 73, 110, 116] s 16 32 2 (.inr rfl) hs w1 (h.below hb)) ?_
    rintro _ w2 ⟨⟨t, p, rfl⟩, hb2⟩
    simp -dsimp (maxSteps := 4000000) only [push_cast, Nat.reduceAdd, Nat.reduceLeDiff, Nat.reduceBEq, decide_true, ne_eq, eq_self, not_true_eq_false, not_false_eq_true, true_imp_iff, false_imp_iff, Int.reduceNe, Int.reduceEq, Int.reduceLT, Int.reduceLE, Bool.not_true, Bool.not_false, ]
    exact ⟨⟨_, _, rfl, .inr ⟨_, _, rfl⟩, fun n hn hh => by have := (hx n hn hh).2; cases this⟩, hb.trans (hb2.mono hb.size)⟩
end Go.Proofs.YthmkbjmkpdjgjaaDoor
