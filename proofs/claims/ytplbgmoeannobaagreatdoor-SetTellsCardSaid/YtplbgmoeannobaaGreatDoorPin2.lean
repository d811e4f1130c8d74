import Derived.Test.YtplbgmoeannobaaGreatDoorPint
import Derived.Test.YtplbgmoeannobaaGreatDoorSo0
import Derived.Shelf.Strconv.ToErrorRange
import Derived.Shelf.Strconv.ToError
namespace Cae
theorem hexP_head {n : Nat} (hn : n < 4294967296) : ∃ b r, hexP n = b :: r ∧ isHex b = true := by
  cases h : hexP n with
  | nil => exact absurd h (hexP_ne n)
  | cons b r => exact ⟨b, r, rfl, hexP_all hn b (by rw [h]; simp)⟩
end Cae
namespace Go.Proofs.YtplbgmoeannobaaGreatDoor
open Go.Vc Go.Proofs Go.RowKit Cae
set_option maxRecDepth 100000
set_option linter.unusedSimpArgs false
set_option linter.unusedVariables false
attribute [local irreducible] wpL callK valK unitK runK Fun Sl Own vc vcOps opK pureK
set_option maxHeartbeats 8000000

/-- The two variables that hold errors. -/
def SErrs (w : World) : Prop := (∃ t p, w.cell? ⟨2, 0, none⟩ = some (.iface t p)) ∧ (∃ t p, w.cell? ⟨3, 0, none⟩ = some (.iface t p))
theorem SErrs.below {w w' : World} (h : SErrs w) (hb : Below w.heap.size w w') : SErrs w' := by
  obtain ⟨⟨t, p, h1⟩, ⟨t', p', h2⟩⟩ := h
  exact ⟨⟨t, p, (hb.cell (World.block_lt_of_cell? w _ h1)).trans h1⟩, ⟨t', p', (hb.cell (World.block_lt_of_cell? w _ h2)).trans h2⟩⟩
def toErrR_ren : Go.Shelf.Ren := ⟨fun | 245 => 67 | 279 => 97 | 280 => 98 | 281 => 99 | 282 => 100 | 316 => 127 | 171 => 129 | 205 => 128 | 243 => 153 | 246 => 76 | 283 => 108 | 284 => 109 | 285 => 110 | 286 => 111 | 129 => 87 | 317 => 137 | 318 => 138 | 319 => 139 | 320 => 140 | 337 => 160 | 338 => 161 | n => n, fun | 9 => 9 | 3 => 3 | 75 => 35 | 167 => 127 | 4 => 4 | 168 => 130 | 210 => 171 | 37 => 98 | 0 => 0 | 127 => 142 | 145 => 198 | 143 => 196 | 2 => 2 | 171 => 143 | 53 => 115 | 5 => 5 | 173 => 145 | 212 => 180 | 51 => 113 | 20 => 20 | 213 => 181 | 46 => 79 | 232 => 227 | 233 => 228 | 80 => 104 | n => n, fun | 15 => 2 | 16 => 3 | 17 => 5 | 18 => 9 | 19 => 10 | n => n⟩
theorem toErrR : Go.Proofs.LaysC.n245 Tryz.prog toErrR_ren := {
  mixed := by kernel_rfl
  f129 := Tryz.func87.trans (congrArg some (by kernel_rfl))
  f171 := Tryz.func129.trans (congrArg some (by kernel_rfl))
  f205 := Tryz.func128.trans (congrArg some (by kernel_rfl))
  f243 := Tryz.func153.trans (congrArg some (by kernel_rfl))
  f245 := Tryz.func67.trans (congrArg some (by kernel_rfl))
  f246 := Tryz.func76.trans (congrArg some (by kernel_rfl))
  f279 := Tryz.func97.trans (congrArg some (by kernel_rfl))
  f280 := Tryz.func98.trans (congrArg some (by kernel_rfl))
  f281 := Tryz.func99.trans (congrArg some (by kernel_rfl))
  f282 := Tryz.func100.trans (congrArg some (by kernel_rfl))
  f283 := Tryz.func108.trans (congrArg some (by kernel_rfl))
  f284 := Tryz.func109.trans (congrArg some (by kernel_rfl))
  f285 := Tryz.func110.trans (congrArg some (by kernel_rfl))
  f286 := Tryz.func111.trans (congrArg some (by kernel_rfl))
  f316 := Tryz.func127.trans (congrArg some (by kernel_rfl))
  f317 := Tryz.func137.trans (congrArg some (by kernel_rfl))
  f318 := Tryz.func138.trans (congrArg some (by kernel_rfl))
  f319 := Tryz.func139.trans (congrArg some (by kernel_rfl))
  f320 := Tryz.func140.trans (congrArg some (by kernel_rfl))
  f337 := Tryz.func160.trans (congrArg some (by kernel_rfl))
  f338 := Tryz.func161.trans (congrArg some (by kernel_rfl))
  t0 := Tryz.underlying0
  a0 := Tryz.isAgg0
  z0 := Tryz.sizeOf0
  v0 := Tryz.zeroValue0
  t2 := Tryz.underlying2
  a2 := Tryz.isAgg2
  z2 := Tryz.sizeOf2
  v2 := Tryz.zeroValue2
  t3 := Tryz.underlying3
  a3 := Tryz.isAgg3
  z3 := Tryz.sizeOf3
  v3 := Tryz.zeroValue3
  t4 := Tryz.underlying4
  a4 := Tryz.isAgg4
  z4 := Tryz.sizeOf4
  v4 := Tryz.zeroValue4
  t5 := Tryz.underlying5
  a5 := Tryz.isAgg5
  z5 := Tryz.sizeOf5
  v5 := Tryz.zeroValue5
  t9 := Tryz.underlying9
  a9 := Tryz.isAgg9
  z9 := Tryz.sizeOf9
  v9 := Tryz.zeroValue9
  t20 := Tryz.underlying20
  a20 := Tryz.isAgg20
  z20 := Tryz.sizeOf20
  v20 := Tryz.zeroValue20
  t37 := Tryz.underlying98
  a37 := Tryz.isAgg98
  z37 := Tryz.sizeOf98
  v37 := Tryz.zeroValue98
  t46 := Tryz.underlying79
  a46 := Tryz.isAgg79
  z46 := Tryz.sizeOf79
  v46 := Tryz.zeroValue79
  t51 := Tryz.underlying113
  a51 := Tryz.isAgg113
  z51 := Tryz.sizeOf113
  v51 := Tryz.zeroValue113
  t53 := Tryz.underlying115
  a53 := Tryz.isAgg115
  z53 := Tryz.sizeOf115
  v53 := Tryz.zeroValue115
  t75 := Tryz.underlying35
  a75 := Tryz.isAgg35
  z75 := Tryz.sizeOf35
  v75 := Tryz.zeroValue35
  t127 := Tryz.underlying142
  a127 := Tryz.isAgg142
  z127 := Tryz.sizeOf142
  v127 := Tryz.zeroValue142
  t143 := Tryz.underlying196
  a143 := Tryz.isAgg196
  z143 := Tryz.sizeOf196
  v143 := Tryz.zeroValue196
  t145 := Tryz.underlying198
  a145 := Tryz.isAgg198
  z145 := Tryz.sizeOf198
  v145 := Tryz.zeroValue198
  t167 := Tryz.underlying127
  a167 := Tryz.isAgg127
  z167 := Tryz.sizeOf127
  v167 := Tryz.zeroValue127
  t168 := Tryz.underlying130
  a168 := Tryz.isAgg130
  z168 := Tryz.sizeOf130
  v168 := Tryz.zeroValue130
  t171 := Tryz.underlying143
  a171 := Tryz.isAgg143
  z171 := Tryz.sizeOf143
  v171 := Tryz.zeroValue143
  t173 := Tryz.underlying145
  a173 := Tryz.isAgg145
  z173 := Tryz.sizeOf145
  v173 := Tryz.zeroValue145
  t210 := Tryz.underlying171
  a210 := Tryz.isAgg171
  z210 := Tryz.sizeOf171
  v210 := Tryz.zeroValue171
  t212 := Tryz.underlying180
  a212 := Tryz.isAgg180
  z212 := Tryz.sizeOf180
  v212 := Tryz.zeroValue180
  t213 := Tryz.underlying181
  a213 := Tryz.isAgg181
  z213 := Tryz.sizeOf181
  t232 := Tryz.underlying227
  a232 := Tryz.isAgg227
  z232 := Tryz.sizeOf227
  v232 := Tryz.zeroValue227
  t233 := Tryz.underlying228
  a233 := Tryz.isAgg228
  z233 := Tryz.sizeOf228
  v233 := Tryz.zeroValue228
  g15 := by kernel_rfl
  g16 := by kernel_rfl
  g17 := by kernel_rfl
  g18 := by kernel_rfl
  g19 := by kernel_rfl
  t80 := Tryz.underlying104
  a80 := Tryz.isAgg104
  z80 := Tryz.sizeOf104
  v80 := Tryz.zeroValue104
  i0 := by kernel_rfl
  i2 := by kernel_rfl
  i3 := by kernel_rfl
  i4 := by kernel_rfl
  i5 := by kernel_rfl
  i9 := by kernel_rfl
  i20 := by kernel_rfl
  i37 := by kernel_rfl
  i46 := by kernel_rfl
  i51 := by kernel_rfl
  i53 := by kernel_rfl
  i75 := by kernel_rfl
  i80 := by kernel_rfl
  i127 := by kernel_rfl
  i143 := by kernel_rfl
  i145 := by kernel_rfl
  i167 := by kernel_rfl
  i168 := by kernel_rfl
  i171 := by kernel_rfl
  i173 := by kernel_rfl
  i210 := by kernel_rfl
  i212 := by kernel_rfl
  i232 := by kernel_rfl
  i233 := by kernel_rfl
  m15 := by kernel_rfl
  m16 := by kernel_rfl
  m17 := by kernel_rfl
  m18 := by kernel_rfl
  m19 := by kernel_rfl
  c0 := by kernel_rfl
  c2 := by kernel_rfl
  c3 := by kernel_rfl
  c4 := by kernel_rfl
  c5 := by kernel_rfl
  c9 := by kernel_rfl
  c20 := by kernel_rfl
  c37 := by kernel_rfl
  c46 := by kernel_rfl
  c51 := by kernel_rfl
  c53 := by kernel_rfl
  c75 := by kernel_rfl
  c80 := by kernel_rfl
  c127 := by kernel_rfl
  c143 := by kernel_rfl
  c145 := by kernel_rfl
  c167 := by kernel_rfl
  c168 := by kernel_rfl
  c171 := by kernel_rfl
  c173 := by kernel_rfl
  c210 := by kernel_rfl
  c212 := by kernel_rfl
  c213 := by kernel_rfl
  c232 := by kernel_rfl
  c233 := by kernel_rfl }

theorem toErr_c (f s : List UInt8) (base bits : Int) (k : Int) (hk : k = 1 ∨ k = 2) (hs : s.length ≤ 1000000000) (w : World) (h : SErrs w) : Fun Tryz.prog 67 [str f, str s, .int .i64 base, .int .i64 bits, .iface 127 (.int .i64 k)] w fun r w' => (∃ t p, r = .iface t p) ∧ Below w.heap.size w w' := by
  obtain ⟨⟨t1, p1, h1⟩, ⟨t2, p2, h2⟩⟩ := h
  refine fun_of_calls Tryz.func67 (by kernel_rfl) (by kernel_rfl) ?_
  rcases hk with rfl | rfl
  · refine Calls.mono (Any.strconv_toError_range toErrR ⟨f.toArray⟩ ⟨s.toArray⟩ base bits _ w (by show s.length ≤ _; omega) h2 (.inr ⟨_, _, rfl⟩)) ?_
    rintro e w' ⟨N, rfl, _, _, hb⟩
    exact ⟨_, rfl, ⟨_, _, rfl⟩, hb⟩
  · refine Calls.mono (Any.strconv_toError_syntax toErrR ⟨f.toArray⟩ ⟨s.toArray⟩ base bits _ w (by show s.length ≤ _; omega) h1 (.inr ⟨_, _, rfl⟩)) ?_
    rintro e w' ⟨N, rfl, _, _, hb⟩
    exact ⟨_, rfl, ⟨_, _, rfl⟩, hb⟩
theorem parseInt_l (bits : Int) (hbits : bits = 32 ∨ bits = 40) (s : List UInt8) (hs : s.length ≤ 1000000000) (w : World) : Fun Tryz.prog 66 [str s, .int .i64 16, .int .i64 bits] w fun r w' => (∃ (v : Int) (e : Value), r = .tuple #[.int .i64 v, e] ∧ PErr e ∧ (∀ n < 2147483648, s = hexP n → v = n ∧ e = .nilIface)) ∧ Below w.heap.size w w' := by
  refine fun_of_vc Tryz.func66 rfl (by kernel_rfl) [6, 7] rfl ?_
  push_cast -dsimp (maxSteps := 4000000) [Tryz.ntmps66]
  by_cases hne : s = []
  · subst hne
    have e0 : decide (([] : List UInt8) = []) = true := rfl
    simp -dsimp (maxSteps := 4000000) only [push_cast, Nat.reduceAdd, Nat.reduceLeDiff, Nat.reduceBEq, Int.reduceNe, Int.reduceEq, Int.reduceLT, Int.reduceLE, e0]
    refine ⟨⟨0, _, rfl, .inr (.inr rfl), fun n _ h => absurd h.symm (hexP_ne n)⟩, Below.refl _ _⟩
  have hgc : ∃ c r, s = c :: r := List.exists_cons_of_ne_nil hne
  obtain ⟨c, r, rfl⟩ := hgc
  have e0 : decide (c :: r = []) = false := decide_eq_false hne
  have eh : (c :: r).getD 0 0 = c := rfl
  have hsz : (c :: r).length = r.length + 1 := rfl
  have hgb : ∃ b, c.toNat = b := ⟨_, rfl⟩
  obtain ⟨b, hb0⟩ := hgb
  have hnx : (b = 43 ∨ b = 45) → ∀ n < 2147483648, c :: r ≠ hexP n := fun h n hn hh => by
    obtain ⟨b', r', h1, h2⟩ := hexP_head (n := n) (by omega)
    rw [h1] at hh
    cases hh
    unfold isHex at h2
    rw [hb0, Bool.or_eq_true, Bool.and_eq_true, Bool.and_eq_true, decide_eq_true_eq, decide_eq_true_eq, decide_eq_true_eq, decide_eq_true_eq] at h2
    omega
  have ef : decide False = false := rfl
  have et : decide True = true := rfl
  have ed1 : (c :: r).drop (Int.toNat 1) = r := rfl
  simp -dsimp (maxSteps := 4000000) only [push_cast, Nat.reduceAdd, Nat.reduceLeDiff, Nat.reduceBEq, Int.reduceNe, Int.reduceEq, Int.reduceLT, Int.reduceLE, eh, hb0, ef, et, ed1]
  refine ⟨fun h => absurd h hne, fun _ => ⟨by omega, fun h43 => ⟨by omega, ?_⟩, fun n43 => ⟨fun h45 => ⟨by omega, ?_⟩, fun n45 => ?_⟩⟩⟩
  · have hno := hnx (.inl (by omega))
    refine callK_of (parseUint_c bits hbits r (by first | omega | exact hs) w) ?_
    rintro _ w1 ⟨⟨v, e, rfl, hv, he, hx⟩, hb⟩
    have ecut : ∃ ct : Nat, IntKind.u64.wrap (1 * 2 ^ min (IntKind.u64.wrap (bits - 1)).toNat IntKind.u64.bits) = (ct : Int) ∧ 2147483648 ≤ ct ∧ ct < 1099511627776 := by
      rcases hbits with rfl | rfl
      · exact ⟨2147483648, by decide, by omega, by omega⟩
      · exact ⟨549755813888, by decide, by omega, by omega⟩
    obtain ⟨ct, ecut, hct1, hct2⟩ := ecut
    have ewv : IntKind.i64.wrap (v : Int) = (v : Int) := by rw [wrap_i64 (by omega)]
    rcases he with rfl | rfl | rfl
    · simp -dsimp (maxSteps := 4000000) only [push_cast, Nat.reduceAdd, Nat.reduceLeDiff, Nat.reduceBEq, Int.reduceNe, Int.reduceEq, Int.reduceLT, Int.reduceLE, ef, et]
      rw [ecut]
      refine ⟨fun h => by omega, fun _ => ⟨by omega, by rcases hbits with rfl | rfl <;> decide, fun hge => ⟨⟨_, _, rfl, .inr (.inl rfl), fun n hn h => ?_⟩, hb⟩, fun hlt => ⟨⟨_, _, rfl, .inl rfl, fun n hn h => ?_⟩, hb⟩⟩⟩
      · first | exact absurd h (hno n hn) | (have := (hx n (by omega) h).1; omega)
      · first | exact absurd h (hno n hn) | (have := (hx n (by omega) h).1; exact ⟨by rw [ewv]; omega, rfl⟩)
    · simp -dsimp (maxSteps := 4000000) only [push_cast, Nat.reduceAdd, Nat.reduceLeDiff, Nat.reduceBEq, Int.reduceNe, Int.reduceEq, Int.reduceLT, Int.reduceLE, ef, et]
      refine neqIfaceK (te := 127) (k := .i64) (q := .i64) rfl rfl rfl Tryz.underlying35 (by kernel_rfl) (by kernel_rfl) ?_
      have e12 : (!((1 : Int) == 1)) = false := rfl
      rw [e12]
      simp -dsimp (maxSteps := 4000000) only [push_cast, Nat.reduceAdd, Nat.reduceLeDiff, Nat.reduceBEq, Int.reduceNe, Int.reduceEq, Int.reduceLT, Int.reduceLE, ef, et]
      refine ⟨fun h => by omega, fun _ => ⟨by omega, by rcases hbits with rfl | rfl <;> decide, fun hge => ⟨⟨_, _, rfl, .inr (.inl rfl), fun n hn h => ?_⟩, hb⟩, fun hlt => ⟨⟨_, _, rfl, .inl rfl, fun n hn h => ?_⟩, hb⟩⟩⟩
      · first | exact absurd h (hno n hn) | (have := (hx n (by omega) h).2; cases this)
      · first | exact absurd h (hno n hn) | (have := (hx n (by omega) h).2; cases this)
    · simp -dsimp (maxSteps := 4000000) only [push_cast, Nat.reduceAdd, Nat.reduceLeDiff, Nat.reduceBEq, Int.reduceNe, Int.reduceEq, Int.reduceLT, Int.reduceLE, ef, et]
      refine neqIfaceK (te := 127) (k := .i64) (q := .i64) rfl rfl rfl Tryz.underlying35 (by kernel_rfl) (by kernel_rfl) ?_
      have e12 : (!((2 : Int) == 1)) = true := rfl
      rw [e12]
      simp -dsimp (maxSteps := 4000000) only [push_cast, Nat.reduceAdd, Nat.reduceLeDiff, Nat.reduceBEq, Int.reduceNe, Int.reduceEq, Int.reduceLT, Int.reduceLE, ef, et]
      refine ⟨⟨_, _, rfl, .inr (.inr rfl), fun n hn h => ?_⟩, hb⟩
      first | exact absurd h (hno n hn) | (have := (hx n (by omega) h).2; cases this)
  · have hno := hnx (.inr (by omega))
    refine callK_of (parseUint_c bits hbits r (by first | omega | exact hs) w) ?_
    rintro _ w1 ⟨⟨v, e, rfl, hv, he, hx⟩, hb⟩
    have ecut : ∃ ct : Nat, IntKind.u64.wrap (1 * 2 ^ min (IntKind.u64.wrap (bits - 1)).toNat IntKind.u64.bits) = (ct : Int) ∧ 2147483648 ≤ ct ∧ ct < 1099511627776 := by
      rcases hbits with rfl | rfl
      · exact ⟨2147483648, by decide, by omega, by omega⟩
      · exact ⟨549755813888, by decide, by omega, by omega⟩
    obtain ⟨ct, ecut, hct1, hct2⟩ := ecut
    have ewv : IntKind.i64.wrap (v : Int) = (v : Int) := by rw [wrap_i64 (by omega)]
    rcases he with rfl | rfl | rfl
    · simp -dsimp (maxSteps := 4000000) only [push_cast, Nat.reduceAdd, Nat.reduceLeDiff, Nat.reduceBEq, Int.reduceNe, Int.reduceEq, Int.reduceLT, Int.reduceLE, ef, et]
      rw [ecut]
      refine ⟨fun h => by omega, fun _ => ⟨by omega, by rcases hbits with rfl | rfl <;> decide, fun hge => ⟨⟨_, _, rfl, .inr (.inl rfl), fun n hn h => ?_⟩, hb⟩, fun hlt => ⟨⟨_, _, rfl, .inl rfl, fun n hn h => ?_⟩, hb⟩⟩⟩
      · first | exact absurd h (hno n hn) | (have := (hx n (by omega) h).1; omega)
      · first | exact absurd h (hno n hn) | (have := (hx n (by omega) h).1; exact ⟨by rw [ewv]; omega, rfl⟩)
    · simp -dsimp (maxSteps := 4000000) only [push_cast, Nat.reduceAdd, Nat.reduceLeDiff, Nat.reduceBEq, Int.reduceNe, Int.reduceEq, Int.reduceLT, Int.reduceLE, ef, et]
      refine neqIfaceK (te := 127) (k := .i64) (q := .i64) rfl rfl rfl Tryz.underlying35 (by kernel_rfl) (by kernel_rfl) ?_
      have e12 : (!((1 : Int) == 1)) = false := rfl
      rw [e12]
      simp -dsimp (maxSteps := 4000000) only [push_cast, Nat.reduceAdd, Nat.reduceLeDiff, Nat.reduceBEq, Int.reduceNe, Int.reduceEq, Int.reduceLT, Int.reduceLE, ef, et]
      refine ⟨fun h => by omega, fun _ => ⟨by omega, by rcases hbits with rfl | rfl <;> decide, fun hge => ⟨⟨_, _, rfl, .inr (.inl rfl), fun n hn h => ?_⟩, hb⟩, fun hlt => ⟨⟨_, _, rfl, .inl rfl, fun n hn h => ?_⟩, hb⟩⟩⟩
      · first | exact absurd h (hno n hn) | (have := (hx n (by omega) h).2; cases this)
      · first | exact absurd h (hno n hn) | (have := (hx n (by omega) h).2; cases this)
    · simp -dsimp (maxSteps := 4000000) only [push_cast, Nat.reduceAdd, Nat.reduceLeDiff, Nat.reduceBEq, Int.reduceNe, Int.reduceEq, Int.reduceLT, Int.reduceLE, ef, et]
      refine neqIfaceK (te := 127) (k := .i64) (q := .i64) rfl rfl rfl Tryz.underlying35 (by kernel_rfl) (by kernel_rfl) ?_
      have e12 : (!((2 : Int) == 1)) = true := rfl
      rw [e12]
      simp -dsimp (maxSteps := 4000000) only [push_cast, Nat.reduceAdd, Nat.reduceLeDiff, Nat.reduceBEq, Int.reduceNe, Int.reduceEq, Int.reduceLT, Int.reduceLE, ef, et]
      refine ⟨⟨_, _, rfl, .inr (.inr rfl), fun n hn h => ?_⟩, hb⟩
      first | exact absurd h (hno n hn) | (have := (hx n (by omega) h).2; cases this)
  · skip
    refine callK_of (parseUint_c bits hbits (c :: r) (by first | omega | exact hs) w) ?_
    rintro _ w1 ⟨⟨v, e, rfl, hv, he, hx⟩, hb⟩
    have ecut : ∃ ct : Nat, IntKind.u64.wrap (1 * 2 ^ min (IntKind.u64.wrap (bits - 1)).toNat IntKind.u64.bits) = (ct : Int) ∧ 2147483648 ≤ ct ∧ ct < 1099511627776 := by
      rcases hbits with rfl | rfl
      · exact ⟨2147483648, by decide, by omega, by omega⟩
      · exact ⟨549755813888, by decide, by omega, by omega⟩
    obtain ⟨ct, ecut, hct1, hct2⟩ := ecut
    have ewv : IntKind.i64.wrap (v : Int) = (v : Int) := by rw [wrap_i64 (by omega)]
    rcases he with rfl | rfl | rfl
    · simp -dsimp (maxSteps := 4000000) only [push_cast, Nat.reduceAdd, Nat.reduceLeDiff, Nat.reduceBEq, Int.reduceNe, Int.reduceEq, Int.reduceLT, Int.reduceLE, ef, et]
      rw [ecut]
      refine ⟨fun h => by omega, fun _ => ⟨by omega, by rcases hbits with rfl | rfl <;> decide, fun hge => ⟨⟨_, _, rfl, .inr (.inl rfl), fun n hn h => ?_⟩, hb⟩, fun hlt => ⟨⟨_, _, rfl, .inl rfl, fun n hn h => ?_⟩, hb⟩⟩⟩
      · first | exact absurd h (hno n hn) | (have := (hx n (by omega) h).1; omega)
      · first | exact absurd h (hno n hn) | (have := (hx n (by omega) h).1; exact ⟨by rw [ewv]; omega, rfl⟩)
    · simp -dsimp (maxSteps := 4000000) only [push_cast, Nat.reduceAdd, Nat.reduceLeDiff, Nat.reduceBEq, Int.reduceNe, Int.reduceEq, Int.reduceLT, Int.reduceLE, ef, et]
      refine neqIfaceK (te := 127) (k := .i64) (q := .i64) rfl rfl rfl Tryz.underlying35 (by kernel_rfl) (by kernel_rfl) ?_
      have e12 : (!((1 : Int) == 1)) = false := rfl
      rw [e12]
      simp -dsimp (maxSteps := 4000000) only [push_cast, Nat.reduceAdd, Nat.reduceLeDiff, Nat.reduceBEq, Int.reduceNe, Int.reduceEq, Int.reduceLT, Int.reduceLE, ef, et]
      refine ⟨fun h => by omega, fun _ => ⟨by omega, by rcases hbits with rfl | rfl <;> decide, fun hge => ⟨⟨_, _, rfl, .inr (.inl rfl), fun n hn h => ?_⟩, hb⟩, fun hlt => ⟨⟨_, _, rfl, .inl rfl, fun n hn h => ?_⟩, hb⟩⟩⟩
      · first | exact absurd h (hno n hn) | (have := (hx n (by omega) h).2; cases this)
      · first | exact absurd h (hno n hn) | (have := (hx n (by omega) h).2; cases this)
    · simp -dsimp (maxSteps := 4000000) only [push_cast, Nat.reduceAdd, Nat.reduceLeDiff, Nat.reduceBEq, Int.reduceNe, Int.reduceEq, Int.reduceLT, Int.reduceLE, ef, et]
      refine neqIfaceK (te := 127) (k := .i64) (q := .i64) rfl rfl rfl Tryz.underlying35 (by kernel_rfl) (by kernel_rfl) ?_
      have e12 : (!((2 : Int) == 1)) = true := rfl
      rw [e12]
      simp -dsimp (maxSteps := 4000000) only [push_cast, Nat.reduceAdd, Nat.reduceLeDiff, Nat.reduceBEq, Int.reduceNe, Int.reduceEq, Int.reduceLT, Int.reduceLE, ef, et]
      refine ⟨⟨_, _, rfl, .inr (.inr rfl), fun n hn h => ?_⟩, hb⟩
      first | exact absurd h (hno n hn) | (have := (hx n (by omega) h).2; cases this)
theorem parseInt_c (bits : Int) (hbits : bits = 32 ∨ bits = 40) (s : List UInt8) (hs : s.length ≤ 1000000000) (w : World) (h : SErrs w) : Fun Tryz.prog 41 [str s, .int .i64 16, .int .i64 bits] w fun r w' => (∃ (v : Int) (e : Value), r = .tuple #[.int .i64 v, e] ∧ (e = .nilIface ∨ ∃ t x, e = .iface t x) ∧ (∀ n < 2147483648, s = hexP n → v = n ∧ e = .nilIface)) ∧ Below w.heap.size w w' := by
  refine fun_of_vc Tryz.func41 rfl (by kernel_rfl) [6, 7] rfl ?_
  push_cast -dsimp (maxSteps := 4000000) [Tryz.ntmps41]
  refine callK_of (parseInt_l bits hbits s hs w) ?_
  rintro _ w1 ⟨⟨v, e, rfl, he, hx⟩, hb⟩
  rcases he with rfl | rfl | rfl
  · simp -dsimp (maxSteps := 4000000) only [push_cast, Nat.reduceAdd, Nat.reduceLeDiff, Nat.reduceBEq, Int.reduceNe, Int.reduceEq, Int.reduceLT, Int.reduceLE, ]
    exact ⟨⟨_, _, rfl, .inl rfl, hx⟩, hb⟩
  · simp -dsimp (maxSteps := 4000000) only [push_cast, Nat.reduceAdd, Nat.reduceLeDiff, Nat.reduceBEq, Int.reduceNe, Int.reduceEq, Int.reduceLT, Int.reduceLE, ]
    refine callK_of (toErr_c [80, 97, 114, 115, 101, 73, 110, 116] s 16 bits 1 (.inl rfl) hs w1 (h.below hb)) ?_
    rintro _ w2 ⟨⟨t, p, rfl⟩, hb2⟩
    simp -dsimp (maxSteps := 4000000) only [push_cast, Nat.reduceAdd, Nat.reduceLeDiff, Nat.reduceBEq, Int.reduceNe, Int.reduceEq, Int.reduceLT, Int.reduceLE, ]
    exact ⟨⟨_, _, rfl, .inr ⟨_, _, rfl⟩, fun n hn hh => by have := (hx n hn hh).2; cases this⟩, hb.trans (hb2.mono hb.size)⟩
  · simp -dsimp (maxSteps := 4000000) only [push_cast, Nat.reduceAdd, Nat.reduceLeDiff, Nat.reduceBEq, Int.reduceNe, Int.reduceEq, Int.reduceLT, Int.reduceLE, ]
    refine callK_of (toErr_c [80, 97, 114, 115, 101, 73, 110, 116] s 16 bits 2 (.inr rfl) hs w1 (h.below hb)) ?_
    rintro _ w2 ⟨⟨t, p, rfl⟩, hb2⟩
    simp -dsimp (maxSteps := 4000000) only [push_cast, Nat.reduceAdd, Nat.reduceLeDiff, Nat.reduceBEq, Int.reduceNe, Int.reduceEq, Int.reduceLT, Int.reduceLE, ]
    exact ⟨⟨_, _, rfl, .inr ⟨_, _, rfl⟩, fun n hn hh => by have := (hx n hn hh).2; cases this⟩, hb.trans (hb2.mono hb.size)⟩
end Go.Proofs.YtplbgmoeannobaaGreatDoor
