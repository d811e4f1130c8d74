import Derived.Test.YtieaebjkbhaoaaaGreatDoorRp3
import Derived.Shelf.Strconv.AtoiAll
namespace Cae
/-! Numbers as strconv.Atoi reads them: of digits alone. -/
theorem fold_le (l : List UInt8) : ∀ a : Nat, a ≤ l.foldl (fun m b => 10 * m + (b.toNat - 48)) a := by
  induction l with
  | nil => exact fun a => Nat.le_refl _
  | cons b l ih => exact fun a => Nat.le_trans (show a ≤ 10 * a + (b.toNat - 48) by omega) (ih _)
theorem parse10 : ∀ (l : List UInt8) (a : Nat), (∀ c ∈ l, digitP c = true) → Go.Lib.parseUint10 a l = .ok (l.foldl (fun m b => 10 * m + (b.toNat - 48)) a) ∨ (Go.Lib.parseUint10 a l = .range ∧ 12 < l.foldl (fun m b => 10 * m + (b.toNat - 48)) a)
  | [], a, _ => .inl rfl
  | c :: r, a, h => by
    have hc := h c (by simp)
    simp only [digitP, Bool.and_eq_true, decide_eq_true_eq] at hc
    have h1 := fold_le r (10 * a + (c.toNat - 48))
    have e : a * 10 + (c.toNat - 48) = 10 * a + (c.toNat - 48) := by omega
    rw [Go.Lib.parseUint10, if_pos hc, List.foldl_cons, e]
    split
    · exact .inr ⟨rfl, by omega⟩
    · split
      · exact .inr ⟨rfl, by omega⟩
      · exact parse10 r _ (fun x hx => h x (by simp [hx]))
theorem atoi_dig {l : List UInt8} (hne : l ≠ []) (h : ∀ c ∈ l, digitP c = true) : Go.Lib.atoiAll l = .ok (decV l : Int) ∨ (Go.Lib.atoiAll l = .range ∧ 12 < decV l) := by
  obtain ⟨c, r, rfl⟩ : ∃ c r, l = c :: r := by cases l with
    | nil => exact absurd rfl hne
    | cons c r => exact ⟨c, r, rfl⟩
  have hc := h c (by simp)
  simp only [digitP, Bool.and_eq_true, decide_eq_true_eq] at hc
  rw [Go.Lib.atoiAll_plain c r (by omega) (by omega)]
  have hm : Go.Lib.parseMag (c :: r) = Go.Lib.parseUint10 0 (c :: r) := by unfold Go.Lib.parseMag; rw [if_neg (by simp)]
  rw [hm]
  rcases parse10 (c :: r) 0 h with h1 | ⟨h1, h2⟩
  · rw [h1]
    unfold Go.Lib.signless
    have e : (c :: r).foldl (fun m b => 10 * m + (b.toNat - 48)) 0 = decV (c :: r) := rfl
    rw [e]
    dsimp only
    split
    · exact .inr ⟨rfl, by omega⟩
    · exact .inl rfl
  · rw [h1]
    exact .inr ⟨rfl, h2⟩
end Cae
namespace Go.Proofs.YtieaebjkbhaoaaaGreatDoor
open Go.Vc Go.Proofs Go.RowKit Cae
set_option maxRecDepth 100000
set_option linter.unusedSimpArgs false
set_option linter.unusedVariables false
attribute [local irreducible] wpL callK valK unitK runK Fun Sl Own vc vcOps opK pureK
set_option maxHeartbeats 4000000
def atoiR_ren : Go.Shelf.Ren := ⟨fun | 172 => 74 | 244 => 89 | 245 => 73 | 247 => 72 | 279 => 85 | 280 => 86 | 281 => 87 | 282 => 88 | 287 => 84 | 316 => 98 | 171 => 54 | 205 => 99 | 321 => 96 | 322 => 97 | 243 => 67 | 246 => 65 | 283 => 75 | 284 => 76 | 285 => 77 | 286 => 78 | 129 => 91 | 317 => 90 | 318 => 92 | 319 => 93 | 320 => 94 | 337 => 100 | 338 => 101 | n => n, fun | 9 => 9 | 3 => 3 | 75 => 28 | 76 => 59 | 4 => 4 | 5 => 5 | 167 => 129 | 37 => 53 | 0 => 0 | 85 => 114 | 2 => 2 | 168 => 132 | 53 => 121 | 175 => 130 | 46 => 67 | 210 => 143 | 127 => 85 | 145 => 152 | 143 => 150 | 21 => 21 | 171 => 120 | 173 => 124 | 212 => 136 | 51 => 103 | 20 => 20 | 213 => 137 | 232 => 153 | 233 => 154 | 80 => 66 | n => n, fun | 15 => 2 | 16 => 3 | 17 => 1 | 18 => 6 | 19 => 7 | n => n⟩
theorem atoiR : Go.Proofs.LaysC.n172 Tryz.prog atoiR_ren := {
  mixed := by kernel_rfl
  f129 := Tryz.func91.trans (congrArg some (by kernel_rfl))
  f171 := Tryz.func54.trans (congrArg some (by kernel_rfl))
  f172 := Tryz.func74.trans (congrArg some (by kernel_rfl))
  f205 := Tryz.func99.trans (congrArg some (by kernel_rfl))
  f243 := Tryz.func67.trans (congrArg some (by kernel_rfl))
  f244 := Tryz.func89.trans (congrArg some (by kernel_rfl))
  f245 := Tryz.func73.trans (congrArg some (by kernel_rfl))
  f246 := Tryz.func65.trans (congrArg some (by kernel_rfl))
  f247 := Tryz.func72.trans (congrArg some (by kernel_rfl))
  f279 := Tryz.func85.trans (congrArg some (by kernel_rfl))
  f280 := Tryz.func86.trans (congrArg some (by kernel_rfl))
  f281 := Tryz.func87.trans (congrArg some (by kernel_rfl))
  f282 := Tryz.func88.trans (congrArg some (by kernel_rfl))
  f283 := Tryz.func75.trans (congrArg some (by kernel_rfl))
  f284 := Tryz.func76.trans (congrArg some (by kernel_rfl))
  f285 := Tryz.func77.trans (congrArg some (by kernel_rfl))
  f286 := Tryz.func78.trans (congrArg some (by kernel_rfl))
  f287 := Tryz.func84.trans (congrArg some (by kernel_rfl))
  f316 := Tryz.func98.trans (congrArg some (by kernel_rfl))
  f317 := Tryz.func90.trans (congrArg some (by kernel_rfl))
  f318 := Tryz.func92.trans (congrArg some (by kernel_rfl))
  f319 := Tryz.func93.trans (congrArg some (by kernel_rfl))
  f320 := Tryz.func94.trans (congrArg some (by kernel_rfl))
  f321 := Tryz.func96.trans (congrArg some (by kernel_rfl))
  f322 := Tryz.func97.trans (congrArg some (by kernel_rfl))
  f337 := Tryz.func100.trans (congrArg some (by kernel_rfl))
  f338 := Tryz.func101.trans (congrArg some (by kernel_rfl))
  t0 := Tryz.underlying0
  a0 := Tryz.isAgg0
  z0 := Tryz.sizeOf0
  v0 := Tryz.zeroValue0
  t2 := Tryz.underlying2
  a2 := Tryz.isAgg2
  z2 := Tryz.sizeOf2
  v2 := Tryz.zeroValue2
  t3 := Tryz.underlying3
  a3 := Tryz.isAgg3
  z3 := Tryz.sizeOf3
  v3 := Tryz.zeroValue3
  t4 := Tryz.underlying4
  a4 := Tryz.isAgg4
  z4 := Tryz.sizeOf4
  v4 := Tryz.zeroValue4
  t5 := Tryz.underlying5
  a5 := Tryz.isAgg5
  z5 := Tryz.sizeOf5
  v5 := Tryz.zeroValue5
  t9 := Tryz.underlying9
  a9 := Tryz.isAgg9
  z9 := Tryz.sizeOf9
  v9 := Tryz.zeroValue9
  t20 := Tryz.underlying20
  a20 := Tryz.isAgg20
  z20 := Tryz.sizeOf20
  v20 := Tryz.zeroValue20
  t21 := Tryz.underlying21
  a21 := Tryz.isAgg21
  z21 := Tryz.sizeOf21
  v21 := Tryz.zeroValue21
  t37 := Tryz.underlying53
  a37 := Tryz.isAgg53
  z37 := Tryz.sizeOf53
  v37 := Tryz.zeroValue53
  t46 := Tryz.underlying67
  a46 := Tryz.isAgg67
  z46 := Tryz.sizeOf67
  v46 := Tryz.zeroValue67
  t51 := Tryz.underlying103
  a51 := Tryz.isAgg103
  z51 := Tryz.sizeOf103
  v51 := Tryz.zeroValue103
  t53 := Tryz.underlying121
  a53 := Tryz.isAgg121
  z53 := Tryz.sizeOf121
  v53 := Tryz.zeroValue121
  t75 := Tryz.underlying28
  a75 := Tryz.isAgg28
  z75 := Tryz.sizeOf28
  v75 := Tryz.zeroValue28
  t76 := Tryz.underlying59
  a76 := Tryz.isAgg59
  z76 := Tryz.sizeOf59
  v76 := Tryz.zeroValue59
  t85 := Tryz.underlying114
  a85 := Tryz.isAgg114
  z85 := Tryz.sizeOf114
  v85 := Tryz.zeroValue114
  t127 := Tryz.underlying85
  a127 := Tryz.isAgg85
  z127 := Tryz.sizeOf85
  v127 := Tryz.zeroValue85
  t143 := Tryz.underlying150
  a143 := Tryz.isAgg150
  z143 := Tryz.sizeOf150
  v143 := Tryz.zeroValue150
  t145 := Tryz.underlying152
  a145 := Tryz.isAgg152
  z145 := Tryz.sizeOf152
  v145 := Tryz.zeroValue152
  t167 := Tryz.underlying129
  a167 := Tryz.isAgg129
  z167 := Tryz.sizeOf129
  v167 := Tryz.zeroValue129
  t168 := Tryz.underlying132
  a168 := Tryz.isAgg132
  z168 := Tryz.sizeOf132
  v168 := Tryz.zeroValue132
  t171 := Tryz.underlying120
  a171 := Tryz.isAgg120
  z171 := Tryz.sizeOf120
  v171 := Tryz.zeroValue120
  t173 := Tryz.underlying124
  a173 := Tryz.isAgg124
  z173 := Tryz.sizeOf124
  v173 := Tryz.zeroValue124
  t175 := Tryz.underlying130
  a175 := Tryz.isAgg130
  z175 := Tryz.sizeOf130
  v175 := Tryz.zeroValue130
  t210 := Tryz.underlying143
  a210 := Tryz.isAgg143
  z210 := Tryz.sizeOf143
  v210 := Tryz.zeroValue143
  t212 := Tryz.underlying136
  a212 := Tryz.isAgg136
  z212 := Tryz.sizeOf136
  v212 := Tryz.zeroValue136
  t213 := Tryz.underlying137
  a213 := Tryz.isAgg137
  z213 := Tryz.sizeOf137
  t232 := Tryz.underlying153
  a232 := Tryz.isAgg153
  z232 := Tryz.sizeOf153
  v232 := Tryz.zeroValue153
  t233 := Tryz.underlying154
  a233 := Tryz.isAgg154
  z233 := Tryz.sizeOf154
  v233 := Tryz.zeroValue154
  g15 := by kernel_rfl
  g16 := by kernel_rfl
  g17 := by kernel_rfl
  g18 := by kernel_rfl
  g19 := by kernel_rfl
  t80 := Tryz.underlying66
  a80 := Tryz.isAgg66
  z80 := Tryz.sizeOf66
  v80 := Tryz.zeroValue66
  i0 := by kernel_rfl
  i2 := by kernel_rfl
  i3 := by kernel_rfl
  i4 := by kernel_rfl
  i5 := by kernel_rfl
  i9 := by kernel_rfl
  i20 := by kernel_rfl
  i21 := by kernel_rfl
  i37 := by kernel_rfl
  i46 := by kernel_rfl
  i51 := by kernel_rfl
  i53 := by kernel_rfl
  i75 := by kernel_rfl
  i76 := by kernel_rfl
  i80 := by kernel_rfl
  i85 := by kernel_rfl
  i127 := by kernel_rfl
  i143 := by kernel_rfl
  i145 := by kernel_rfl
  i167 := by kernel_rfl
  i168 := by kernel_rfl
  i171 := by kernel_rfl
  i173 := by kernel_rfl
  i175 := by kernel_rfl
  i210 := by kernel_rfl
  i212 := by kernel_rfl
  i232 := by kernel_rfl
  i233 := by kernel_rfl
  m15 := by kernel_rfl
  m16 := by kernel_rfl
  m17 := by kernel_rfl
  m18 := by kernel_rfl
  m19 := by kernel_rfl
  c0 := by kernel_rfl
  c2 := by kernel_rfl
  c3 := by kernel_rfl
  c4 := by kernel_rfl
  c5 := by kernel_rfl
  c9 := by kernel_rfl
  c20 := by kernel_rfl
  c21 := by kernel_rfl
  c37 := by kernel_rfl
  c46 := by kernel_rfl
  c51 := by kernel_rfl
  c53 := by kernel_rfl
  c75 := by kernel_rfl
  c76 := by kernel_rfl
  c80 := by kernel_rfl
  c85 := by kernel_rfl
  c127 := by kernel_rfl
  c143 := by kernel_rfl
  c145 := by kernel_rfl
  c167 := by kernel_rfl
  c168 := by kernel_rfl
  c171 := by kernel_rfl
  c173 := by kernel_rfl
  c175 := by kernel_rfl
  c210 := by kernel_rfl
  c212 := by kernel_rfl
  c213 := by kernel_rfl
  c232 := by kernel_rfl
  c233 := by kernel_rfl }

theorem atoi_c (s : List UInt8) (hs : s.length ≤ 1000000) (hne : s ≠ []) (hd : ∀ c ∈ s, digitP c = true) (w : World) (h : Errs w) : Fun Tryz.prog 74 [str s] w fun r w' =>
    (r = .tuple #[.int .i64 (decV s), .nilIface] ∨ (12 < decV s ∧ ∃ v t p, r = .tuple #[.int .i64 v, .iface t p])) ∧ Below w.heap.size w w' := by
  obtain ⟨⟨t1, p1, h1⟩, ⟨t2, p2, h2⟩⟩ := h
  refine fun_of_calls Tryz.func74 (by kernel_rfl) (by kernel_rfl) ?_
  rcases atoi_dig hne hd with ha | ⟨ha, hb⟩
  · refine Calls.mono (Any.strconv_Atoi_ok atoiR ⟨s.toArray⟩ (by show s.length ≤ _; omega) _ ha w) ?_
    rintro e w' ⟨rfl, hw⟩
    refine ⟨_, rfl, .inl rfl, ?_⟩
    rcases hw with rfl | ⟨t, rfl⟩
    · exact Below.refl _ _
    · exact Lib.bytesWorld_below _ _ _
  · refine Calls.mono (Any.strconv_Atoi_range atoiR ⟨s.toArray⟩ (by show s.length ≤ _; omega) ha _ w h2 (.inr ⟨_, _, rfl⟩)) ?_
    rintro e w' ⟨N, rfl, _, _, hw⟩
    exact ⟨_, rfl, .inr ⟨hb, _, _, _, rfl⟩, hw⟩
theorem times_c {pb B : Nat} {w : World} {l : List Tok} (h : PS pb B w l) : Pc 64 [.pointer (some ⟨pb, 0, none⟩)] pb B w l timesP (fun _ r n => r = .int .i64 (n : Int) ∧ n ≤ 12) := by
  obtain ⟨t, r, rfl⟩ := h.tl.cons
  obtain ⟨b, o, c, hB, hc, hne, c0, c1, c2, c3⟩ := h.hd
  have cb : w.cell? ⟨pb, 0, none⟩ = some (.slice (some ⟨b, o, none⟩) (r.length + 1) c) := hB.cell rfl
  have hle := h.le
  have hlt := h.lt
  refine fun2_of_vc Tryz.func64 rfl (by kernel_rfl) [.tmp 2] rfl ?_
  simp -dsimp (maxSteps := 4000000) only [push_cast, fr0, Tryz.ntmps64, List.length_cons, List.length_nil, Nat.reduceAdd, Nat.reduceSub, Nat.reduceBEq, List.replicate_succ, List.replicate_zero]
  simp -dsimp only [push_cast, Nat.reduceAdd, Nat.reduceLeDiff, Nat.reduceBEq, decide_true, ne_eq, eq_self, not_true_eq_false, not_false_eq_true, true_imp_iff, false_imp_iff, Int.reduceNe, Int.reduceEq, Int.reduceLT, Int.reduceLE, Bool.not_true, Bool.not_false, cb, Nat.zero_mul, Nat.add_zero, c3]
  refine ⟨by omega, ?_⟩
  refine allocK (z := [.int .i64 0, str [], .int .i64 0]) (by kernel_rfl) ?_
  intro w1 hw1
  have B1 := hw1.blk
  have P1 := h.below hw1.below
  have z1 := hw1.size
  have b1 := hw1.below
  simp -dsimp only [push_cast, Nat.reduceAdd, Nat.reduceLeDiff, Nat.reduceBEq, decide_true, ne_eq, eq_self, not_true_eq_false, not_false_eq_true, true_imp_iff, false_imp_iff, Int.reduceNe, Int.reduceEq, Int.reduceLT, Int.reduceLE, Bool.not_true, Bool.not_false]
  refine storeAgg (xt := 49) (n := 3) (by kernel_rfl) B1 rfl (by decide) (by simp; exact ⟨rfl, rfl, rfl⟩) ?_
  intro w2 hw2
  have B2 : Blk w2 w.heap.size 49 [.int .i64 t.kind, str t.text, .int .i64 t.pos] := hw2.blk
  have P2 := P1.kept hw2.kept (fun i hi => by omega)
  have z2 := hw2.size
  have b2 := b1.trans (hw2.kept.below (B := w.heap.size) (by omega) (fun i h => by omega))
  have k2 : Kept (· = pb) w w2 := Kept.of_below b2 (fun i h1 h2 => by omega)
  have d0 : w2.cell? ⟨w.heap.size, 0, none⟩ = some (.int .i64 t.kind) := B2.cell rfl
  have d1 : w2.cell? ⟨w.heap.size, 1, none⟩ = some (str t.text) := B2.cell rfl
  simp -dsimp only [push_cast, Nat.reduceAdd, Nat.reduceLeDiff, Nat.reduceBEq, decide_true, ne_eq, eq_self, not_true_eq_false, not_false_eq_true, true_imp_iff, false_imp_iff, Int.reduceNe, Int.reduceEq, Int.reduceLT, Int.reduceLE, Bool.not_true, Bool.not_false, d0]
  refine ⟨fun hk => ?_, fun hk => ?_⟩
  · have hk2 : isKind 2 (t :: r) = false := by
      have : t.kind ≠ 2 := fun e => hk (by omega)
      simp [isKind, Cae.hd, this]
    refine callP_of (fail_c 3 P2) (fun _ _ h => h.elim) ?_
    rintro c w4 ⟨ht, hb⟩
    simp -dsimp only [push_cast, Nat.reduceAdd, Nat.reduceLeDiff, Nat.reduceBEq, decide_true, ne_eq, eq_self, not_true_eq_false, not_false_eq_true, true_imp_iff, false_imp_iff, Int.reduceNe, Int.reduceEq, Int.reduceLT, Int.reduceLE, Bool.not_true, Bool.not_false]
    exact ⟨3, _, by unfold timesP pif; rw [hk2]; rfl, ht.mono (by omega), k2.trans (Kept.of_below hb (X := (· = pb)) (fun i h1 h2 => by omega)) (fun i _ h => h)⟩
  · have hkk : t.kind = 2 := by omega
    have hk2 : isKind 2 (t :: r) = true := by simp [isKind, Cae.hd, hkk]
    have hnum := h.tl.num t (by simp) hkk
    simp -dsimp only [push_cast, Nat.reduceAdd, Nat.reduceLeDiff, Nat.reduceBEq, decide_true, ne_eq, eq_self, not_true_eq_false, not_false_eq_true, true_imp_iff, false_imp_iff, Int.reduceNe, Int.reduceEq, Int.reduceLT, Int.reduceLE, Bool.not_true, Bool.not_false, d1]
    refine callK_of (atoi_c t.text (h.tl.txt t (by simp)) hnum.1 hnum.2 w2 P2.er) ?_
    rintro rv w3 ⟨hr, b3⟩
    have P3 := P2.below b3
    have z3 := b3.size
    have k3 : Kept (· = pb) w w3 := k2.trans (Kept.of_below b3 (X := (· = pb)) (fun i h1 h2 => by omega)) (fun i _ h => h)
    have herr : 12 < decV t.text → timesP (t :: r) = .error (4, (Cae.hd (t :: r)).pos) := fun h12 => by
      unfold timesP pif
      rw [hk2]
      simp [Cae.pb, peek, Cae.hd, h12, pfail]
    rcases hr with rfl | ⟨h12, v, t', p, rfl⟩
    · simp -dsimp only [push_cast, Nat.reduceAdd, Nat.reduceLeDiff, Nat.reduceBEq, decide_true, ne_eq, eq_self, not_true_eq_false, not_false_eq_true, true_imp_iff, false_imp_iff, Int.reduceNe, Int.reduceEq, Int.reduceLT, Int.reduceLE, Bool.not_true, Bool.not_false]
      refine ⟨fun hh => ?_, fun hh => ?_⟩
      · refine callP_of (fail_c 4 P3) (fun _ _ h => h.elim) ?_
        rintro c w4 ⟨ht, hb⟩
        simp -dsimp only [push_cast, Nat.reduceAdd, Nat.reduceLeDiff, Nat.reduceBEq, decide_true, ne_eq, eq_self, not_true_eq_false, not_false_eq_true, true_imp_iff, false_imp_iff, Int.reduceNe, Int.reduceEq, Int.reduceLT, Int.reduceLE, Bool.not_true, Bool.not_false]
        exact ⟨4, _, herr (by omega), ht.mono (by omega), k3.trans (Kept.of_below hb (X := (· = pb)) (fun i h1 h2 => by omega)) (fun i _ h => h)⟩
      · have h5 : t.kind ≠ 5 := by omega
        obtain ⟨b4, o4, c4, hB4, hc4, hne4, _, _, _, _⟩ := P3.hd
        have cb4 : w3.cell? ⟨pb, 0, none⟩ = some (.slice (some ⟨b4, o4, none⟩) (r.length + 1) c4) := hB4.cell rfl
        simp -dsimp only [push_cast, Nat.reduceAdd, Nat.reduceLeDiff, Nat.reduceBEq, decide_true, ne_eq, eq_self, not_true_eq_false, not_false_eq_true, true_imp_iff, false_imp_iff, Int.reduceNe, Int.reduceEq, Int.reduceLT, Int.reduceLE, Bool.not_true, Bool.not_false, cb4, slice1]
        refine ⟨by omega, ?_⟩
        refine storeK_of hB4 (by simp) rfl ?_
        intro w4 hw4
        have P4 := P3.pop hB4 h5 hw4
        have k4 := k3.trans hw4.kept (fun i _ h => h)
        simp -dsimp only [push_cast, Nat.reduceAdd, Nat.reduceLeDiff, Nat.reduceBEq, decide_true, ne_eq, eq_self, not_true_eq_false, not_false_eq_true, true_imp_iff, false_imp_iff, Int.reduceNe, Int.reduceEq, Int.reduceLT, Int.reduceLE, Bool.not_true, Bool.not_false]
        have h12 : ¬ 12 < decV t.text := by omega
        exact ⟨decV t.text, r, by unfold timesP pif; rw [hk2]; simp [Cae.pb, peek, Cae.hd, h12, popP, h5, pr], ⟨rfl, by omega⟩, P4, k4⟩
    · simp -dsimp only [push_cast, Nat.reduceAdd, Nat.reduceLeDiff, Nat.reduceBEq, decide_true, ne_eq, eq_self, not_true_eq_false, not_false_eq_true, true_imp_iff, false_imp_iff, Int.reduceNe, Int.reduceEq, Int.reduceLT, Int.reduceLE, Bool.not_true, Bool.not_false]
      refine callP_of (fail_c 4 P3) (fun _ _ h => h.elim) ?_
      rintro c w4 ⟨ht, hb⟩
      simp -dsimp only [push_cast, Nat.reduceAdd, Nat.reduceLeDiff, Nat.reduceBEq, decide_true, ne_eq, eq_self, not_true_eq_false, not_false_eq_true, true_imp_iff, false_imp_iff, Int.reduceNe, Int.reduceEq, Int.reduceLT, Int.reduceLE, Bool.not_true, Bool.not_false]
      exact ⟨4, _, herr (by omega), ht.mono (by omega), k3.trans (Kept.of_below hb (X := (· = pb)) (fun i h1 h2 => by omega)) (fun i _ h => h)⟩
end Go.Proofs.YtieaebjkbhaoaaaGreatDoor
