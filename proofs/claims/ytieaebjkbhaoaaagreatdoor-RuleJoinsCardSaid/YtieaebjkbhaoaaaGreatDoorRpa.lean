import Derived.Test.YtieaebjkbhaoaaaGreatDoorRp1
namespace Cae
theorem runP_cons (f : UInt8 → Bool) (c : UInt8) (r : List UInt8) : runP f (c :: r) = if f c then runP f r + 1 else 0 := by
  unfold runP
  rw [List.takeWhile_cons]
  split <;> rfl
theorem runP_at : ∀ (f : UInt8 → Bool) (s : List UInt8) (n : Nat), n ≤ s.length → (∀ i, i < n → f (s.getD i 0) = true) → (n = s.length ∨ f (s.getD n 0) = false) → runP f s = n
  | f, [], n, h, _, _ => by
    have : n = 0 := by simpa using h
    subst this; rfl
  | f, c :: r, 0, _, _, h => by
    rw [runP_cons]
    rcases h with h | h
    · simp at h
    · have : f c = false := h
      rw [this]; rfl
  | f, c :: r, n + 1, h, ha, hb => by
    rw [runP_cons, if_pos (show f c = true from ha 0 (by omega)), runP_at f r n (by simpa using h) (fun i hi => ha (i + 1) (by omega)) (hb.imp (fun e => by simpa using e) (fun e => e))]
theorem ib_run {s : List UInt8} {c : UInt8} : Go.Lib.indexByte s c + 1 = if s.contains c then ((runP (· != c) s + 1 : Nat) : Int) else 0 := by
  rw [ib_spec]
  split <;> simp [runP]
theorem tk_num {i : Nat} {s : List UInt8} {l : List Tok} (h : Tk i s l) : ∀ t ∈ l, t.kind = 2 → t.text ≠ [] ∧ ∀ c ∈ t.text, digitP c = true := by
  induction h with
  | nil i => simp
  | blank _ _ ih => exact ih
  | note _ _ _ ih => exact ih
  | @tok i c r l h1 h2 h3 hl ih =>
    intro t ht hk
    rcases List.mem_cons.1 ht with rfl | ht
    · rw [nextT_cons] at hk h3
      simp only [nextT_cons]
      by_cases a1 : letterP c = true
      · rw [if_pos a1] at hk; cases hk
      · rw [if_neg a1] at hk h3 ⊢
        by_cases a2 : digitP c = true
        · rw [if_pos a2] at h3 ⊢
          have e : (c :: r).take (runP digitP (c :: r)) = (c :: r).takeWhile digitP := take_tw digitP (c :: r)
          show (c :: r).take (runP digitP (c :: r)) ≠ [] ∧ _
          rw [e]
          refine ⟨fun hh => ?_, fun x hx => ?_⟩
          · rw [List.takeWhile_cons, if_pos a2] at hh; cases hh
          · exact List.all_eq_true.1 (List.all_takeWhile (p := digitP) (l := c :: r)) x hx
        · rw [if_neg a2] at hk
          split at hk
          · cases hk
          · split at hk <;> cases hk
    · exact ih t ht hk
end Cae
namespace Go.Proofs.YtieaebjkbhaoaaaGreatDoor
open Go.Vc Go.Proofs Go.RowKit Cae
set_option maxRecDepth 100000
set_option linter.unusedSimpArgs false
set_option linter.unusedVariables false
attribute [local irreducible] wpL callK valK unitK runK Fun Sl Own vc vcOps opK pureK
set_option maxHeartbeats 4000000

theorem letter_c (c : UInt8) (w : World) : Fun Tryz.prog 33 [.int .u8 c.toNat] w fun r w' => r = .bool (letterP c) ∧ w' = w := by
  have h : letterP c = (decide (97 ≤ c.toNat) && decide (c.toNat ≤ 122)) := rfl
  refine fun_of_vc Tryz.func33 rfl (by kernel_rfl) [2] rfl ?_
  simp -dsimp (maxSteps := 4000000) only [push_cast, fr0, Tryz.ntmps33, List.length_cons, List.length_nil, Nat.reduceAdd, Nat.reduceSub, Nat.reduceBEq, List.replicate_succ, List.replicate_zero]
  refine ⟨fun h1 => ?_, fun h1 => ?_⟩
  · rw [h, decide_eq_true (show 97 ≤ c.toNat by omega), Bool.true_and]
    congr 1
    exact decide_eq_decide.2 (by omega)
  · rw [h, decide_eq_false (show ¬ 97 ≤ c.toNat by omega)]; rfl
theorem digit_c (c : UInt8) (w : World) : Fun Tryz.prog 35 [.int .u8 c.toNat] w fun r w' => r = .bool (digitP c) ∧ w' = w := by
  have h : digitP c = (decide (48 ≤ c.toNat) && decide (c.toNat ≤ 57)) := rfl
  refine fun_of_vc Tryz.func35 rfl (by kernel_rfl) [2] rfl ?_
  simp -dsimp (maxSteps := 4000000) only [push_cast, fr0, Tryz.ntmps35, List.length_cons, List.length_nil, Nat.reduceAdd, Nat.reduceSub, Nat.reduceBEq, List.replicate_succ, List.replicate_zero]
  refine ⟨fun h1 => ?_, fun h1 => ?_⟩
  · rw [h, decide_eq_true (show 48 ≤ c.toNat by omega), Bool.true_and]
    congr 1
    exact decide_eq_decide.2 (by omega)
  · rw [h, decide_eq_false (show ¬ 48 ≤ c.toNat by omega)]; rfl
theorem letdig_c (c : UInt8) (w : World) : Fun Tryz.prog 34 [.int .u8 c.toNat] w fun r w' => r = .bool (letterP c || digitP c) ∧ w' = w := by
  refine fun_of_vc Tryz.func34 rfl (by kernel_rfl) [2] rfl ?_
  simp -dsimp (maxSteps := 4000000) only [push_cast, fr0, Tryz.ntmps34, List.length_cons, List.length_nil, Nat.reduceAdd, Nat.reduceSub, Nat.reduceBEq, List.replicate_succ, List.replicate_zero]
  refine callK_of (letter_c c w) ?_
  rintro _ _ ⟨rfl, rfl⟩
  cases letterP c with
  | true =>
    simp -dsimp only [push_cast, Nat.reduceAdd, Nat.reduceLeDiff, Nat.reduceBEq, decide_true, ne_eq, eq_self, not_true_eq_false, not_false_eq_true, true_imp_iff, false_imp_iff, Int.reduceNe, Int.reduceEq, Int.reduceLT, Int.reduceLE, Bool.not_true, Bool.not_false]
    rfl
  | false =>
    simp -dsimp only [push_cast, Nat.reduceAdd, Nat.reduceLeDiff, Nat.reduceBEq, decide_true, ne_eq, eq_self, not_true_eq_false, not_false_eq_true, true_imp_iff, false_imp_iff, Int.reduceNe, Int.reduceEq, Int.reduceLT, Int.reduceLE, Bool.not_true, Bool.not_false]
    refine callK_of (digit_c c _) ?_
    rintro _ _ ⟨rfl, rfl⟩
    simp -dsimp only [push_cast, Nat.reduceAdd, Nat.reduceLeDiff, Nat.reduceBEq, decide_true, ne_eq, eq_self, not_true_eq_false, not_false_eq_true, true_imp_iff, false_imp_iff, Int.reduceNe, Int.reduceEq, Int.reduceLT, Int.reduceLE, Bool.not_true, Bool.not_false]
theorem noline_c (c : UInt8) (w : World) : Fun Tryz.prog 21 [.int .u8 c.toNat] w fun r w' => r = .bool (c != 10) ∧ w' = w := by
  refine fun_of_vc Tryz.func21 rfl (by kernel_rfl) [2] rfl ?_
  simp -dsimp (maxSteps := 4000000) only [push_cast, fr0, Tryz.ntmps21, List.length_cons, List.length_nil, Nat.reduceAdd, Nat.reduceSub, Nat.reduceBEq, List.replicate_succ, List.replicate_zero]
  congr 1
  rw [bne, beq_dec]
  have : (((c.toNat : Nat) : Int) = 10) ↔ c = 10 := by
    constructor
    · intro h
      exact UInt8.toNat_inj.1 (by show c.toNat = 10; omega)
    · rintro rfl; rfl
  by_cases h : c = 10
  · rw [decide_eq_true h, decide_eq_false (show ¬ ((c.toNat : Nat) : Int) ≠ 10 from fun hh => hh (this.2 h))]; rfl
  · rw [decide_eq_false h, decide_eq_true (show ((c.toNat : Nat) : Int) ≠ 10 from fun hh => h (this.1 hh))]; rfl
def indexByteR_ren : Go.Shelf.Ren := ⟨fun | 217 => 45 | 266 => 55 | n => n, fun | 9 => 9 | 5 => 5 | 3 => 3 | n => n, fun | n => n⟩
theorem indexByteR : Go.Proofs.Lays.n217 Tryz.prog indexByteR_ren := {
  mixed := by kernel_rfl
  f217 := Tryz.func45.trans (congrArg some (by kernel_rfl))
  f266 := Tryz.func55.trans (congrArg some (by kernel_rfl))
  t3 := Tryz.underlying3
  a3 := Tryz.isAgg3
  z3 := Tryz.sizeOf3
  v3 := Tryz.zeroValue3
  t5 := Tryz.underlying5
  a5 := Tryz.isAgg5
  z5 := Tryz.sizeOf5
  v5 := Tryz.zeroValue5
  t9 := Tryz.underlying9
  a9 := Tryz.isAgg9
  z9 := Tryz.sizeOf9
  v9 := Tryz.zeroValue9 }

theorem indexByteI_c (s : List UInt8) (c : UInt8) (w : World) : Fun Tryz.prog 45 [str s, .int .u8 c.toNat] w fun r w' => r = .int .i64 (Lib.indexByte s c) ∧ w' = w := by
  refine fun_of_calls Tryz.func45 (by kernel_rfl) (by kernel_rfl) ?_
  refine Calls.mono (Any.stringslite_IndexByte indexByteR ⟨s.toArray⟩ c.toNat w) ?_
  rintro e w' ⟨rfl, rfl⟩
  exact ⟨_, rfl, by simp, rfl⟩
theorem indexByte_c (s : List UInt8) (c : UInt8) (w : World) : Fun Tryz.prog 36 [str s, .int .u8 c.toNat] w fun r w' => r = .int .i64 (Lib.indexByte s c) ∧ w' = w := by
  refine fun_of_vc Tryz.func36 rfl (by kernel_rfl) [4] rfl ?_
  simp -dsimp (maxSteps := 4000000) only [push_cast, fr0, Tryz.ntmps36, List.length_cons, List.length_nil, Nat.reduceAdd, Nat.reduceSub, Nat.reduceBEq, List.replicate_succ, List.replicate_zero]
  refine callK_of (indexByteI_c s c w) ?_
  rintro _ _ ⟨rfl, rfl⟩
  simp -dsimp only [push_cast, Nat.reduceAdd, Nat.reduceLeDiff, Nat.reduceBEq, decide_true, ne_eq, eq_self, not_true_eq_false, not_false_eq_true, true_imp_iff, false_imp_iff, Int.reduceNe, Int.reduceEq, Int.reduceLT, Int.reduceLE, Bool.not_true, Bool.not_false]
theorem run_c (f : FuncId) (g : UInt8 → Bool) (hf : ∀ (c : UInt8) (w : World), Fun Tryz.prog f [.int .u8 c.toNat] w fun r w' => r = .bool (g c) ∧ w' = w) (s : List UInt8) (hs : s.length ≤ 1000000000) (w : World) :
    Fun Tryz.prog 20 [str s, .func (.func f) #[] #[]] w fun r w' => r = .int .i64 (runP g s : Nat) ∧ w' = w := by
  refine fun_of_vc Tryz.func20 rfl (by kernel_rfl) [4] rfl ?_
  simp -dsimp (maxSteps := 4000000) only [push_cast, fr0, Tryz.ntmps20, List.length_cons, List.length_nil, Nat.reduceAdd, Nat.reduceSub, Nat.reduceBEq, List.replicate_succ, List.replicate_zero]
  refine wpL_loop [5, 6, 7, 8, 9, 10, 11, 12, 13, 14, 15, 16, 17, 18] (fun z w' => ∃ n : Nat, z 5 = .int .i64 n ∧ n ≤ s.length ∧ (∀ i, i < n → g (s.getD i 0) = true) ∧ w' = w) (fun z w' => s.length - (intOf (z 5)).toNat) ?_ ?_
  · exact ⟨0, rfl, Nat.zero_le _, fun i hi => by omega, rfl⟩
  rintro z w' ⟨n, hz, hn, hall, rfl⟩
  have hint : (intOf (z 5)).toNat = n := by rw [hz]; simp [intOf]
  simp -dsimp only [push_cast, Nat.reduceAdd, Nat.reduceLeDiff, Nat.reduceBEq, decide_true, ne_eq, eq_self, not_true_eq_false, not_false_eq_true, true_imp_iff, false_imp_iff, Int.reduceNe, Int.reduceEq, Int.reduceLT, Int.reduceLE, Bool.not_true, Bool.not_false, hz]
  refine ⟨fun hlt => ⟨⟨by omega, by omega⟩, ?_⟩, fun hge => ?_⟩
  · refine callK_of (hf (s.getD n 0) w') ?_
    rintro _ _ ⟨rfl, rfl⟩
    cases hg : g (s.getD n 0) with
    | true =>
      simp -dsimp only [push_cast, Nat.reduceAdd, Nat.reduceLeDiff, Nat.reduceBEq, decide_true, ne_eq, eq_self, not_true_eq_false, not_false_eq_true, true_imp_iff, false_imp_iff, Int.reduceNe, Int.reduceEq, Int.reduceLT, Int.reduceLE, Bool.not_true, Bool.not_false, hz]
      refine ⟨⟨by omega, by omega⟩, ⟨n + 1, rfl, by omega, fun i hi => ?_⟩, ?_⟩
      · by_cases h : i < n
        · exact hall i h
        · rw [show i = n by omega]; exact hg
      · simp only [intOf]; omega
    | false =>
      simp -dsimp only [push_cast, Nat.reduceAdd, Nat.reduceLeDiff, Nat.reduceBEq, decide_true, ne_eq, eq_self, not_true_eq_false, not_false_eq_true, true_imp_iff, false_imp_iff, Int.reduceNe, Int.reduceEq, Int.reduceLT, Int.reduceLE, Bool.not_true, Bool.not_false, hz]
      rw [runP_at g s n hn hall (.inr hg)]
  · rw [runP_at g s n hn hall (.inl (by omega))]
theorem next_c (c : UInt8) (r : List UInt8) (hs : (c :: r).length ≤ 1000000000) (w : World) : Fun Tryz.prog 22 [str (c :: r)] w fun v w' => v = .tuple #[.int .i64 ((nextT (c :: r)).1 : Nat), .int .i64 ((nextT (c :: r)).2 : Nat)] ∧ w' = w := by
  have hn := nextT_cons c r
  refine fun_of_vc Tryz.func22 rfl (by kernel_rfl) [2, 3] rfl ?_
  simp -dsimp (maxSteps := 4000000) only [push_cast, fr0, Tryz.ntmps22, List.length_cons, List.length_nil, Nat.reduceAdd, Nat.reduceSub, Nat.reduceBEq, List.replicate_succ, List.replicate_zero]
  have e0 : ((c :: r).getD 0 0) = c := rfl
  refine ⟨by omega, ?_⟩
  refine callK_of (letter_c c w) ?_
  rintro _ _ ⟨rfl, rfl⟩
  cases h1 : letterP c with
  | true =>
    rw [h1, if_pos rfl] at hn
    simp -dsimp only [push_cast, Nat.reduceAdd, Nat.reduceLeDiff, Nat.reduceBEq, decide_true, ne_eq, eq_self, not_true_eq_false, not_false_eq_true, true_imp_iff, false_imp_iff, Int.reduceNe, Int.reduceEq, Int.reduceLT, Int.reduceLE, Bool.not_true, Bool.not_false]
    refine callK_of (run_c _ (fun c => letterP c || digitP c) letdig_c (c :: r) hs _) ?_
    rintro _ _ ⟨rfl, rfl⟩
    simp -dsimp only [push_cast, Nat.reduceAdd, Nat.reduceLeDiff, Nat.reduceBEq, decide_true, ne_eq, eq_self, not_true_eq_false, not_false_eq_true, true_imp_iff, false_imp_iff, Int.reduceNe, Int.reduceEq, Int.reduceLT, Int.reduceLE, Bool.not_true, Bool.not_false]
    rw [hn]
    rfl
  | false =>
    rw [h1, if_neg (by decide)] at hn
    simp -dsimp only [push_cast, Nat.reduceAdd, Nat.reduceLeDiff, Nat.reduceBEq, decide_true, ne_eq, eq_self, not_true_eq_false, not_false_eq_true, true_imp_iff, false_imp_iff, Int.reduceNe, Int.reduceEq, Int.reduceLT, Int.reduceLE, Bool.not_true, Bool.not_false]
    refine callK_of (digit_c c _) ?_
    rintro _ _ ⟨rfl, rfl⟩
    cases h2 : digitP c with
    | true =>
      rw [h2, if_pos rfl] at hn
      simp -dsimp only [push_cast, Nat.reduceAdd, Nat.reduceLeDiff, Nat.reduceBEq, decide_true, ne_eq, eq_self, not_true_eq_false, not_false_eq_true, true_imp_iff, false_imp_iff, Int.reduceNe, Int.reduceEq, Int.reduceLT, Int.reduceLE, Bool.not_true, Bool.not_false]
      refine callK_of (run_c _ digitP digit_c (c :: r) hs _) ?_
      rintro _ _ ⟨rfl, rfl⟩
      simp -dsimp only [push_cast, Nat.reduceAdd, Nat.reduceLeDiff, Nat.reduceBEq, decide_true, ne_eq, eq_self, not_true_eq_false, not_false_eq_true, true_imp_iff, false_imp_iff, Int.reduceNe, Int.reduceEq, Int.reduceLT, Int.reduceLE, Bool.not_true, Bool.not_false]
      rw [hn]
      rfl
    | false =>
      rw [h2, if_neg (by decide)] at hn
      have h91 : (((c.toNat : Nat) : Int) = 91) ↔ c = 91 := by
        constructor
        · intro h
          exact UInt8.toNat_inj.1 (by show c.toNat = 91; omega)
        · rintro rfl; rfl
      simp -dsimp only [push_cast, Nat.reduceAdd, Nat.reduceLeDiff, Nat.reduceBEq, decide_true, ne_eq, eq_self, not_true_eq_false, not_false_eq_true, true_imp_iff, false_imp_iff, Int.reduceNe, Int.reduceEq, Int.reduceLT, Int.reduceLE, Bool.not_true, Bool.not_false]
      refine ⟨fun h3 => ?_, fun h3 => ?_⟩
      · rw [if_pos (h91.1 h3)] at hn
        refine callK_of (indexByte_c (c :: r) 93 _) ?_
        rintro _ _ ⟨rfl, rfl⟩
        have hr := runP_le (· != 93) (c :: r)
        have hib : Lib.indexByte (c :: r) 93 + 1 = (((nextT (c :: r)).2 : Nat) : Int) := by
          rw [ib_run, hn]
          split <;> rfl
        simp -dsimp only [push_cast, Nat.reduceAdd, Nat.reduceLeDiff, Nat.reduceBEq, decide_true, ne_eq, eq_self, not_true_eq_false, not_false_eq_true, true_imp_iff, false_imp_iff, Int.reduceNe, Int.reduceEq, Int.reduceLT, Int.reduceLE, Bool.not_true, Bool.not_false]
        refine ⟨?_, ?_⟩
        · rw [hib]; have := nextT_le c r; omega
        · rw [hib, hn]
          rfl
      · rw [if_neg (fun h => h3 (h91.2 h))] at hn
        refine callK_of (indexByte_c markL c _) ?_
        rintro _ _ ⟨rfl, rfl⟩
        have hib : (0 ≤ Lib.indexByte markL c) ↔ markL.contains c = true := by
          rw [ib_spec]
          split
          · rename_i h; exact ⟨fun _ => h, fun _ => by omega⟩
          · rename_i h; exact ⟨fun hh => by omega, fun hh => absurd hh h⟩
        simp -dsimp only [push_cast, Nat.reduceAdd, Nat.reduceLeDiff, Nat.reduceBEq, decide_true, ne_eq, eq_self, not_true_eq_false, not_false_eq_true, true_imp_iff, false_imp_iff, Int.reduceNe, Int.reduceEq, Int.reduceLT, Int.reduceLE, Bool.not_true, Bool.not_false]
        refine ⟨fun h => ?_, fun h => ?_⟩
        · rw [if_pos (hib.1 h)] at hn; rw [hn]; rfl
        · rw [if_neg (fun hh => h (hib.2 hh))] at hn; rw [hn]; rfl
theorem encTok_one (t : Tok) : ∀ u ∈ encTok t, u.oneCell' = true := by
  intro u hu
  simp [encTok] at hu
  rcases hu with rfl | rfl | rfl <;> rfl
/-- What tokens answers. -/
def TokR (w : World) (s : List UInt8) (r : Value) (w' : World) : Prop :=
  (∃ l v, tokP s = .ok l ∧ r = .tuple #[v, .nilIface] ∧ Go.Vc.Own w.heap.size 49 3 encTok w' v l) ∨
  (∃ e pos b, tokP s = .error (e, pos) ∧ r = .tuple #[.slice none 0 0, .iface 73 (.pointer (some ⟨b, 0, none⟩))] ∧ w.heap.size ≤ b ∧ Blk w' b 75 [.int .i64 e, .int .i64 pos])
theorem tokens_c (s : List UInt8) (hs : s.length ≤ 1000000) (w : World) : Fun Tryz.prog 12 [str s] w fun r w' => TokR w s r w' ∧ Below w.heap.size w w' := by
  refine fun_of_vc Tryz.func12 rfl (by kernel_rfl) [2, 3] rfl ?_
  simp -dsimp (maxSteps := 4000000) only [push_cast, fr0, Tryz.ntmps12, List.length_cons, List.length_nil, Nat.reduceAdd, Nat.reduceSub, Nat.reduceBEq, List.replicate_succ, List.replicate_zero]
  refine wpL_loop [2, 3, 4, 5, 6, 7, 8, 9, 10, 11, 12, 13, 14, 15, 16, 17, 18, 19, 20, 21, 22, 23, 24, 25, 26, 27, 28, 29, 30, 31, 32, 33, 34, 35, 36, 37, 38, 39, 40, 41, 42, 43, 44, 45, 46, 47, 48, 49, 50, 51, 52, 53, 54, 55, 56, 57, 58, 59, 60, 61, 62, 63, 64] (fun z w' => ∃ (m i : Nat) (acc : List Tok) (v : Value), z 5 = .int .i64 i ∧ z 4 = v ∧ i ≤ s.length ∧ (s.drop i).length < m ∧ acc.length ≤ 500 ∧ tokLoop m i (s.drop i) acc = tokP s ∧ Go.Vc.Own w.heap.size 49 3 encTok w' v acc ∧ Below w.heap.size w w') (fun z w' => s.length - (intOf (z 5)).toNat) ?_ ?_
  · exact ⟨s.length + 1, 0, [], _, rfl, rfl, Nat.zero_le _, by simp, by simp, rfl, Own.nil (enc := encTok) _ _ (fun _ => rfl) _, Below.refl _ _⟩
  rintro z w' ⟨m, i, acc, v, hz5, hz4, hi, hm, hacc, hm2, hO, hb⟩
  obtain ⟨m', rfl⟩ : ∃ m', m = m' + 1 := ⟨m - 1, by omega⟩
  have hzb := hb.size
  obtain ⟨va, vc, rfl⟩ := hO.slice
  have hdl : (s.drop i).length = s.length - i := List.length_drop
  simp -dsimp only [push_cast, Nat.reduceAdd, Nat.reduceLeDiff, Nat.reduceBEq, decide_true, ne_eq, eq_self, not_true_eq_false, not_false_eq_true, true_imp_iff, false_imp_iff, Int.reduceNe, Int.reduceEq, Int.reduceLT, Int.reduceLE, Bool.not_true, Bool.not_false, hz5]
  refine ⟨fun hlt => ?_, fun hge => ?_⟩
  · obtain ⟨c, r, hcr⟩ : ∃ c r, s.drop i = c :: r := by
      cases hd : s.drop i with
      | nil => rw [hd] at hdl; simp at hdl; omega
      | cons c r => exact ⟨c, r, rfl⟩
    have hget : s.getD i 0 = c := by
      have : (s.drop i).getD 0 0 = c := by rw [hcr]; rfl
      rw [← this]; simp [List.getD_eq_getElem?_getD]
    rw [hcr] at hm2 hm hdl
    have hrl : r.length + 1 = s.length - i := by simpa using hdl
    have hstep := hm2
    rw [tokLoop] at hstep
    have hc32 : (((c.toNat : Nat) : Int) = 32) ↔ c = 32 := ⟨fun h => UInt8.toNat_inj.1 (by show c.toNat = 32; omega), fun h => by subst h; rfl⟩
    have hc10 : (((c.toNat : Nat) : Int) = 10) ↔ c = 10 := ⟨fun h => UInt8.toNat_inj.1 (by show c.toNat = 10; omega), fun h => by subst h; rfl⟩
    have hc35 : (((c.toNat : Nat) : Int) = 35) ↔ c = 35 := ⟨fun h => UInt8.toNat_inj.1 (by show c.toNat = 35; omega), fun h => by subst h; rfl⟩
    have hdr : ∀ k, s.drop (i + k) = (c :: r).drop k := fun k => by rw [← hcr, List.drop_drop]
    by_cases h32 : ((c.toNat : Nat) : Int) = 32
    · rw [if_pos (.inl (hc32.1 h32))] at hstep
      simp -dsimp only [push_cast, Nat.reduceAdd, Nat.reduceLeDiff, Nat.reduceBEq, decide_true, ne_eq, eq_self, not_true_eq_false, not_false_eq_true, true_imp_iff, false_imp_iff, Int.reduceNe, Int.reduceEq, Int.reduceLT, Int.reduceLE, Bool.not_true, Bool.not_false, hz5, hget, h32]
      refine ⟨⟨by omega, by omega⟩, ⟨by omega, by omega⟩, ⟨m', i + 1, acc, _, rfl, hz4, by omega, by rw [hdr 1]; simp; omega, hacc, by rw [hdr 1]; exact hstep, hO, hb⟩, by simp only [intOf]; omega⟩
    · by_cases h10 : ((c.toNat : Nat) : Int) = 10
      · rw [if_pos (.inr (hc10.1 h10))] at hstep
        simp -dsimp only [push_cast, Nat.reduceAdd, Nat.reduceLeDiff, Nat.reduceBEq, decide_true, ne_eq, eq_self, not_true_eq_false, not_false_eq_true, true_imp_iff, false_imp_iff, Int.reduceNe, Int.reduceEq, Int.reduceLT, Int.reduceLE, Bool.not_true, Bool.not_false, hz5, hget, h32, h10]
        refine ⟨⟨by omega, by omega⟩, ⟨by omega, by omega⟩, ⟨m', i + 1, acc, _, rfl, hz4, by omega, by rw [hdr 1]; simp; omega, hacc, by rw [hdr 1]; exact hstep, hO, hb⟩, by simp only [intOf]; omega⟩
      · rw [if_neg (fun h => h.elim (fun h => h32 (hc32.2 h)) (fun h => h10 (hc10.2 h)))] at hstep
        by_cases h35 : ((c.toNat : Nat) : Int) = 35
        · rw [if_pos (hc35.1 h35)] at hstep
          have hr := run_c _ (· != 10) noline_c (c :: r) (by rw [List.length_cons]; omega) w'
          rw [← hcr] at hr
          have hle := runP_le (· != 10) (c :: r)
          have hpos : 0 < runP (· != 10) (c :: r) := runP_pos (by rw [hc35.1 h35]; decide)
          rw [List.length_cons] at hle
          simp -dsimp only [push_cast, Nat.reduceAdd, Nat.reduceLeDiff, Nat.reduceBEq, decide_true, ne_eq, eq_self, not_true_eq_false, not_false_eq_true, true_imp_iff, false_imp_iff, Int.reduceNe, Int.reduceEq, Int.reduceLT, Int.reduceLE, Bool.not_true, Bool.not_false, hz5, hget, h32, h10, h35]
          refine ⟨⟨by omega, by omega⟩, ⟨by omega, by omega⟩, ?_⟩
          refine callK_of hr ?_
          rintro _ wq ⟨rfl, hwq⟩
          obtain rfl : w' = wq := hwq.symm
          rw [hcr]
          simp -dsimp only [push_cast, Nat.reduceAdd, Nat.reduceLeDiff, Nat.reduceBEq, decide_true, ne_eq, eq_self, not_true_eq_false, not_false_eq_true, true_imp_iff, false_imp_iff, Int.reduceNe, Int.reduceEq, Int.reduceLT, Int.reduceLE, Bool.not_true, Bool.not_false, hz5]
          refine ⟨⟨by omega, by omega⟩, ⟨m', i + runP (· != 10) (c :: r), acc, _, by push_cast; rfl, hz4, by omega, by rw [hdr]; simp; omega, hacc, by rw [hdr]; exact hstep, hO, hb⟩, by simp only [intOf]; omega⟩
        · rw [if_neg (fun h => h35 (hc35.2 h))] at hstep
          have hr := next_c c r (by rw [List.length_cons]; omega) w'
          rw [← hcr] at hr
          have hle := nextT_le c r
          rw [List.length_cons] at hle
          simp -dsimp only [push_cast, Nat.reduceAdd, Nat.reduceLeDiff, Nat.reduceBEq, decide_true, ne_eq, eq_self, not_true_eq_false, not_false_eq_true, true_imp_iff, false_imp_iff, Int.reduceNe, Int.reduceEq, Int.reduceLT, Int.reduceLE, Bool.not_true, Bool.not_false, hz5, hget, h32, h10, h35]
          refine ⟨⟨by omega, by omega⟩, ⟨by omega, by omega⟩, ?_⟩
          refine callK_of hr ?_
          rintro _ wq ⟨rfl, hwq⟩
          obtain rfl : w' = wq := hwq.symm
          rw [hcr]
          have hkn : ∃ k n, nextT (c :: r) = (k, n) := ⟨_, _, rfl⟩
          obtain ⟨k, n, hkn⟩ := hkn
          rw [hkn] at hle hstep ⊢
          dsimp only at hle hstep ⊢
          simp -dsimp only [push_cast, Nat.reduceAdd, Nat.reduceLeDiff, Nat.reduceBEq, decide_true, ne_eq, eq_self, not_true_eq_false, not_false_eq_true, true_imp_iff, false_imp_iff, Int.reduceNe, Int.reduceEq, Int.reduceLT, Int.reduceLE, Bool.not_true, Bool.not_false, hz5]
          refine ⟨fun h0 => ?_, fun h0 => ?_⟩
          ·
            refine boxK_of ?_
            intro w4 hw4
            have B4 : Blk w4 w'.heap.size 75 [.int .i64 (3 : Nat), .int .i64 i] := hw4.blk
            have b4 := hb.trans (hw4.below.mono hzb)
            simp -dsimp only [push_cast, Nat.reduceAdd, Nat.reduceLeDiff, Nat.reduceBEq, decide_true, ne_eq, eq_self, not_true_eq_false, not_false_eq_true, true_imp_iff, false_imp_iff, Int.reduceNe, Int.reduceEq, Int.reduceLT, Int.reduceLE, Bool.not_true, Bool.not_false]
            exact ⟨.inr ⟨3, i, _, by rw [← hstep, if_pos (show n = 0 by omega)], rfl, hzb, B4⟩, b4⟩
          · rw [if_neg (by omega)] at hstep
            simp -dsimp only [push_cast, Nat.reduceAdd, Nat.reduceLeDiff, Nat.reduceBEq, decide_true, ne_eq, eq_self, not_true_eq_false, not_false_eq_true, true_imp_iff, false_imp_iff, Int.reduceNe, Int.reduceEq, Int.reduceLT, Int.reduceLE, Bool.not_true, Bool.not_false, hz4]
            refine ⟨fun h500 => ?_, fun h500 => ?_⟩
            ·
              refine boxK_of ?_
              intro w4 hw4
              have B4 : Blk w4 w'.heap.size 75 [.int .i64 (4 : Nat), .int .i64 i] := hw4.blk
              have b4 := hb.trans (hw4.below.mono hzb)
              simp -dsimp only [push_cast, Nat.reduceAdd, Nat.reduceLeDiff, Nat.reduceBEq, decide_true, ne_eq, eq_self, not_true_eq_false, not_false_eq_true, true_imp_iff, false_imp_iff, Int.reduceNe, Int.reduceEq, Int.reduceLT, Int.reduceLE, Bool.not_true, Bool.not_false]
              exact ⟨.inr ⟨4, i, _, by rw [← hstep, if_pos (show acc.length = 500 by omega)], rfl, hzb, B4⟩, b4⟩
            · rw [if_neg (by omega)] at hstep
              refine ⟨⟨by omega, by omega⟩, ⟨by omega, by omega, by omega⟩, ?_⟩
              have htxt : (s.take (i + n)).drop i = (c :: r).take n := by rw [List.drop_take, hcr]; congr 1; omega
              have hpc : partCells [(0, Value.agg #[.int .i64 k, str ((s.take ((i : Int) + n).toNat).drop i), .int .i64 i])] = [(⟨k, (c :: r).take n, i⟩ : Tok)].flatMap encTok := by
                rw [show ((i : Int) + n).toNat = i + n by omega, htxt]
                rfl
              refine rowK elI_41 rfl rfl (by omega) ?_
              rw [hpc]
              intro w4 hw4
              have hO4 := hO.new hw4
              have z4' := hw4.size
              have b4 := hb.trans (hw4.below.mono hzb)
              simp -dsimp only [push_cast, Nat.reduceAdd, Nat.reduceLeDiff, Nat.reduceBEq, decide_true, ne_eq, eq_self, not_true_eq_false, not_false_eq_true, true_imp_iff, false_imp_iff, Int.reduceNe, Int.reduceEq, Int.reduceLT, Int.reduceLE, Bool.not_true, Bool.not_false]
              refine appendK2 (base := w.heap.size) [⟨k, (c :: r).take n, i⟩] (enc := encTok) elI_41 hO4 (by rfl) (fun j y hy => by rw [Nat.zero_add]; exact hw4.cell hy) encTok_one (by simp only [List.length_cons, List.length_nil]; omega) (by omega) ?_
              intro v5 w5 hO5 hg5 hn5
              have b5 := b4.trans ((Kept.grown hg5 (X := fun j => (Value.slice va acc.length vc).ownBlock = some j) (fun _ h => h)).below (B := w.heap.size) (by omega) (fun i h => (hO4.block i h).1))
              simp -dsimp only [push_cast, Nat.reduceAdd, Nat.reduceLeDiff, Nat.reduceBEq, decide_true, ne_eq, eq_self, not_true_eq_false, not_false_eq_true, true_imp_iff, false_imp_iff, Int.reduceNe, Int.reduceEq, Int.reduceLT, Int.reduceLE, Bool.not_true, Bool.not_false, hz5]
              refine ⟨⟨by omega, by omega⟩, ⟨m', i + n, acc ++ [⟨k, (c :: r).take n, i⟩], v5, by push_cast; rfl, rfl, by omega, by rw [hdr]; simp; omega, by rw [List.length_append, List.length_singleton]; omega, by rw [hdr]; exact hstep, hO5, b5⟩, by simp only [intOf]; omega⟩
  · have hpc : partCells [(0, Value.agg #[.int .i64 5, str [], .int .i64 s.length])] = [(⟨5, [], s.length⟩ : Tok)].flatMap encTok := rfl
    refine rowK elI_41 rfl rfl (by omega) ?_
    rw [hpc]
    intro w4 hw4
    have hO4 := hO.new hw4
    have z4' := hw4.size
    have b4 := hb.trans (hw4.below.mono hzb)
    have hend : s.drop i = [] := List.drop_eq_nil_iff.2 (by omega)
    have hok : tokP s = .ok (acc ++ [⟨5, [], s.length⟩]) := by
      rw [← hm2, hend, tokLoop, show i = s.length by omega]
    simp -dsimp only [push_cast, Nat.reduceAdd, Nat.reduceLeDiff, Nat.reduceBEq, decide_true, ne_eq, eq_self, not_true_eq_false, not_false_eq_true, true_imp_iff, false_imp_iff, Int.reduceNe, Int.reduceEq, Int.reduceLT, Int.reduceLE, Bool.not_true, Bool.not_false, hz4]
    refine appendK2 (base := w.heap.size) [⟨5, [], s.length⟩] (enc := encTok) elI_41 hO4 (by rfl) (fun j y hy => by rw [Nat.zero_add]; exact hw4.cell hy) encTok_one (by simp only [List.length_cons, List.length_nil]; omega) (by omega) ?_
    intro v5 w5 hO5 hg5 hn5
    have b5 := b4.trans ((Kept.grown hg5 (X := fun j => (Value.slice va acc.length vc).ownBlock = some j) (fun _ h => h)).below (B := w.heap.size) (by omega) (fun i h => (hO4.block i h).1))
    simp -dsimp only [push_cast, Nat.reduceAdd, Nat.reduceLeDiff, Nat.reduceBEq, decide_true, ne_eq, eq_self, not_true_eq_false, not_false_eq_true, true_imp_iff, false_imp_iff, Int.reduceNe, Int.reduceEq, Int.reduceLT, Int.reduceLE, Bool.not_true, Bool.not_false]
    exact ⟨.inl ⟨_, v5, hok, rfl, hO5⟩, b5⟩
end Go.Proofs.YtieaebjkbhaoaaaGreatDoor
