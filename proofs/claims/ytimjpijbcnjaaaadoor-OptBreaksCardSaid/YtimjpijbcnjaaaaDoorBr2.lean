import Derived.Test.YtimjpijbcnjaaaaDoorRm2
import Derived.Test.YtimjpijbcnjaaaaDoorBr1
import Derived.Test.YtimjpijbcnjaaaaDoorImr4
import Derived.Test.YtimjpijbcnjaaaaDoorP
namespace Go.Proofs.YtimjpijbcnjaaaaDoor
open Go.Vc Go.Proofs Go.RowKit Cae
set_option maxRecDepth 100000
set_option linter.unusedSimpArgs false
set_option linter.unusedVariables false
attribute [local irreducible] wpL callK valK unitK runK Fun Sl Own vc vcOps opK pureK
set_option maxHeartbeats 8000000
attribute [local irreducible] breaksTo saysFrom isBreak ruleMet codeRight vmatch

/-- What Run and Breaks hand back. -/
theorem run_c (p : ProgP) (ps : List Int) (hl : ProgLen p) (hps : ps.length < 1000000) (X Xp : Nat → Prop) (v pv : Value) (w : World) (hv : ProgV X w v p) (hpv : Sl Xp 1 (En encI) w pv ps) :
    Fun Tryd.prog 23 [v, pv] w fun r w' => (if progRight p then ∃ u, r = .tuple #[u, .int .i64 0] ∧ Own w.heap.size 3 1 encN w' u (breaksP p ps) else r = .tuple #[.slice none 0 0, .int .i64 1]) ∧ Below w.heap.size w w' := by
  obtain ⟨rv, rfl, hr⟩ := hv
  obtain ⟨a, c, rfl, hc⟩ := hr.shape
  obtain ⟨a3, c3, rfl, hc3⟩ := hpv.shape
  refine fun_of_vc Tryd.func23 rfl (by kernel_rfl) [4, 5] rfl ?_
  simp -dsimp only [push_cast, fr0, Tryd.ntmps23, List.length_cons, List.length_nil, Nat.reduceAdd, Nat.reduceSub, Nat.reduceBEq, List.replicate_succ, List.replicate_zero]
  refine boxK_of ?_
  intro w1 hw1
  have hw1 : New w w1 43 [.slice a p.rules.length c, .bool p.els] := hw1
  have sz1 := hw1.size
  have d1 : cellsAt w1 ⟨w.heap.size, 0, none⟩ 0 2 = some [.slice a p.rules.length c, .bool p.els] := hw1.blk.cellsAt
  simp -dsimp only [push_cast, Nat.reduceAdd, Nat.reduceLeDiff, Nat.reduceBEq, decide_true, d1]
  refine callK_of (rightProgramR_c p hl X _ w1 ⟨_, rfl, PairsV.below hr hw1.below⟩) ?_
  rintro _ w2 ⟨rfl, hb2⟩
  have sz2 := hb2.size
  have hL2 := hw1.below.trans (hb2.mono (by omega))
  cases hR : progRight p with
  | false =>
    simp -dsimp only [push_cast, Nat.reduceAdd, Nat.reduceLeDiff, Nat.reduceBEq, decide_true, ne_eq, eq_self, not_true_eq_false, not_false_eq_true, true_imp_iff, false_imp_iff, Int.reduceNe, Int.reduceEq, Int.reduceLT, Int.reduceLE, Bool.not_true, Bool.not_false, Bool.false_eq_true, if_false]
    exact hL2
  | true =>
    have hspec := progRight_spec hR
    obtain ⟨hlen, hall⟩ := hspec
    simp -dsimp only [push_cast, Nat.reduceAdd, Nat.reduceLeDiff, Nat.reduceBEq, decide_true, ne_eq, eq_self, not_true_eq_false, not_false_eq_true, true_imp_iff, false_imp_iff, Int.reduceNe, Int.reduceEq, Int.reduceLT, Int.reduceLE, Bool.not_true, Bool.not_false]
    refine wpL_loop [6, 7, 8, 9, 10, 11, 12, 13, 14, 15, 16, 17, 21, 22, 23, 24, 25, 26, 27, 28, 29, 30, 31, 32, 33, 34, 35, 36, 37, 38, 39, 40, 41, 42, 43, 44, 45, 46, 47, 48, 49, 50, 51, 52, 53, 54, 55, 56, 57, 58, 59, 60, 61, 62, 63, 64, 65, 66, 67, 68, 69, 70, 71, 72, 73, 74, 75, 76, 77, 78, 79, 80, 81, 82, 83, 84, 85, 86, 87, 88, 89, 90, 91, 92, 93, 94, 95, 96] (fun z wx => ∃ (i : Nat) (u : Value), z 7 = .int .i64 i ∧ z 6 = u ∧ i ≤ ps.length + 1 ∧ (ps = [] → i = 0) ∧ Own w1.heap.size 3 1 encN wx u (breaksTo p ps i) ∧ Below w1.heap.size w1 wx) (fun z _ => ps.length + 1 - (intOf (z 7)).toNat) ?_ ?_
    · refine ⟨0, _, rfl, rfl, by omega, fun _ => rfl, ?_, hb2⟩
      rw [breaksTo_zero]
      exact Own.nil (enc := encN) _ _ (fun _ => rfl) _
    · intro z wx hI
      obtain ⟨i, u, h7, h6, hi, hnil, ho, hbx⟩ := hI
      have hsl := ho.slice
      obtain ⟨ua, uc, rfl⟩ := hsl
      have hLx : Below w.heap.size w wx := hw1.below.trans (hbx.mono (by omega))
      have szx := hbx.size
      have hbl := breaksTo_len p ps i
      simp -dsimp only [push_cast, Nat.reduceAdd, Nat.reduceLeDiff, Nat.reduceBEq, decide_true, ne_eq, eq_self, not_true_eq_false, not_false_eq_true, true_imp_iff, false_imp_iff, Int.reduceNe, Int.reduceEq, Int.reduceLT, Int.reduceLE, Bool.not_true, Bool.not_false, h7, h6]
      have hdone : (ps = [] ∨ ps.length < i) → breaksTo p ps i = breaksP p ps := fun h => by
        unfold breaksP
        by_cases h0 : ps = []
        · rw [if_pos h0, hnil h0]; exact breaksTo_zero p ps
        · rw [if_neg h0]
          have : i = ps.length + 1 := by
            rcases h with h | h
            · exact absurd h h0
            · omega
          rw [this]
      refine ⟨fun hle => ⟨fun hpos => ?_, fun hzero => ?_⟩, fun hgt => ?_⟩
      · have hi' : i ≤ ps.length := by omega
        refine callK_of (sides_c ps i hi' (by omega) Xp _ wx (hpv.below hLx)) ?_
        rintro _ w3 ⟨⟨v1, v2, rfl, ho1, hs2⟩, hb3⟩
        have sz3 := hb3.size
        have hs1 := ho1.sl
        have hP3 : Blk w3 w.heap.size 43 [.slice a p.rules.length c, .bool p.els] := (hw1.blk.below hbx (by omega)).below hb3 (by omega)
        have e0 : w3.cell? ⟨w.heap.size, 0, none⟩ = some (.slice a p.rules.length c) := hP3.cell rfl
        have e1 : w3.cell? ⟨w.heap.size, 1, none⟩ = some (.bool p.els) := hP3.cell rfl
        have hb3' : Below w1.heap.size w1 w3 := hbx.trans (hb3.mono (by omega))
        have ho3 := ho.below (hb3.mono (Nat.le_refl _))
        simp -dsimp only [push_cast, Nat.reduceAdd, Nat.reduceLeDiff, Nat.reduceBEq, decide_true, ne_eq, eq_self, not_true_eq_false, not_false_eq_true, true_imp_iff, false_imp_iff, Int.reduceNe, Int.reduceEq, Int.reduceLT, Int.reduceLE, Bool.not_true, Bool.not_false, e0, e1]
        refine ⟨⟨by omega, by omega⟩, ?_⟩
        refine wpL_loop [10, 11, 12, 13, 14, 15, 16, 17, 44, 45, 46, 47, 48, 49, 50, 51, 52, 53, 54, 55, 56, 57, 58, 59, 60, 61, 62, 63, 64, 65, 66, 67, 68, 69, 70, 71, 72, 73, 74, 75, 76, 77, 78, 79, 80, 81] (fun z' wy => ∃ (k : Nat), z' 11 = .int .i64 ((k : Int) - 1) ∧ z' 10 = .bool (saysFrom p ps i k) ∧ k ≤ p.rules.length ∧ Below w3.heap.size w3 wy) (fun z' _ => (intOf (z' 11) + 1).toNat) ?_ ?_
        · exact ⟨p.rules.length, rfl, by rw [saysFrom_end p ps i _ (Nat.le_refl _)]; rfl, Nat.le_refl _, Below.refl _ _⟩
        · intro z' wy hI
          obtain ⟨k, h11, h10, hk, hby⟩ := hI
          have szy := hby.size
          have hPy := hP3.below hby (by omega)
          have hLy : Below w.heap.size w wy := hLx.trans ((hb3.mono (by omega)).trans (hby.mono (by omega)))
          have hb1y : Below w1.heap.size w1 wy := hb3'.trans (hby.mono (by omega))
          cases k with
          | zero =>
            have h11' : z' 11 = .int .i64 (-1) := h11
            have hsb : ∃ sb, saysFrom p ps i 0 = sb := ⟨_, rfl⟩
            obtain ⟨sb, hsb⟩ := hsb
            rw [hsb] at h10
            have ho4 := ho3.below (hby.mono (Nat.le_refl _))
            have szk := hb1y.size
            have hyes : (sb = true ∨ i = 0 ∨ i = ps.length) → breaksTo p ps (i + 1) = breaksTo p ps i ++ [i] := fun h => by
              rw [breaksTo_succ, if_pos]
              unfold isBreak
              rw [hsb]
              rcases h with h | h | h
              · rw [h]; rfl
              · rw [decide_eq_true h, Bool.or_true, Bool.true_or]
              · rw [decide_eq_true h, Bool.or_true]
            have hno : sb = false → i ≠ 0 → i ≠ ps.length → breaksTo p ps (i + 1) = breaksTo p ps i := fun h1 h2 h3 => by
              rw [breaksTo_succ, if_neg]
              unfold isBreak
              rw [hsb, h1, decide_eq_false h2, decide_eq_false h3]
              simp
            have hnil1 : ps = [] → i + 1 = 0 := fun h => by subst h; simp at hpos
            cases sb with
            | true =>
              simp -dsimp only [push_cast, Nat.reduceAdd, Nat.reduceLeDiff, Nat.reduceBEq, decide_true, ne_eq, eq_self, not_true_eq_false, not_false_eq_true, true_imp_iff, false_imp_iff, Int.reduceNe, Int.reduceEq, Int.reduceLT, Int.reduceLE, Bool.not_true, Bool.not_false, h11', h10]
              have hy := hyes (.inl rfl)
              refine rowK elI_26 rfl rfl (by omega) ?_
              intro w6 hw6
              have sz6 := hw6.size
              simp -dsimp only [push_cast, Nat.reduceAdd, Nat.reduceLeDiff, Nat.reduceBEq, decide_true, ne_eq, eq_self, not_true_eq_false, not_false_eq_true, true_imp_iff, false_imp_iff, Int.reduceNe, Int.reduceEq, Int.reduceLT, Int.reduceLE, Bool.not_true, Bool.not_false]
              refine appendK2 (base := w1.heap.size) [i] (enc := encN) elI_26 (ho4.new hw6) (by rfl) (fun j u hu => by simpa [encN] using hw6.cell hu) (by simp [encN, Value.oneCell']) (by simp only [List.length_cons, List.length_nil]; omega) (by omega) ?_
              intro v' w7 ho7 hg7 hn7
              have hk7 : Kept (fun j => (Value.slice ua (breaksTo p ps i).length uc).ownBlock = some j) w6 w7 := Kept.grown hg7 (fun _ h => h)
              have hb7 : Below w1.heap.size w1 w7 := hb1y.trans ((hw6.below.mono szk).trans (hk7.below (by omega) (fun g h => (ho4.block g h).1)))
              simp -dsimp only [push_cast, Nat.reduceAdd, Nat.reduceLeDiff, Nat.reduceBEq, decide_true, ne_eq, eq_self, not_true_eq_false, not_false_eq_true, true_imp_iff, false_imp_iff, Int.reduceNe, Int.reduceEq, Int.reduceLT, Int.reduceLE, Bool.not_true, Bool.not_false]
              rw [← hy] at ho7
              exact ⟨⟨by omega, by omega⟩, ⟨i + 1, _, rfl, rfl, by omega, hnil1, ho7, hb7⟩, by rw [h7]; simp only [intOf]; omega⟩
            | false =>
              simp -dsimp only [push_cast, Nat.reduceAdd, Nat.reduceLeDiff, Nat.reduceBEq, decide_true, ne_eq, eq_self, not_true_eq_false, not_false_eq_true, true_imp_iff, false_imp_iff, Int.reduceNe, Int.reduceEq, Int.reduceLT, Int.reduceLE, Bool.not_true, Bool.not_false, h11', h10]
              refine ⟨fun hi0 => ⟨fun hil => ?_, fun hil => ?_⟩, fun hi0 => ?_⟩
              · have hy := hyes (.inr (.inr (by omega)))
                refine rowK elI_26 rfl rfl (by omega) ?_
                intro w6 hw6
                have sz6 := hw6.size
                simp -dsimp only [push_cast, Nat.reduceAdd, Nat.reduceLeDiff, Nat.reduceBEq, decide_true, ne_eq, eq_self, not_true_eq_false, not_false_eq_true, true_imp_iff, false_imp_iff, Int.reduceNe, Int.reduceEq, Int.reduceLT, Int.reduceLE, Bool.not_true, Bool.not_false]
                refine appendK2 (base := w1.heap.size) [i] (enc := encN) elI_26 (ho4.new hw6) (by rfl) (fun j u hu => by simpa [encN] using hw6.cell hu) (by simp [encN, Value.oneCell']) (by simp only [List.length_cons, List.length_nil]; omega) (by omega) ?_
                intro v' w7 ho7 hg7 hn7
                have hk7 : Kept (fun j => (Value.slice ua (breaksTo p ps i).length uc).ownBlock = some j) w6 w7 := Kept.grown hg7 (fun _ h => h)
                have hb7 : Below w1.heap.size w1 w7 := hb1y.trans ((hw6.below.mono szk).trans (hk7.below (by omega) (fun g h => (ho4.block g h).1)))
                simp -dsimp only [push_cast, Nat.reduceAdd, Nat.reduceLeDiff, Nat.reduceBEq, decide_true, ne_eq, eq_self, not_true_eq_false, not_false_eq_true, true_imp_iff, false_imp_iff, Int.reduceNe, Int.reduceEq, Int.reduceLT, Int.reduceLE, Bool.not_true, Bool.not_false]
                rw [← hy] at ho7
                exact ⟨⟨by omega, by omega⟩, ⟨i + 1, _, rfl, rfl, by omega, hnil1, ho7, hb7⟩, by rw [h7]; simp only [intOf]; omega⟩
              · have hy := hno rfl (by omega) (by omega)
                have ho5 : Own w1.heap.size 3 1 encN wy (.slice ua (breaksTo p ps i).length uc) (breaksTo p ps (i + 1)) := by rw [hy]; exact ho4
                exact ⟨⟨by omega, by omega⟩, ⟨i + 1, _, rfl, rfl, by omega, hnil1, ho5, hb1y⟩, by rw [h7]; simp only [intOf]; omega⟩
              · have hy := hyes (.inr (.inl (by omega)))
                refine rowK elI_26 rfl rfl (by omega) ?_
                intro w6 hw6
                have sz6 := hw6.size
                simp -dsimp only [push_cast, Nat.reduceAdd, Nat.reduceLeDiff, Nat.reduceBEq, decide_true, ne_eq, eq_self, not_true_eq_false, not_false_eq_true, true_imp_iff, false_imp_iff, Int.reduceNe, Int.reduceEq, Int.reduceLT, Int.reduceLE, Bool.not_true, Bool.not_false]
                refine appendK2 (base := w1.heap.size) [i] (enc := encN) elI_26 (ho4.new hw6) (by rfl) (fun j u hu => by simpa [encN] using hw6.cell hu) (by simp [encN, Value.oneCell']) (by simp only [List.length_cons, List.length_nil]; omega) (by omega) ?_
                intro v' w7 ho7 hg7 hn7
                have hk7 : Kept (fun j => (Value.slice ua (breaksTo p ps i).length uc).ownBlock = some j) w6 w7 := Kept.grown hg7 (fun _ h => h)
                have hb7 : Below w1.heap.size w1 w7 := hb1y.trans ((hw6.below.mono szk).trans (hk7.below (by omega) (fun g h => (ho4.block g h).1)))
                simp -dsimp only [push_cast, Nat.reduceAdd, Nat.reduceLeDiff, Nat.reduceBEq, decide_true, ne_eq, eq_self, not_true_eq_false, not_false_eq_true, true_imp_iff, false_imp_iff, Int.reduceNe, Int.reduceEq, Int.reduceLT, Int.reduceLE, Bool.not_true, Bool.not_false]
                rw [← hy] at ho7
                exact ⟨⟨by omega, by omega⟩, ⟨i + 1, _, rfl, rfl, by omega, hnil1, ho7, hb7⟩, by rw [h7]; simp only [intOf]; omega⟩
          | succ m =>
            have h11' : z' 11 = .int .i64 (m : Int) := by rw [h11]; congr 1; omega
            have hg := lt_get (l := p.rules) (i := m) (by omega)
            obtain ⟨r, hrk, hrm, _⟩ := hg
            have hg := Sl.getR (PairsV.below hr hLy) hrk
            obtain ⟨b, o, cs, rfl, hX, hk5, hcell, hRr⟩ := hg
            obtain ⟨s1, i1, s2, i2, rfl, h1, h2⟩ := hRr
            have q0 : wy.cell? ⟨w.heap.size, 0, none⟩ = some (.slice (some ⟨b, o, none⟩) p.rules.length c) := hPy.cell rfl
            have c0 : wy.cell? ⟨b, o + m * 5, none⟩ = some (.bool r.brk) := by simpa using hcell 0 _ rfl
            have cA : ∀ (d : Nat) (x y : Value), [Value.bool r.brk, s1, i1, s2, i2][d]? = some x → [Value.bool r.brk, s1, i1, s2, i2][d + 1]? = some y → ∀ w', (∀ j u, [Value.bool r.brk, s1, i1, s2, i2][j]? = some u → w'.cell? ⟨b, o + m * 5 + j, none⟩ = some u) → cellsAt w' ⟨b, o + m * 5 + d, none⟩ 0 2 = some [x, y] := fun d x y hx hy w' hc => cellsAt_of [x, y] 0 (fun j u hu => by
              match j, hu with
              | 0, hu =>
                cases hu
                simpa using hc d _ hx
              | 1, hu =>
                cases hu
                simpa [Nat.add_assoc] using hc (d + 1) _ hy)
            have ce1 := cA 1 s1 i1 rfl rfl wy hcell
            simp -dsimp only [push_cast, Nat.reduceAdd, Nat.reduceLeDiff, Nat.reduceBEq, decide_true, ne_eq, eq_self, not_true_eq_false, not_false_eq_true, true_imp_iff, false_imp_iff, Int.reduceNe, Int.reduceEq, Int.reduceLT, Int.reduceLE, Bool.not_true, Bool.not_false, h11', h10, q0, ce1]
            have hcr := hall r hrm
            refine ⟨fun _ => ⟨⟨by omega, by omega⟩, ?_⟩, fun h => absurd h (by omega)⟩
            have hcon := matchR_c r.before (ps.take i).reverse (hl.2 r hrm).1 (by rw [List.length_reverse, List.length_take]; omega) X _ _ v1 wy h1 (hs1.below hby)
            unfold MatchRV at hcon
            rw [if_pos hcr.1] at hcon
            have e1 : (vmatch r.before (ps.take i).reverse).1 = decide ((vmatch r.before (ps.take i).reverse).1 = true) := by simp
            rw [e1] at hcon
            refine callK_of hcon ?_
            rintro _ w4 ⟨rfl, hb4⟩
            have sz4 := hb4.size
            have hk4 : Kept (fun _ => False) wy w4 := Kept.of_below hb4 (fun j h1 h2 => absurd h2 (by omega))
            have q4 := hk4.cell q0 id
            have ce3 := cA 3 s2 i2 rfl rfl w4 (fun j u hu => hk4.cell (hcell j u hu) id)
            simp -dsimp only [push_cast, Nat.reduceAdd, Nat.reduceLeDiff, Nat.reduceBEq, decide_true, ne_eq, eq_self, not_true_eq_false, not_false_eq_true, true_imp_iff, false_imp_iff, Int.reduceNe, Int.reduceEq, Int.reduceLT, Int.reduceLE, Bool.not_true, Bool.not_false, h11', h10, q4, ce3]
            refine ⟨⟨by omega, by omega⟩, ?_⟩
            have hcon := matchR_c r.after (ps.drop i) (hl.2 r hrm).2 (by rw [List.length_drop]; omega) X _ _ v2 w4 (h2.below hb4) ((hs2.below hby).below hb4)
            unfold MatchRV at hcon
            rw [if_pos hcr.2] at hcon
            have e2 : (vmatch r.after (ps.drop i)).1 = decide ((vmatch r.after (ps.drop i)).1 = true) := by simp
            rw [e2] at hcon
            refine callK_of hcon ?_
            rintro _ w5 ⟨rfl, hb5⟩
            have sz5 := hb5.size
            have hk5 : Kept (fun _ => False) w4 w5 := Kept.of_below hb5 (fun j h1 h2 => absurd h2 (by omega))
            have q5 := hk5.cell q4 id
            have c5 := hk5.cell (hk4.cell c0 id) id
            simp -dsimp only [push_cast, Nat.reduceAdd, Nat.reduceLeDiff, Nat.reduceBEq, decide_true, ne_eq, eq_self, not_true_eq_false, not_false_eq_true, true_imp_iff, false_imp_iff, Int.reduceNe, Int.reduceEq, Int.reduceLT, Int.reduceLE, Bool.not_true, Bool.not_false, h11', h10, q5, c5]
            have hb35 : Below w3.heap.size w3 w5 := hby.trans ((hb4.mono szy).trans (hb5.mono (by omega)))
            have hst := saysFrom_step (ps := ps) (i := i) hrk
            have hyes : (vmatch r.before (ps.take i).reverse).1 = true → (vmatch r.after (ps.drop i)).1 = true → saysFrom p ps i m = r.brk := fun h1 h2 => by
              rw [hst, if_pos]
              unfold ruleMet
              rw [h1, h2]; rfl
            have hno : ((vmatch r.before (ps.take i).reverse).1 ≠ true ∨ (vmatch r.after (ps.drop i)).1 ≠ true) → saysFrom p ps i m = saysFrom p ps i (m + 1) := fun h => by
              rw [hst, if_neg]
              unfold ruleMet
              rw [Bool.and_eq_true]
              rintro ⟨h1, h2⟩
              rcases h with h | h
              · exact h h1
              · exact h h2
            refine ⟨fun hm1 => ⟨fun hm2 => ⟨⟨by omega, by omega⟩, ⟨by omega, by omega⟩, ⟨m, rfl, ?_, by omega, hb35⟩, ?_⟩, fun hm2 => ⟨⟨by omega, by omega⟩, ⟨m, rfl, ?_, by omega, hb35⟩, ?_⟩⟩, fun hm1 => ⟨⟨by omega, by omega⟩, ⟨m, rfl, ?_, by omega, hb35⟩, ?_⟩⟩
            · rw [hyes hm1 hm2]
            · simp only [intOf]; omega
            · rw [hno (.inr hm2)]
            · simp only [intOf]; omega
            · rw [hno (.inl hm1)]
            · simp only [intOf]; omega
      · have h0 : ps = [] := List.eq_nil_of_length_eq_zero (by omega)
        rw [← hdone (.inl h0)]
        exact ⟨⟨_, rfl, ho.mono (by omega)⟩, hLx⟩
      · rw [← hdone (.inr (by omega))]
        exact ⟨⟨_, rfl, ho.mono (by omega)⟩, hLx⟩
end Go.Proofs.YtimjpijbcnjaaaaDoor
