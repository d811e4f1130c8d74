import Derived.Test.YtimjpijbcnjaaaaDoorBr2
namespace Go.Proofs.YtimjpijbcnjaaaaDoor
open Go.Vc Go.Proofs Go.RowKit Cae
set_option maxRecDepth 100000
set_option linter.unusedSimpArgs false
set_option linter.unusedVariables false
attribute [local irreducible] wpL callK valK unitK runK Fun Sl Own vc vcOps opK pureK
set_option maxHeartbeats 8000000
attribute [local irreducible] breaksTo saysFrom isBreak ruleMet codeRight vmatch

theorem breaks_c (p : ProgP) (ps : List Int) (hl : ProgLen p) (hps : ps.length < 1000000) (X Xp : Nat → Prop) (v pv : Value) (w : World) (hv : ProgV X w v p) (hpv : Sl Xp 1 (En encI) w pv ps) (hap : Arg pv) :
    Fun Tryd.prog 24 [v, pv] w fun r w' => (if progRight p then ∃ u, r = .tuple #[u, .nilIface] ∧ Own w.heap.size 3 1 encN w' u (breaksP p ps) else r = .tuple #[.slice none 0 0, .iface 33 (.int .i64 1)]) ∧ Below w.heap.size w w' := by
  obtain ⟨rv, rfl, hr⟩ := hv
  obtain ⟨a, c, rfl, hc⟩ := hr.shape
  obtain ⟨a3, c3, rfl, hc3⟩ := hpv.shape
  refine fun_of_vc Tryd.func24 rfl (by kernel_rfl) [4, 5] rfl ?_
  simp -dsimp only [push_cast, fr0, Tryd.ntmps24, List.length_cons, List.length_nil, Nat.reduceAdd, Nat.reduceSub, Nat.reduceBEq, List.replicate_succ, List.replicate_zero]
  refine boxK_of ?_
  intro w1 hw1
  have hw1 : New w w1 43 [.slice a p.rules.length c, .bool p.els] := hw1
  have sz1 := hw1.size
  have d1 : cellsAt w1 ⟨w.heap.size, 0, none⟩ 0 2 = some [.slice a p.rules.length c, .bool p.els] := hw1.blk.cellsAt
  simp -dsimp only [push_cast, Nat.reduceAdd, Nat.reduceLeDiff, Nat.reduceBEq, decide_true, d1]
  refine callK_of (rightProgram_c p hl X _ w1 ⟨_, rfl, PairsV.below hr hw1.below⟩) ?_
  rintro _ w2 ⟨rfl, hb2⟩
  have sz2 := hb2.size
  have hL2 := hw1.below.trans (hb2.mono (by omega))
  cases hR : progRight p with
  | false =>
    simp -dsimp only [push_cast, Nat.reduceAdd, Nat.reduceLeDiff, Nat.reduceBEq, decide_true, ne_eq, eq_self, not_true_eq_false, not_false_eq_true, true_imp_iff, false_imp_iff, Int.reduceNe, Int.reduceEq, Int.reduceLT, Int.reduceLE, Bool.not_true, Bool.not_false, Bool.false_eq_true, if_false]
    exact hL2
  | true =>
    have hspec := progRight_spec hR
    obtain ⟨hlen, hall⟩ := hspec
    simp -dsimp only [push_cast, Nat.reduceAdd, Nat.reduceLeDiff, Nat.reduceBEq, decide_true, ne_eq, eq_self, not_true_eq_false, not_false_eq_true, true_imp_iff, false_imp_iff, Int.reduceNe, Int.reduceEq, Int.reduceLT, Int.reduceLE, Bool.not_true, Bool.not_false]
    refine wpL_loop [4, 5, 6, 7, 8, 9, 11, 12, 13, 14, 15, 16, 17, 22, 23, 24, 25, 26, 27, 28, 29, 30, 31, 32, 33, 34, 35, 36, 37, 38, 39, 40, 41, 42, 43, 44, 45, 46, 47, 48, 49, 50, 51, 52, 53, 54, 55, 56, 57, 58, 59, 60, 61, 62, 63, 64, 65, 66, 67, 68, 69, 70, 71, 72, 73, 74, 75, 76, 77, 78, 79, 80, 81, 82, 83, 84, 85, 86, 87, 88, 89, 90, 91, 92, 93] (fun z wx => ∃ (i : Nat) (u : Value), z 7 = .int .i64 i ∧ z 6 = u ∧ i ≤ ps.length + 1 ∧ (ps = [] → i = 0) ∧ Own w1.heap.size 3 1 encN wx u (breaksTo p ps i) ∧ Below w1.heap.size w1 wx) (fun z _ => ps.length + 1 - (intOf (z 7)).toNat) ?_ ?_
    · refine ⟨0, _, rfl, rfl, by omega, fun _ => rfl, ?_, hb2⟩
      rw [breaksTo_zero]
      exact Own.nil (enc := encN) _ _ (fun _ => rfl) _
    · intro z wx hI
      obtain ⟨i, u, h7, h6, hi, hnil, ho, hbx⟩ := hI
      have hsl := ho.slice
      obtain ⟨ua, uc, rfl⟩ := hsl
      have hLx : Below w.heap.size w wx := hw1.below.trans (hbx.mono (by omega))
      have szx := hbx.size
      have hbl := breaksTo_len p ps i
      simp -dsimp only [push_cast, Nat.reduceAdd, Nat.reduceLeDiff, Nat.reduceBEq, decide_true, ne_eq, eq_self, not_true_eq_false, not_false_eq_true, true_imp_iff, false_imp_iff, Int.reduceNe, Int.reduceEq, Int.reduceLT, Int.reduceLE, Bool.not_true, Bool.not_false, h7, h6]
      have hdone : (ps = [] ∨ ps.length < i) → breaksTo p ps i = breaksP p ps := fun h => by
        unfold breaksP
        by_cases h0 : ps = []
        · rw [if_pos h0, hnil h0]; exact breaksTo_zero p ps
        · rw [if_neg h0]
          have : i = ps.length + 1 := by
            rcases h with h | h
            · exact absurd h h0
            · omega
          rw [this]
      refine ⟨fun hle => ⟨fun hpos => ?_, fun hzero => ?_⟩, fun hgt => ?_⟩
      · have hi' : i ≤ ps.length := by omega
        have hpx := hpv.below hLx
        refine sliceHiK hpx hi' ?_
        intro hs1
        simp -dsimp only [push_cast, Nat.reduceAdd, Nat.reduceLeDiff, Nat.reduceBEq, decide_true, ne_eq, eq_self, not_true_eq_false, not_false_eq_true, true_imp_iff, false_imp_iff, Int.reduceNe, Int.reduceEq, Int.reduceLT, Int.reduceLE, Bool.not_true, Bool.not_false]
        refine callK_of (clone_c (ps.take i) (by rw [List.length_take]; omega) Xp _ wx hs1 (fun n c h => by
          have := hap ps.length c3 (by cases h; rfl)
          cases h
          omega)) ?_
        rintro v1 w3 ⟨ho1, hb3⟩
        have sz3 := hb3.size
        simp -dsimp only [push_cast, Nat.reduceAdd, Nat.reduceLeDiff, Nat.reduceBEq, decide_true, ne_eq, eq_self, not_true_eq_false, not_false_eq_true, true_imp_iff, false_imp_iff, Int.reduceNe, Int.reduceEq, Int.reduceLT, Int.reduceLE, Bool.not_true, Bool.not_false]
        refine callK_of (reverse_c (ps.take i) wx.heap.size v1 w3 (by rw [List.length_take]; omega) ho1 (by omega)) ?_
        rintro _ w4 ⟨ho2, hb4⟩
        have sz4 := hb4.size
        have hb34 : Below wx.heap.size wx w4 := hb3.trans hb4
        have hs1' := ho2.sl
        have hb4' : Below w1.heap.size w1 w4 := hbx.trans (hb34.mono (by omega))
        have hP4 : Blk w4 w.heap.size 43 [.slice a p.rules.length c, .bool p.els] := hw1.blk.below hb4' (by omega)
        have e0 : w4.cell? ⟨w.heap.size, 0, none⟩ = some (.slice a p.rules.length c) := hP4.cell rfl
        have e1 : w4.cell? ⟨w.heap.size, 1, none⟩ = some (.bool p.els) := hP4.cell rfl
        have hL4 := hLx.trans (hb34.mono (by omega))
        have ho3 := ho.below (hb34.mono (Nat.le_refl _))
        have hsb : ∃ sb, saysFrom p ps i 0 = sb := ⟨_, rfl⟩
        obtain ⟨sb, hsb⟩ := hsb
        have hyes : (sb = true ∨ i = 0 ∨ i = ps.length) → breaksTo p ps (i + 1) = breaksTo p ps i ++ [i] := fun h => by
          rw [breaksTo_succ, if_pos]
          unfold isBreak
          rw [hsb]
          rcases h with h | h | h
          · rw [h]; rfl
          · rw [decide_eq_true h, Bool.or_true, Bool.true_or]
          · rw [decide_eq_true h, Bool.or_true]
        have hno : sb = false → i ≠ 0 → i ≠ ps.length → breaksTo p ps (i + 1) = breaksTo p ps i := fun h1 h2 h3 => by
          rw [breaksTo_succ, if_neg]
          unfold isBreak
          rw [hsb, h1, decide_eq_false h2, decide_eq_false h3]
          simp
        have hnil1 : ps = [] → i + 1 = 0 := fun h => by subst h; simp at hpos
        simp -dsimp only [push_cast, Nat.reduceAdd, Nat.reduceLeDiff, Nat.reduceBEq, decide_true, ne_eq, eq_self, not_true_eq_false, not_false_eq_true, true_imp_iff, false_imp_iff, Int.reduceNe, Int.reduceEq, Int.reduceLT, Int.reduceLE, Bool.not_true, Bool.not_false, e0, e1]
        refine wpL_loop [4, 5, 9, 11, 12, 13, 14, 15, 16, 17, 44, 45, 46, 47, 48, 49, 50, 51, 52, 53, 54, 55, 56, 57, 58, 59, 60, 61, 62, 63, 64, 65, 66, 67, 68, 69, 70, 71, 72, 73, 74, 75, 76, 77, 78] (fun z' wy => ∃ (k : Nat), z' 44 = .int .i64 k ∧ z' 9 = .bool p.els ∧ k ≤ p.rules.length ∧ saysFrom p ps i 0 = saysFrom p ps i k ∧ Below w4.heap.size w4 wy) (fun z' _ => p.rules.length - (intOf (z' 44)).toNat) ?_ ?_
        · exact ⟨0, rfl, rfl, Nat.zero_le _, rfl, Below.refl _ _⟩
        · intro z' wy hI
          obtain ⟨k, h44, h9, hk, hsk, hby⟩ := hI
          have szy := hby.size
          have hLy : Below w.heap.size w wy := hL4.trans (hby.mono (by omega))
          have hb1y : Below w1.heap.size w1 wy := hb4'.trans (hby.mono (by omega))
          rcases Nat.lt_or_ge k p.rules.length with hlt | hge
          · have hg := lt_get (l := p.rules) (i := k) hlt
            obtain ⟨r, hrk, hrm, _⟩ := hg
            have hg := Sl.getR (PairsV.below hr hLy) hrk
            obtain ⟨b, o, cs, rfl, hX, hk5, hcell, hRr⟩ := hg
            obtain ⟨s1, i1, s2, i2, rfl, h1, h2⟩ := hRr
            have ce : cellsAt wy ⟨b, o + k * 5, none⟩ 0 5 = some [.bool r.brk, s1, i1, s2, i2] := cellsAt_of [.bool r.brk, s1, i1, s2, i2] 0 (fun j u hu => by simpa using hcell j u hu)
            simp -dsimp only [push_cast, Nat.reduceAdd, Nat.reduceLeDiff, Nat.reduceBEq, decide_true, ne_eq, eq_self, not_true_eq_false, not_false_eq_true, true_imp_iff, false_imp_iff, Int.reduceNe, Int.reduceEq, Int.reduceLT, Int.reduceLE, Bool.not_true, Bool.not_false, h44, h9, ce]
            refine ⟨fun _ => ⟨⟨by omega, by omega⟩, ?_⟩, fun h => absurd h (by omega)⟩
            have hcr := hall r hrm
            have hlr := hl.2 r hrm
            refine allocK (z := [.bool false, .slice none 0 0, .slice none 0 0, .slice none 0 0, .slice none 0 0]) (by kernel_rfl) ?_
            intro wa hwa
            simp -dsimp only [push_cast, Nat.reduceAdd, Nat.reduceLeDiff, Nat.reduceBEq, decide_true]
            refine storeAgg (n := 5) (by kernel_rfl) hwa.blk rfl (by simp) (by
              obtain ⟨_, _, e1, g1, g2⟩ := h1; cases e1; obtain ⟨_, _, rfl, _⟩ := g1.shape; obtain ⟨_, _, rfl, _⟩ := g2.shape
              obtain ⟨_, _, e2, g3, g4⟩ := h2; cases e2; obtain ⟨_, _, rfl, _⟩ := g3.shape; obtain ⟨_, _, rfl, _⟩ := g4.shape
              simp [Value.oneCell']) ?_
            intro wb hwb
            have sza := hwa.size
            have szb := hwb.size
            have hbyb : Below wy.heap.size wy wb := hwa.below.trans (hwb.kept.below (by omega) (fun _ h => by omega))
            have hBb : Blk wb wy.heap.size 61 [.bool r.brk, s1, i1, s2, i2] := hwb.blk
            have f1 : cellsAt wb ⟨wy.heap.size, 1, none⟩ 0 2 = some [s1, i1] := blkSome (n := 2) (xs := [s1, i1]) hBb 1 rfl rfl
            have hLb := hLy.trans (hbyb.mono (by omega))
            have hb4b : Below w4.heap.size w4 wb := hby.trans (hbyb.mono szy)
            have hcon := match_c r.before (ps.take i).reverse hlr.1.1 hlr.1.2.1 hlr.1.2.2 (by rw [List.length_reverse, List.length_take]; omega) X _ _ v1 wb (h1.below hbyb) (hs1'.below hb4b)
            unfold MatchV at hcon
            rw [if_pos hcr.1] at hcon
            have e1 : (vmatch r.before (ps.take i).reverse).1 = decide ((vmatch r.before (ps.take i).reverse).1 = true) := by simp
            rw [e1] at hcon
            simp -dsimp only [push_cast, Nat.reduceAdd, Nat.reduceLeDiff, Nat.reduceBEq, decide_true, ne_eq, eq_self, not_true_eq_false, not_false_eq_true, true_imp_iff, false_imp_iff, Int.reduceNe, Int.reduceEq, Int.reduceLT, Int.reduceLE, Bool.not_true, Bool.not_false, f1]
            refine callK_of hcon ?_
            rintro _ wc ⟨rfl, hbc⟩
            have szc := hbc.size
            have hBc := hBb.below hbc (by omega)
            have hb4c : Below w4.heap.size w4 wc := hb4b.trans (hbc.mono (by omega))
            have hst := saysFrom_step (ps := ps) (i := i) hrk
            have hyesr : (vmatch r.before (ps.take i).reverse).1 = true → (vmatch r.after (ps.drop i)).1 = true → r.brk = sb := fun h1 h2 => by
              rw [← hsb, hsk, hst, if_pos]
              unfold ruleMet
              rw [h1, h2]; rfl
            have hnor : ((vmatch r.before (ps.take i).reverse).1 ≠ true ∨ (vmatch r.after (ps.drop i)).1 ≠ true) → saysFrom p ps i 0 = saysFrom p ps i (k + 1) := fun h => by
              rw [hsk, hst, if_neg]
              unfold ruleMet
              rw [Bool.and_eq_true]
              rintro ⟨h1, h2⟩
              rcases h with h | h
              · exact h h1
              · exact h h2
            simp -dsimp only [push_cast, Nat.reduceAdd, Nat.reduceLeDiff, Nat.reduceBEq, decide_true, ne_eq, eq_self, not_true_eq_false, not_false_eq_true, true_imp_iff, false_imp_iff, Int.reduceNe, Int.reduceEq, Int.reduceLT, Int.reduceLE, Bool.not_true, Bool.not_false]
            refine ⟨fun hm1 => ⟨⟨by omega, by omega⟩, ⟨k + 1, rfl, by omega, hnor (.inl hm1), hb4c⟩, by rw [h44]; simp only [intOf]; omega⟩, fun hm1 => ?_⟩
            have hm1 : (vmatch r.before (ps.take i).reverse).1 = true := Classical.byContradiction hm1
            refine wpL_draw (fun w' => Blk w' wy.heap.size 61 [.bool r.brk, s1, i1, s2, i2]) mixed (by kernel_rfl) hBc.drew ?_
            have f2 : ∀ w' : World, Blk w' wy.heap.size 61 [.bool r.brk, s1, i1, s2, i2] → cellsAt w' ⟨wy.heap.size, 3, none⟩ 0 2 = some [s2, i2] := fun w' h => blkSome (n := 2) (xs := [s2, i2]) h 3 rfl rfl
            have f2d := f2 wc.drew hBc.drew
            have hLc : Below w.heap.size w wc.drew := (hL4.trans (hb4c.mono (by omega))).drew
            simp -dsimp only [push_cast, Nat.reduceAdd, Nat.reduceLeDiff, Nat.reduceBEq, decide_true, ne_eq, eq_self, not_true_eq_false, not_false_eq_true, true_imp_iff, false_imp_iff, Int.reduceNe, Int.reduceEq, Int.reduceLT, Int.reduceLE, Bool.not_true, Bool.not_false, f2d]
            refine ⟨fun w'' hC => by rw [f2 w'' hC]; exact rfl, ?_⟩
            refine sliceLoK (hpv.below hLc) hi' ?_
            intro a' c' hs2
            simp -dsimp only [push_cast, Nat.reduceAdd, Nat.reduceLeDiff, Nat.reduceBEq, decide_true, ne_eq, eq_self, not_true_eq_false, not_false_eq_true, true_imp_iff, false_imp_iff, Int.reduceNe, Int.reduceEq, Int.reduceLT, Int.reduceLE, Bool.not_true, Bool.not_false]
            have hcon := match_c r.after (ps.drop i) hlr.2.1 hlr.2.2.1 hlr.2.2.2 (by rw [List.length_drop]; omega) X _ _ _ wc.drew (h2.below (hbyb.trans ((hbc.mono (by omega)).drew))) hs2
            unfold MatchV at hcon
            rw [if_pos hcr.2] at hcon
            have e2 : (vmatch r.after (ps.drop i)).1 = decide ((vmatch r.after (ps.drop i)).1 = true) := by simp
            rw [e2] at hcon
            refine callK_of hcon ?_
            rintro _ we ⟨rfl, hbe0⟩
            have hbe' : Below wc.heap.size wc we := (Below.refl _ _).drew.trans hbe0
            have sze0 := hbe'.size
            have hBe := hBc.below hbe' (by omega)
            refine ⟨hBe, ?_⟩
            have hb4e : Below w4.heap.size w4 we := hb4c.trans (hbe'.mono (by omega))
            simp -dsimp only [push_cast, Nat.reduceAdd, Nat.reduceLeDiff, Nat.reduceBEq, decide_true, ne_eq, eq_self, not_true_eq_false, not_false_eq_true, true_imp_iff, false_imp_iff, Int.reduceNe, Int.reduceEq, Int.reduceLT, Int.reduceLE, Bool.not_true, Bool.not_false]
            refine ⟨fun hm2 => ?_, fun hm2 => ⟨⟨by omega, by omega⟩, ⟨k + 1, rfl, by omega, hnor (.inr hm2), hb4e⟩, by rw [h44]; simp only [intOf]; omega⟩⟩
            have hc0 : we.cell? ⟨wy.heap.size, 0, none⟩ = some (.bool r.brk) := hBe.cell rfl
            rw [hyesr hm1 hm2] at hc0
            have ho4 := ho3.below (hb4e.mono (Nat.le_refl _))
            have hbe : Below w1.heap.size w1 we := hb4'.trans (hb4e.mono (by omega))
            have sze := hbe.size
            cases sb with
            | true =>
              simp -dsimp only [push_cast, Nat.reduceAdd, Nat.reduceLeDiff, Nat.reduceBEq, decide_true, ne_eq, eq_self, not_true_eq_false, not_false_eq_true, true_imp_iff, false_imp_iff, Int.reduceNe, Int.reduceEq, Int.reduceLT, Int.reduceLE, Bool.not_true, Bool.not_false, hc0]
              have hy := hyes (.inl rfl)
              refine rowK elI_26 rfl rfl (by omega) ?_
              intro w6 hw6
              have sz6 := hw6.size
              simp -dsimp only [push_cast, Nat.reduceAdd, Nat.reduceLeDiff, Nat.reduceBEq, decide_true, ne_eq, eq_self, not_true_eq_false, not_false_eq_true, true_imp_iff, false_imp_iff, Int.reduceNe, Int.reduceEq, Int.reduceLT, Int.reduceLE, Bool.not_true, Bool.not_false]
              refine appendK2 (base := w1.heap.size) [i] (enc := encN) elI_26 (ho4.new hw6) (by rfl) (fun j u hu => by simpa [encN] using hw6.cell hu) (by simp [encN, Value.oneCell']) (by simp only [List.length_cons, List.length_nil]; omega) (by omega) ?_
              intro v' w7 ho7 hg7 hn7
              have hk7 : Kept (fun j => (Value.slice ua (breaksTo p ps i).length uc).ownBlock = some j) w6 w7 := Kept.grown hg7 (fun _ h => h)
              have hb7 : Below w1.heap.size w1 w7 := hbe.trans ((hw6.below.mono sze).trans (hk7.below (by omega) (fun g h => (ho4.block g h).1)))
              simp -dsimp only [push_cast, Nat.reduceAdd, Nat.reduceLeDiff, Nat.reduceBEq, decide_true, ne_eq, eq_self, not_true_eq_false, not_false_eq_true, true_imp_iff, false_imp_iff, Int.reduceNe, Int.reduceEq, Int.reduceLT, Int.reduceLE, Bool.not_true, Bool.not_false]
              rw [← hy] at ho7
              exact ⟨⟨by omega, by omega⟩, ⟨i + 1, _, rfl, rfl, by omega, hnil1, ho7, hb7⟩, by rw [h7]; simp only [intOf]; omega⟩
            | false =>
              simp -dsimp only [push_cast, Nat.reduceAdd, Nat.reduceLeDiff, Nat.reduceBEq, decide_true, ne_eq, eq_self, not_true_eq_false, not_false_eq_true, true_imp_iff, false_imp_iff, Int.reduceNe, Int.reduceEq, Int.reduceLT, Int.reduceLE, Bool.not_true, Bool.not_false, hc0]
              refine ⟨fun hi0 => ⟨fun hil => ?_, fun hil => ?_⟩, fun hi0 => ?_⟩
              · have hy := hyes (.inr (.inr (by omega)))
                refine rowK elI_26 rfl rfl (by omega) ?_
                intro w6 hw6
                have sz6 := hw6.size
                simp -dsimp only [push_cast, Nat.reduceAdd, Nat.reduceLeDiff, Nat.reduceBEq, decide_true, ne_eq, eq_self, not_true_eq_false, not_false_eq_true, true_imp_iff, false_imp_iff, Int.reduceNe, Int.reduceEq, Int.reduceLT, Int.reduceLE, Bool.not_true, Bool.not_false]
                refine appendK2 (base := w1.heap.size) [i] (enc := encN) elI_26 (ho4.new hw6) (by rfl) (fun j u hu => by simpa [encN] using hw6.cell hu) (by simp [encN, Value.oneCell']) (by simp only [List.length_cons, List.length_nil]; omega) (by omega) ?_
                intro v' w7 ho7 hg7 hn7
                have hk7 : Kept (fun j => (Value.slice ua (breaksTo p ps i).length uc).ownBlock = some j) w6 w7 := Kept.grown hg7 (fun _ h => h)
                have hb7 : Below w1.heap.size w1 w7 := hbe.trans ((hw6.below.mono sze).trans (hk7.below (by omega) (fun g h => (ho4.block g h).1)))
                simp -dsimp only [push_cast, Nat.reduceAdd, Nat.reduceLeDiff, Nat.reduceBEq, decide_true, ne_eq, eq_self, not_true_eq_false, not_false_eq_true, true_imp_iff, false_imp_iff, Int.reduceNe, Int.reduceEq, Int.reduceLT, Int.reduceLE, Bool.not_true, Bool.not_false]
                rw [← hy] at ho7
                exact ⟨⟨by omega, by omega⟩, ⟨i + 1, _, rfl, rfl, by omega, hnil1, ho7, hb7⟩, by rw [h7]; simp only [intOf]; omega⟩
              · have hy := hno rfl (by omega) (by omega)
                have ho5 : Own w1.heap.size 3 1 encN we (.slice ua (breaksTo p ps i).length uc) (breaksTo p ps (i + 1)) := by rw [hy]; exact ho4
                exact ⟨⟨by omega, by omega⟩, ⟨i + 1, _, rfl, rfl, by omega, hnil1, ho5, hbe⟩, by rw [h7]; simp only [intOf]; omega⟩
              · have hy := hyes (.inr (.inl (by omega)))
                refine rowK elI_26 rfl rfl (by omega) ?_
                intro w6 hw6
                have sz6 := hw6.size
                simp -dsimp only [push_cast, Nat.reduceAdd, Nat.reduceLeDiff, Nat.reduceBEq, decide_true, ne_eq, eq_self, not_true_eq_false, not_false_eq_true, true_imp_iff, false_imp_iff, Int.reduceNe, Int.reduceEq, Int.reduceLT, Int.reduceLE, Bool.not_true, Bool.not_false]
                refine appendK2 (base := w1.heap.size) [i] (enc := encN) elI_26 (ho4.new hw6) (by rfl) (fun j u hu => by simpa [encN] using hw6.cell hu) (by simp [encN, Value.oneCell']) (by simp only [List.length_cons, List.length_nil]; omega) (by omega) ?_
                intro v' w7 ho7 hg7 hn7
                have hk7 : Kept (fun j => (Value.slice ua (breaksTo p ps i).length uc).ownBlock = some j) w6 w7 := Kept.grown hg7 (fun _ h => h)
                have hb7 : Below w1.heap.size w1 w7 := hbe.trans ((hw6.below.mono sze).trans (hk7.below (by omega) (fun g h => (ho4.block g h).1)))
                simp -dsimp only [push_cast, Nat.reduceAdd, Nat.reduceLeDiff, Nat.reduceBEq, decide_true, ne_eq, eq_self, not_true_eq_false, not_false_eq_true, true_imp_iff, false_imp_iff, Int.reduceNe, Int.reduceEq, Int.reduceLT, Int.reduceLE, Bool.not_true, Bool.not_false]
                rw [← hy] at ho7
                exact ⟨⟨by omega, by omega⟩, ⟨i + 1, _, rfl, rfl, by omega, hnil1, ho7, hb7⟩, by rw [h7]; simp only [intOf]; omega⟩
          · have hke : p.els = sb := by rw [← hsb, hsk, saysFrom_end p ps i k hge]
            rw [hke] at h9
            simp -dsimp only [push_cast, Nat.reduceAdd, Nat.reduceLeDiff, Nat.reduceBEq, decide_true, ne_eq, eq_self, not_true_eq_false, not_false_eq_true, true_imp_iff, false_imp_iff, Int.reduceNe, Int.reduceEq, Int.reduceLT, Int.reduceLE, Bool.not_true, Bool.not_false, h44, h9]
            refine ⟨fun h => absurd h (by omega), fun _ => ?_⟩
            have ho4 := ho3.below (hby.mono (Nat.le_refl _))
            have hbe := hb1y
            have sze := hbe.size
            cases sb with
            | true =>
              simp -dsimp only [push_cast, Nat.reduceAdd, Nat.reduceLeDiff, Nat.reduceBEq, decide_true, ne_eq, eq_self, not_true_eq_false, not_false_eq_true, true_imp_iff, false_imp_iff, Int.reduceNe, Int.reduceEq, Int.reduceLT, Int.reduceLE, Bool.not_true, Bool.not_false, h44]
              have hy := hyes (.inl rfl)
              refine rowK elI_26 rfl rfl (by omega) ?_
              intro w6 hw6
              have sz6 := hw6.size
              simp -dsimp only [push_cast, Nat.reduceAdd, Nat.reduceLeDiff, Nat.reduceBEq, decide_true, ne_eq, eq_self, not_true_eq_false, not_false_eq_true, true_imp_iff, false_imp_iff, Int.reduceNe, Int.reduceEq, Int.reduceLT, Int.reduceLE, Bool.not_true, Bool.not_false]
              refine appendK2 (base := w1.heap.size) [i] (enc := encN) elI_26 (ho4.new hw6) (by rfl) (fun j u hu => by simpa [encN] using hw6.cell hu) (by simp [encN, Value.oneCell']) (by simp only [List.length_cons, List.length_nil]; omega) (by omega) ?_
              intro v' w7 ho7 hg7 hn7
              have hk7 : Kept (fun j => (Value.slice ua (breaksTo p ps i).length uc).ownBlock = some j) w6 w7 := Kept.grown hg7 (fun _ h => h)
              have hb7 : Below w1.heap.size w1 w7 := hbe.trans ((hw6.below.mono sze).trans (hk7.below (by omega) (fun g h => (ho4.block g h).1)))
              simp -dsimp only [push_cast, Nat.reduceAdd, Nat.reduceLeDiff, Nat.reduceBEq, decide_true, ne_eq, eq_self, not_true_eq_false, not_false_eq_true, true_imp_iff, false_imp_iff, Int.reduceNe, Int.reduceEq, Int.reduceLT, Int.reduceLE, Bool.not_true, Bool.not_false]
              rw [← hy] at ho7
              exact ⟨⟨by omega, by omega⟩, ⟨i + 1, _, rfl, rfl, by omega, hnil1, ho7, hb7⟩, by rw [h7]; simp only [intOf]; omega⟩
            | false =>
              simp -dsimp only [push_cast, Nat.reduceAdd, Nat.reduceLeDiff, Nat.reduceBEq, decide_true, ne_eq, eq_self, not_true_eq_false, not_false_eq_true, true_imp_iff, false_imp_iff, Int.reduceNe, Int.reduceEq, Int.reduceLT, Int.reduceLE, Bool.not_true, Bool.not_false, h44]
              refine ⟨fun hi0 => ⟨fun hil => ?_, fun hil => ?_⟩, fun hi0 => ?_⟩
              · have hy := hyes (.inr (.inr (by omega)))
                refine rowK elI_26 rfl rfl (by omega) ?_
                intro w6 hw6
                have sz6 := hw6.size
                simp -dsimp only [push_cast, Nat.reduceAdd, Nat.reduceLeDiff, Nat.reduceBEq, decide_true, ne_eq, eq_self, not_true_eq_false, not_false_eq_true, true_imp_iff, false_imp_iff, Int.reduceNe, Int.reduceEq, Int.reduceLT, Int.reduceLE, Bool.not_true, Bool.not_false]
                refine appendK2 (base := w1.heap.size) [i] (enc := encN) elI_26 (ho4.new hw6) (by rfl) (fun j u hu => by simpa [encN] using hw6.cell hu) (by simp [encN, Value.oneCell']) (by simp only [List.length_cons, List.length_nil]; omega) (by omega) ?_
                intro v' w7 ho7 hg7 hn7
                have hk7 : Kept (fun j => (Value.slice ua (breaksTo p ps i).length uc).ownBlock = some j) w6 w7 := Kept.grown hg7 (fun _ h => h)
                have hb7 : Below w1.heap.size w1 w7 := hbe.trans ((hw6.below.mono sze).trans (hk7.below (by omega) (fun g h => (ho4.block g h).1)))
                simp -dsimp only [push_cast, Nat.reduceAdd, Nat.reduceLeDiff, Nat.reduceBEq, decide_true, ne_eq, eq_self, not_true_eq_false, not_false_eq_true, true_imp_iff, false_imp_iff, Int.reduceNe, Int.reduceEq, Int.reduceLT, Int.reduceLE, Bool.not_true, Bool.not_false]
                rw [← hy] at ho7
                exact ⟨⟨by omega, by omega⟩, ⟨i + 1, _, rfl, rfl, by omega, hnil1, ho7, hb7⟩, by rw [h7]; simp only [intOf]; omega⟩
              · have hy := hno rfl (by omega) (by omega)
                have ho5 : Own w1.heap.size 3 1 encN wy (.slice ua (breaksTo p ps i).length uc) (breaksTo p ps (i + 1)) := by rw [hy]; exact ho4
                exact ⟨⟨by omega, by omega⟩, ⟨i + 1, _, rfl, rfl, by omega, hnil1, ho5, hbe⟩, by rw [h7]; simp only [intOf]; omega⟩
              · have hy := hyes (.inr (.inl (by omega)))
                refine rowK elI_26 rfl rfl (by omega) ?_
                intro w6 hw6
                have sz6 := hw6.size
                simp -dsimp only [push_cast, Nat.reduceAdd, Nat.reduceLeDiff, Nat.reduceBEq, decide_true, ne_eq, eq_self, not_true_eq_false, not_false_eq_true, true_imp_iff, false_imp_iff, Int.reduceNe, Int.reduceEq, Int.reduceLT, Int.reduceLE, Bool.not_true, Bool.not_false]
                refine appendK2 (base := w1.heap.size) [i] (enc := encN) elI_26 (ho4.new hw6) (by rfl) (fun j u hu => by simpa [encN] using hw6.cell hu) (by simp [encN, Value.oneCell']) (by simp only [List.length_cons, List.length_nil]; omega) (by omega) ?_
                intro v' w7 ho7 hg7 hn7
                have hk7 : Kept (fun j => (Value.slice ua (breaksTo p ps i).length uc).ownBlock = some j) w6 w7 := Kept.grown hg7 (fun _ h => h)
                have hb7 : Below w1.heap.size w1 w7 := hbe.trans ((hw6.below.mono sze).trans (hk7.below (by omega) (fun g h => (ho4.block g h).1)))
                simp -dsimp only [push_cast, Nat.reduceAdd, Nat.reduceLeDiff, Nat.reduceBEq, decide_true, ne_eq, eq_self, not_true_eq_false, not_false_eq_true, true_imp_iff, false_imp_iff, Int.reduceNe, Int.reduceEq, Int.reduceLT, Int.reduceLE, Bool.not_true, Bool.not_false]
                rw [← hy] at ho7
                exact ⟨⟨by omega, by omega⟩, ⟨i + 1, _, rfl, rfl, by omega, hnil1, ho7, hb7⟩, by rw [h7]; simp only [intOf]; omega⟩
      · have h0 : ps = [] := List.eq_nil_of_length_eq_zero (by omega)
        rw [← hdone (.inl h0)]
        exact ⟨⟨_, rfl, ho.mono (by omega)⟩, hLx⟩
      · rw [← hdone (.inr (by omega))]
        exact ⟨⟨_, rfl, ho.mono (by omega)⟩, hLx⟩
end Go.Proofs.YtimjpijbcnjaaaaDoor
