import Derived.Test.YtieaebjkbhaoaaaGreatDoorRp7
namespace Go.Proofs.YtieaebjkbhaoaaaGreatDoor
open Go.Vc Go.Proofs Go.RowKit Cae
set_option maxRecDepth 100000
set_option linter.unusedSimpArgs false
set_option linter.unusedVariables false
attribute [local irreducible] wpL callK valK unitK runK Fun Sl Own vc vcOps opK pureK
set_option maxHeartbeats 4000000

theorem row_le {d : Nat} {l l' : List Tok} {x : PatP} (h : rowW (againW d (unitP d)) l = .ok (x, l')) : l'.length ≤ l.length := Lo.le (lo_rowW (lo_againW (lo_unit d))) _ _ _ h
theorem pat_of (d : Nat) (hrow : RowC d) : PatC d := by
  intro n hn0 hn pb B w l0 h0
  have hle := h0.le
  have hlt := h0.lt
  refine fun2_of_vc Tryz.func28 rfl (by kernel_rfl) [.tmp 4] rfl ?_
  simp -dsimp (maxSteps := 4000000) only [push_cast, fr0, Tryz.ntmps28, List.length_cons, List.length_nil, Nat.reduceAdd, Nat.reduceSub, Nat.reduceBEq, List.replicate_succ, List.replicate_zero]
  refine callP_of (deep_c n h0) ?_ ?_
  rotate_left
  · rintro c w' ⟨h8, ht, hb⟩
    have hd0 : d = 0 := by omega
    subst hd0
    simp -dsimp only [push_cast, Nat.reduceAdd, Nat.reduceLeDiff, Nat.reduceBEq, decide_true, ne_eq, eq_self, not_true_eq_false, not_false_eq_true, true_imp_iff, false_imp_iff, Int.reduceNe, Int.reduceEq, Int.reduceLT, Int.reduceLE, Bool.not_true, Bool.not_false]
    exact ⟨4, _, rfl, ht, Kept.of_below hb (fun i h1 h2 => by omega)⟩
  rintro _ w0 ⟨h8, rfl, hw0⟩
  obtain rfl : w = w0 := hw0.symm
  have hpat : patP d l0 = Cae.pb (rowW (againW d (unitP d))) (fun x => Cae.pb (altLoop (rowW (againW d (unitP d))) 1000 [x]) fun ps => pr (altOf ps)) l0 := by
    unfold patP patW
    rw [if_neg (by omega)]
    rfl
  simp -dsimp only [push_cast, Nat.reduceAdd, Nat.reduceLeDiff, Nat.reduceBEq, decide_true, ne_eq, eq_self, not_true_eq_false, not_false_eq_true, true_imp_iff, false_imp_iff, Int.reduceNe, Int.reduceEq, Int.reduceLT, Int.reduceLE, Bool.not_true, Bool.not_false]
  refine callP_of (hrow n hn0 hn pb B w l0 h0) ?_ ?_
  rotate_left
  · rintro c w' ⟨e, pos, he, ht, hk⟩
    simp -dsimp only [push_cast, Nat.reduceAdd, Nat.reduceLeDiff, Nat.reduceBEq, decide_true, ne_eq, eq_self, not_true_eq_false, not_false_eq_true, true_imp_iff, false_imp_iff, Int.reduceNe, Int.reduceEq, Int.reduceLT, Int.reduceLE, Bool.not_true, Bool.not_false]
    refine ⟨e, pos, ?_, ht, hk⟩
    rw [hpat]
    unfold Cae.pb
    rw [he]
  rintro v1 w1 ⟨x0, l1', e1, V1, P1, k1⟩
  obtain ⟨ub, rfl, hub, hubX⟩ := V1.ptr
  have z1 := k1.size
  simp -dsimp only [push_cast, Nat.reduceAdd, Nat.reduceLeDiff, Nat.reduceBEq, decide_true, ne_eq, eq_self, not_true_eq_false, not_false_eq_true, true_imp_iff, false_imp_iff, Int.reduceNe, Int.reduceEq, Int.reduceLT, Int.reduceLE, Bool.not_true, Bool.not_false]
  refine rowK elI_88 rfl rfl (by omega) ?_
  intro w2 hw2
  have z2 := hw2.size
  have O2 : Go.Vc.Own w.heap.size 62 1 encP w2 (.slice (some ⟨w1.heap.size, 0, none⟩) 1 1) [ub] := hw2.own (by rfl) rfl (fun _ => rfl) (by omega) (by omega)
  simp -dsimp only [push_cast, Nat.reduceAdd, Nat.reduceLeDiff, Nat.reduceBEq, decide_true, ne_eq, eq_self, not_true_eq_false, not_false_eq_true, true_imp_iff, false_imp_iff, Int.reduceNe, Int.reduceEq, Int.reduceLT, Int.reduceLE, Bool.not_true, Bool.not_false]
  refine boxK_of ?_
  intro w3 hw3
  have B3 := hw3.blk
  have O3 := O2.new hw3
  have P3 := (P1.below hw2.below).below hw3.below
  have k3 := (k1.trans (Kept.new (X := (· = pb)) hw2) (fun i _ h => h)).trans (Kept.new (X := (· = pb)) hw3) (fun i _ h => h)
  have V3 := (V1.top.below hw2.below).below hw3.below
  have hxb : ∃ xb, xb = w2.heap.size := ⟨_, rfl⟩
  obtain ⟨xb, hxb⟩ := hxb
  have hxb0 : w.heap.size ≤ xb := by omega
  rw [← hxb] at B3
  simp -dsimp only [push_cast, Nat.reduceAdd, Nat.reduceLeDiff, Nat.reduceBEq, decide_true, ne_eq, eq_self, not_true_eq_false, not_false_eq_true, true_imp_iff, false_imp_iff, Int.reduceNe, Int.reduceEq, Int.reduceLT, Int.reduceLE, Bool.not_true, Bool.not_false, ← hxb]
  refine wpL_loop [15, 16, 17, 18, 19, 20, 21, 22, 23, 24, 25, 26, 27, 28] (fun z w' => ∃ (m : Nat) (acc : List PatP) (l1 : List Tok) (sv : Value) (vs : List Nat), altLoop (rowW (againW d (unitP d))) m acc l1 = altLoop (rowW (againW d (unitP d))) 1000 [x0] l1' ∧ l1.length < m ∧ acc.length + m ≤ 1001 ∧
      Blk w' xb 90 [.int .i64 5, .pointer none, sv, .int .i64 0, .int .i64 0] ∧ Go.Vc.Own w.heap.size 62 1 encP w' sv vs ∧ (∀ g, sv.ownBlock = some g → g ≠ xb) ∧ PatsV (fun b => b < w.heap.size ∨ b = xb ∨ sv.ownBlock = some b) w' vs acc ∧ PS pb B w' l1 ∧ Kept (· = pb) w w') (fun z w' => lenAt w' pb) ?_ ?_
  · have hlt : l1'.length < 1000 := by have := P1.tl.len; omega
    have hV0 : PatsV (fun b => b < w.heap.size ∨ b = xb ∨ (Value.slice (some ⟨w1.heap.size, 0, none⟩) 1 1).ownBlock = some b) w3 [ub] [x0] := by
      simp only [PatsV, and_true]
      refine PatV.mono (Kept.refl (fun _ => False) _) (fun _ h => h.elim) (fun i h => ?_) V3
      rcases h with h | h | h
      · exact .inl h
      · exact .inr (by omega)
      · have : w1.heap.size = i := by simpa [Value.ownBlock] using h
        exact .inr (by omega)
    have hne0 : ∀ g, (Value.slice (some ⟨w1.heap.size, 0, none⟩) 1 1).ownBlock = some g → g ≠ xb := fun g hg => by
      have : w1.heap.size = g := by simpa [Value.ownBlock] using hg
      omega
    exact ⟨1000, [x0], l1', _, [ub], rfl, hlt, by simp, B3, O3, hne0, hV0, P3, k3⟩
  rintro z w' ⟨m, acc, l1, sv, vs, hm2, hm, hacc, hBq, hOq, hne2, hVq, hP1, kq⟩
  have hzw := kq.size
  simp -dsimp only [push_cast, Nat.reduceAdd, Nat.reduceLeDiff, Nat.reduceBEq, decide_true, ne_eq, eq_self, not_true_eq_false, not_false_eq_true, true_imp_iff, false_imp_iff, Int.reduceNe, Int.reduceEq, Int.reduceLT, Int.reduceLE, Bool.not_true, Bool.not_false, ← hxb]
  refine callK_of (take_c [124] hP1) ?_
  rintro _ w2' hT
  rcases hT with ⟨hst, rfl, t1, r1', el1, h51, P2, kt, hz⟩ | ⟨hst, rfl, hww⟩
  · have hpop : popP l1 = .ok ((), r1') := by rw [el1]; exact popP_cons h51
    have hl1 : l1.length = r1'.length + 1 := by rw [el1, List.length_cons]
    have hB2 := hBq.kept kt (by omega)
    have hO2 := hOq.keptX kt (fun g hg h => by have := (hOq.block g hg).1; omega)
    have hV2 : PatsV (fun b => b < w.heap.size ∨ b = xb ∨ sv.ownBlock = some b) w2' vs acc := PatsV.mono kt (fun i h => by omega) (fun i h => h) hVq
    have k2 := kq.trans kt (fun i _ h => h)
    simp -dsimp only [push_cast, Nat.reduceAdd, Nat.reduceLeDiff, Nat.reduceBEq, decide_true, ne_eq, eq_self, not_true_eq_false, not_false_eq_true, true_imp_iff, false_imp_iff, Int.reduceNe, Int.reduceEq, Int.reduceLT, Int.reduceLE, Bool.not_true, Bool.not_false, ← hxb]
    -- at world w2': hB2 hO2 hV2 P2 k2
    have hm1 : ∃ m', m = m' + 1 := ⟨m - 1, by omega⟩
    obtain ⟨m', hmm⟩ := hm1
    have hz2 : xb < w2'.heap.size := hB2.lt
    have kd : Kept (fun _ => False) w2' w2'.drew := (Kept.refl _ _).drew
    have hBd := hB2.kept kd (fun h => h)
    have Pd := P2.kept kd (fun i h => h.elim)
    have kdd := k2.trans kd (fun i h1 h2 => h2.elim)
    have d2 : w2'.drew.cell? ⟨xb, 2, none⟩ = some sv := hBd.cell rfl
    have hstep : altLoop (rowW (againW d (unitP d))) m acc l1 = Cae.pb (rowW (againW d (unitP d))) (fun x => altLoop (rowW (againW d (unitP d))) m' (acc ++ [x])) r1' := by
      rw [hmm, altLoop]
      unfold pif
      rw [hst, if_pos rfl, pb_of hpop]
    cases hp : rowW (againW d (unitP d)) r1' with
    | error e =>
      refine wpL_boom (E := PThr pb w l0 (patP d)) [(), (), (), (), (), (), ()] mixed (by kernel_rfl) (fun ce te we hE => ?_) ?_
      · simp -dsimp only [push_cast, Nat.reduceAdd, Nat.reduceLeDiff, Nat.reduceBEq, decide_true, ne_eq, eq_self, not_true_eq_false, not_false_eq_true, true_imp_iff, false_imp_iff, Int.reduceNe, Int.reduceEq, Int.reduceLT, Int.reduceLE, Bool.not_true, Bool.not_false]
        exact hE
      · simp -dsimp only [push_cast, Nat.reduceAdd, Nat.reduceLeDiff, Nat.reduceBEq, decide_true, ne_eq, eq_self, not_true_eq_false, not_false_eq_true, true_imp_iff, false_imp_iff, Int.reduceNe, Int.reduceEq, Int.reduceLT, Int.reduceLE, Bool.not_true, Bool.not_false, d2]
        refine ⟨fun w'' h => by rw [h, d2]; exact rfl, ?_⟩
        refine callB_of (hrow n hn0 hn pb B w2'.drew r1' Pd) (fun v we ⟨x, l', h1, _⟩ => by rw [hp] at h1; cases h1) ?_
        rintro ce we ⟨en, pos, he, ht, hke⟩
        refine ⟨en, pos, ?_, ht.mono (by have := kdd.size; omega), kdd.trans hke (fun i _ h => h)⟩
        have hl : altLoop (rowW (againW d (unitP d))) 1000 [x0] l1' = .error (en, pos) := by
          rw [← hm2, hstep]
          unfold Cae.pb
          rw [he]
        rw [hpat, pb_of e1]
        unfold Cae.pb
        rw [hl]
    | ok q =>
      obtain ⟨x, l2⟩ := q
      have hl2 : l2.length < l1.length := by
        have := row_le hp
        rw [hl1]; omega
      refine wpL_lastN (fun w' => Blk w' xb 90 [.int .i64 5, .pointer none, sv, .int .i64 0, .int .i64 0]) mixed (by kernel_rfl) (by simp) hB2.drew ?_
      simp -dsimp only [push_cast, Nat.reduceAdd, Nat.reduceLeDiff, Nat.reduceBEq, decide_true, ne_eq, eq_self, not_true_eq_false, not_false_eq_true, true_imp_iff, false_imp_iff, Int.reduceNe, Int.reduceEq, Int.reduceLT, Int.reduceLE, Bool.not_true, Bool.not_false, d2]
      refine ⟨fun w'' h => by rw [Blk.cell h (o := 2) rfl]; exact rfl, ?_⟩
      refine callP_of (hrow n hn0 hn pb B w2'.drew r1' Pd) ?_ (fun ce we ⟨en, pos, he, _⟩ => by rw [hp] at he; cases he)
      rintro u w3 ⟨x', l2', e3, V3, P3, k3⟩
      obtain ⟨rfl, rfl⟩ : x = x' ∧ l2 = l2' := by rw [hp] at e3; cases e3; exact ⟨rfl, rfl⟩
      obtain ⟨ub, rfl, hub, hubX⟩ := V3.ptr
      have B3 := hBd.kept k3 (by omega)
      have z3 := k3.size
      have hzd : w2'.heap.size = w2'.drew.heap.size := rfl
      have hob : ∀ g, sv.ownBlock = some g → g < w2'.heap.size := fun g hg => (hO2.block g hg).2
      have hO3 := (hO2.keptX kd (fun g _ h => h)).keptX k3 (fun g hg h => by have := (hO2.block g hg).1; omega)
      have hV3 := PatsV.mono (X' := fun b => (b < w.heap.size ∨ b = xb ∨ sv.ownBlock = some b) ∨ w2'.heap.size ≤ b) ((kd.weaken (Y := (· = pb)) (fun i _ h => h.elim)).trans k3 (fun i _ h => h)) (fun i h => by omega) (fun i h => h) (PatsV.top hV2)
      refine ⟨B3, ?_⟩
      simp -dsimp only [push_cast, Nat.reduceAdd, Nat.reduceLeDiff, Nat.reduceBEq, decide_true, ne_eq, eq_self, not_true_eq_false, not_false_eq_true, true_imp_iff, false_imp_iff, Int.reduceNe, Int.reduceEq, Int.reduceLT, Int.reduceLE, Bool.not_true, Bool.not_false]
      refine rowK elI_88 rfl rfl (by omega) ?_
      intro w4 hw4
      have B4 := B3.below hw4.below B3.lt
      have z4 := hw4.size
      have hO4 := hO3.new hw4
      have P4 := P3.below hw4.below
      refine ⟨B4, ?_⟩
      simp -dsimp only [push_cast, Nat.reduceAdd, Nat.reduceLeDiff, Nat.reduceBEq, decide_true, ne_eq, eq_self, not_true_eq_false, not_false_eq_true, true_imp_iff, false_imp_iff, Int.reduceNe, Int.reduceEq, Int.reduceLT, Int.reduceLE, Bool.not_true, Bool.not_false]
      refine appendK2 (base := w.heap.size) [ub] (enc := encP) elI_88 hO4 (by rfl) (fun j y hy => by simpa [encP, ptrP] using hw4.cell hy) encP_one (by rw [PatsV.len hV2]; simp only [List.length_cons, List.length_nil]; omega) (by omega) ?_
      intro sv5 w5 hO5 hg5 hn5
      have kg : Kept (fun j => sv.ownBlock = some j) w4 w5 := Kept.grown hg5 (fun _ h => h)
      have hog : ∀ g, sv.ownBlock = some g → w.heap.size ≤ g ∧ g ≠ xb := fun g hg => ⟨(hO2.block g hg).1, hne2 g hg⟩
      have B5 := B4.kept kg (fun h => by have := hog _ h; omega)
      have P5 := P4.kept kg (fun i h => by have := hog _ h; omega)
      have z5 := kg.size
      refine ⟨B5, ?_⟩
      obtain ⟨a5, c5, rfl⟩ := hO5.slice
      simp -dsimp only [push_cast, Nat.reduceAdd, Nat.reduceLeDiff, Nat.reduceBEq, decide_true, ne_eq, eq_self, not_true_eq_false, not_false_eq_true, true_imp_iff, false_imp_iff, Int.reduceNe, Int.reduceEq, Int.reduceLT, Int.reduceLE, Bool.not_true, Bool.not_false]
      refine storeK_of B5 (by simp) rfl ?_
      intro w6 hw6
      have B6 : Blk w6 xb 90 [.int .i64 5, .pointer none, .slice a5 (vs ++ [ub]).length c5, .int .i64 0, .int .i64 0] := hw6.blk
      have P6 := P5.kept hw6.kept (fun i h => by omega)
      have z6 := hw6.size
      have hne6 : ∀ g, (Value.slice a5 (vs ++ [ub]).length c5).ownBlock = some g → g ≠ xb := fun g hg => by
        rcases hn5 g hg with h | h
        · exact (hog g h).2
        · omega
      have hO6 := hO5.keptX hw6.kept (fun g hg h => hne6 g hg h)
      have k6 := (((kdd.trans k3 (fun i _ h => h)).trans (Kept.new (X := (· = pb)) hw4) (fun i _ h => h)).trans kg (fun i h1 h2 => by have := hog _ h2; omega)).trans hw6.kept (fun i h1 h2 => by omega)
      have kY : Kept (fun i => i = xb ∨ sv.ownBlock = some i) w3 w6 := ((Kept.new (X := fun i => i = xb ∨ sv.ownBlock = some i) hw4).trans kg (fun i _ h => .inr h)).trans hw6.kept (fun i _ h => .inl h)
      have hX : ∀ i, (i < w.heap.size ∨ i = xb ∨ (Value.slice a5 (vs ++ [ub]).length c5).ownBlock = some i) → i < w.heap.size ∨ i = xb ∨ sv.ownBlock = some i ∨ w4.heap.size ≤ i := fun i h => by
        rcases h with h | h | h
        · exact .inl h
        · exact .inr (.inl h)
        · rcases hn5 i h with h | h
          · exact .inr (.inr (.inl h))
          · exact .inr (.inr (.inr h))
      have hV6 : PatsV (fun b => b < w.heap.size ∨ b = xb ∨ (Value.slice a5 (vs ++ [ub]).length c5).ownBlock = some b) w6 (vs ++ [ub]) (acc ++ [x]) := by
        refine PatsV.snoc (PatsV.mono kY (fun i h => ?_) (fun i h => ?_) hV3) (PatV.mono kY (fun i h => ?_) (fun i h => ?_) V3.top)
        · rcases h with h | h
          · exact .inl (.inr (.inl h))
          · exact .inl (.inr (.inr h))
        · rcases hX i h with h | h | h | h
          · exact .inl (.inl h)
          · exact .inl (.inr (.inl h))
          · exact .inl (.inr (.inr h))
          · exact .inr (by omega)
        · rcases h with h | h
          · exact .inl (by omega)
          · exact .inl (hob i h)
        · rcases hX i h with h | h | h | h
          · exact .inl (by omega)
          · exact .inl (by omega)
          · exact .inl (hob i h)
          · exact .inr (by omega)
      have hlen6 := P6.len
      have hlen1 := hP1.len
      have hnx : altLoop (rowW (againW d (unitP d))) m' (acc ++ [x]) l2 = altLoop (rowW (againW d (unitP d))) 1000 [x0] l1' := by rw [← hm2, hstep, pb_of hp]
      simp -dsimp only [push_cast, Nat.reduceAdd, Nat.reduceLeDiff, Nat.reduceBEq, decide_true, ne_eq, eq_self, not_true_eq_false, not_false_eq_true, true_imp_iff, false_imp_iff, Int.reduceNe, Int.reduceEq, Int.reduceLT, Int.reduceLE, Bool.not_true, Bool.not_false]
      exact ⟨⟨m', acc ++ [x], l2, _, vs ++ [ub], hnx, by omega, by rw [List.length_append, List.length_singleton]; omega, B6, hO6, hne6, hV6, P6, k6⟩, by rw [hlen6, hlen1]; exact hl2⟩
  · obtain rfl : w' = w2' := hww.symm
    have hfin : patP d l0 = .ok (altOf acc, l1) := by
      have hl : altLoop (rowW (againW d (unitP d))) 1000 [x0] l1' = .ok (acc, l1) := by
        rw [← hm2]
        obtain ⟨m', hmm⟩ : ∃ m', m = m' + 1 := ⟨m - 1, by omega⟩
        rw [hmm, altLoop]
        unfold pif
        rw [hst]
        rfl
      rw [hpat, pb_of e1, pb_of hl]
      rfl
    have hB2 := hBq
    have hO2 := hOq
    have hV2 := hVq
    have P2 := hP1
    have k2 := kq
    have hV2l := PatsV.len hV2
    have hO2s := hO2.slice
    obtain ⟨va, vc, hsv⟩ := hO2s
    rw [hsv] at hB2 hO2 hV2
    have d2 : w'.cell? ⟨xb, 2, none⟩ = some (.slice va vs.length vc) := hB2.cell rfl
    have hsl := hO2.sl
    have hzs := k2.size
    simp -dsimp only [push_cast, Nat.reduceAdd, Nat.reduceLeDiff, Nat.reduceBEq, decide_true, ne_eq, eq_self, not_true_eq_false, not_false_eq_true, true_imp_iff, false_imp_iff, Int.reduceNe, Int.reduceEq, Int.reduceLT, Int.reduceLE, Bool.not_true, Bool.not_false, d2]
    refine ⟨fun h1 => ?_, fun h1 => ?_⟩
    · obtain ⟨u, hvs⟩ : ∃ u, vs = [u] := List.length_eq_one_iff.1 (by omega)
      obtain ⟨x, hac⟩ : ∃ x, acc = [x] := List.length_eq_one_iff.1 (by omega)
      rw [hvs] at hsl d2 hV2
      rw [hac] at hV2 hfin
      simp only [PatsV, and_true] at hV2
      obtain ⟨b5, o5, rfl, _, hcell⟩ := hsl.get (i := 0) (x := u) rfl
      have d5 : w'.cell? ⟨b5, o5, none⟩ = some (ptrP u) := by have := hcell 0 _ rfl; simpa using this
      simp only [List.length_cons, List.length_nil, Nat.zero_add] at d2
      simp -dsimp only [push_cast, Nat.reduceAdd, Nat.reduceLeDiff, Nat.reduceBEq, decide_true, ne_eq, eq_self, not_true_eq_false, not_false_eq_true, true_imp_iff, false_imp_iff, Int.reduceNe, Int.reduceEq, Int.reduceLT, Int.reduceLE, Bool.not_true, Bool.not_false, d2, Nat.zero_mul, Nat.add_zero, d5]
      refine ⟨by omega, x, l1, hfin, PatV.mono (Kept.refl (fun _ => False) _) (fun _ h => h.elim) (fun i h => .inl h) hV2, P2, k2⟩
    · have hne : acc.length ≠ 1 := by omega
      have hro : altOf acc = .alt acc := by
        unfold altOf
        split
        · rename_i x
          exact absurd rfl hne
        · rfl
      refine ⟨.alt acc, l1, by rw [← hro]; exact hfin, ?_, P2, k2⟩
      simp only [PatV]
      exact ⟨_, _, vs, rfl, by omega, hB2, hsl.weaken (fun i h => by omega), PatsV.mono (Kept.refl (fun _ => False) _) (fun _ h => h.elim) (fun i h => .inl h) hV2⟩
end Go.Proofs.YtieaebjkbhaoaaaGreatDoor
