import Derived.Test.YtnfmbobpagamhaaMovedw
namespace Go.Proofs.Ytnfmbobpagamhaa
open Go.Vc Go.Proofs Go.RowKit Cae
set_option maxRecDepth 100000
set_option linter.unusedSimpArgs false
set_option linter.unusedVariables false
attribute [local irreducible] wpL callK valK unitK runK Fun Sl Own vc vcOps opK pureK
set_option maxHeartbeats 8000000

theorem smallP_len {c : CodeP} (h : smallP c = true) : c.sets.length ≤ 20 ∧ c.ins.length ≤ 60 ∧ SetsLen c := by
  unfold smallP at h
  simp only [Bool.and_eq_true, decide_eq_true_eq, List.all_eq_true] at h
  exact ⟨h.1.1, h.1.2, fun s hs => by have := h.2 s hs; omega⟩

theorem moved_c (c : CodeP) (ps : List Int) (by_ : Int) (X Xp : Nat → Prop) (v pv : Value) (w : World) (hv : CodeV X w v c) (hpv : Sl Xp 1 (En encI) w pv ps) :
    Fun Try.prog 3 [v, pv, .int .i64 by_] w fun r w' => r = .bool true ∧ Below w.heap.size w w' := by
  have hv0 := hv
  obtain ⟨sv, iv, rfl, hsv, hiv⟩ := hv0
  obtain ⟨a1, c1, rfl, hc1⟩ := hsv.shape
  obtain ⟨a2, c2, rfl, hc2⟩ := hiv.shape
  obtain ⟨a3, c3, rfl, hc3⟩ := hpv.shape
  refine fun_of_vc Try.func3 rfl (by kernel_rfl) [6] rfl ?_
  simp -dsimp only [push_cast, fr0, Try.ntmps3, List.length_cons, List.length_nil, Nat.reduceAdd, Nat.reduceSub, Nat.reduceBEq, List.replicate_succ, List.replicate_zero]
  refine boxK_of ?_
  intro w1 hw1
  have hsz1 := hw1.size
  have d1 : cellsAt w1 ⟨w.heap.size, 0, none⟩ 0 2 = some [.slice a1 c.sets.length c1, .slice a2 c.ins.length c2] := hw1.blk.cellsAt
  have hbox1 : Blk w1 w.heap.size 25 [.slice a1 c.sets.length c1, .slice a2 c.ins.length c2] := hw1.blk
  simp -dsimp only [push_cast, Nat.reduceAdd, Nat.reduceLeDiff, Nat.reduceBEq, decide_true, d1]
  refine callK_of (small_c c X _ w1 (hv.below hw1.below)) ?_
  rintro _ w2 ⟨rfl, hb2⟩
  have hB2 : Below w.heap.size w w2 := hw1.below.trans (hb2.mono (by omega))
  cases hS : smallP c with
  | false =>
    simp -dsimp only [push_cast, Nat.reduceAdd, Nat.reduceLeDiff, Nat.reduceBEq, decide_true, ne_eq, eq_self, not_true_eq_false, not_false_eq_true, true_imp_iff, false_imp_iff, Int.reduceNe, Int.reduceEq, Int.reduceLT, Int.reduceLE, Bool.not_true, Bool.not_false]
    exact hB2
  | true =>
    obtain ⟨hl1, hl2, hl3⟩ := smallP_len hS
    simp -dsimp only [push_cast, Nat.reduceAdd, Nat.reduceLeDiff, Nat.reduceBEq, decide_true, ne_eq, eq_self, not_true_eq_false, not_false_eq_true, true_imp_iff, false_imp_iff, Int.reduceNe, Int.reduceEq, Int.reduceLT, Int.reduceLE, Bool.not_true, Bool.not_false]
    refine ⟨fun hlp => hB2, fun hlp => ?_⟩
    refine callK_of (matched_c w2) ?_
    rintro _ w3 ⟨rfl, hb3⟩
    have hB3 := hB2.trans (hb3.mono hB2.size)
    have hbox3 := (hbox1.below hb2 hbox1.lt).below hb3 (by have := hb2.size; omega)
    have d3 : cellsAt w3 ⟨w.heap.size, 0, none⟩ 0 2 = some [.slice a1 c.sets.length c1, .slice a2 c.ins.length c2] := hbox3.cellsAt
    simp -dsimp only [push_cast, Nat.reduceAdd, Nat.reduceLeDiff, Nat.reduceBEq, decide_true, ne_eq, eq_self, not_true_eq_false, not_false_eq_true, true_imp_iff, false_imp_iff, Int.reduceNe, Int.reduceEq, Int.reduceLT, Int.reduceLE, Bool.not_true, Bool.not_false, d3]
    refine callK_of (Right_c c hl3 (by omega) (by omega) X _ w3 (hv.below hB3)) ?_
    rintro _ w4 ⟨rfl, hb4⟩
    have hB4 := hB3.trans (hb4.mono hB3.size)
    have hbox4 := hbox3.below hb4 hbox3.lt
    cases hR : codeRight c with
    | false =>
      simp -dsimp only [push_cast, Nat.reduceAdd, Nat.reduceLeDiff, Nat.reduceBEq, decide_true, ne_eq, eq_self, not_true_eq_false, not_false_eq_true, true_imp_iff, false_imp_iff, Int.reduceNe, Int.reduceEq, Int.reduceLT, Int.reduceLE, Bool.not_true, Bool.not_false]
      exact hB4
    | true =>
      have hc := CR.of hR
      simp -dsimp only [push_cast, Nat.reduceAdd, Nat.reduceLeDiff, Nat.reduceBEq, decide_true, ne_eq, eq_self, not_true_eq_false, not_false_eq_true, true_imp_iff, false_imp_iff, Int.reduceNe, Int.reduceEq, Int.reduceLT, Int.reduceLE, Bool.not_true, Bool.not_false]
      refine callK_of (pick_c by_ 9 (by omega) (by omega) w4) ?_
      rintro _ w5 ⟨rfl, hw5⟩
      subst hw5
      have hp9 := pickP_lt by_ (n := 9) (by omega)
      generalize hkk : pickP by_ 9 = kk at hp9
      have e0 : w5.cell? ⟨w.heap.size, 0, none⟩ = some (.slice a1 c.sets.length c1) := hbox4.cell rfl
      simp -dsimp only [push_cast, Nat.reduceAdd, Nat.reduceLeDiff, Nat.reduceBEq, decide_true, e0]
      refine ⟨⟨by omega, by omega⟩, ?_⟩
      refine rowK elI_23 rfl rfl (by omega) ?_
      intro w6 hw6
      simp -dsimp only [push_cast, Nat.reduceAdd, Nat.reduceLeDiff, Nat.reduceBEq, decide_true]
      refine allocK (z := [.slice none 0 0, .slice none 0 0]) (by kernel_rfl) ?_
      intro w7 hw7
      simp -dsimp only [push_cast, Nat.reduceAdd, Nat.reduceLeDiff, Nat.reduceBEq, decide_true]
      refine storeAgg (n := 2) (by kernel_rfl) hw7.blk rfl (by simp) (by simp [Value.oneCell']) ?_
      intro w8 hw8
      have s6 := hw6.size
      have s7 := hw7.size
      have s8 := hw8.size
      have hblt := hbox4.lt
      have o6 := hw6.own (base := w5.heap.size) (k := 3) (n := 1) (enc := encIn) (l := [⟨3, 1 + (kk : Int), 0⟩]) rfl rfl (fun _ => rfl) (Nat.le_refl _) (by omega)
      have k58 : Kept (fun j => w5.heap.size ≤ j) w5 w8 := ((Kept.new hw6).trans (Kept.new hw7 (X := fun _ => False)) (fun _ _ h => h.elim)).trans hw8.kept (fun i _ h => by omega)
      have o8 := (o6.new hw7).keptX hw8.kept (fun g hg h => by simp [Value.ownBlock] at hg; omega)
      have hbd : Blk w8 w6.heap.size 25 [.slice a1 c.sets.length c1, .slice (some ⟨w5.heap.size, 0, none⟩) 1 1] := hw8.blk
      have hbdw : w5.heap.size < w6.heap.size := by omega
      generalize w6.heap.size = bd at hbd hbdw
      clear hw6 hw7 hw8 s6 s7 s8 o6 d1 d3
      simp -dsimp only [push_cast, Nat.reduceAdd, Nat.reduceLeDiff, Nat.reduceBEq, decide_true]
      refine wpL_loop [39, 40, 41, 42, 43, 44, 45, 46, 47, 48, 49] (fun z wx => ∃ (j : Nat) (a : Option Addr) (cp : Nat), j ≤ kk ∧ Blk wx bd 25 [.slice a1 c.sets.length c1, .slice a (j + 1) cp] ∧ Own w5.heap.size 31 3 encIn wx (.slice a (j + 1) cp) (⟨3, 1 + (kk : Int), 0⟩ :: List.replicate j ⟨5, 0, 0⟩) ∧
        (∀ g, (Value.slice a (j + 1) cp).ownBlock = some g → g ≠ bd) ∧ Kept (fun j => w5.heap.size ≤ j) w5 wx) (fun z wx => match wx.cell? ⟨bd, 1, none⟩ with | some (.slice _ n _) => 20 - n | _ => 0) ?_ ?_
      · exact ⟨0, _, _, Nat.zero_le _, hbd, o8, fun g hg => by simp [Value.ownBlock] at hg; omega, k58⟩
      · intro z wx hI
        obtain ⟨j, a, cp, hj, hbx, hox, hgx, hkx⟩ := hI
        have f1 : wx.cell? ⟨bd, 1, none⟩ = some (.slice a (j + 1) cp) := hbx.cell rfl
        simp -dsimp only [push_cast, Nat.reduceAdd, Nat.reduceLeDiff, Nat.reduceBEq, decide_true, f1]
        have hsx := hkx.size
        refine ⟨fun hlt => ?_, fun hge => ?_⟩
        · refine rowK elI_23 rfl rfl (by omega) ?_
          intro w9 hw9
          simp -dsimp only [push_cast, Nat.reduceAdd, Nat.reduceLeDiff, Nat.reduceBEq, decide_true]
          have k9 : Kept (fun _ => False) wx w9 := Kept.new hw9
          have s9 := hw9.size
          refine appendK2 (base := w5.heap.size) [⟨5, 0, 0⟩] (enc := encIn) elI_23 (hox.new hw9) rfl (fun j u hu => by simpa using hw9.cell hu) (by simp [encIn, Value.oneCell']) (by simp only [List.length_cons, List.length_nil, List.length_replicate]; omega) (by omega) ?_
          intro v' w10 ho10 hg10 hn10
          have kg : Kept (fun i => (Value.slice a (j + 1) cp).ownBlock = some i) w9 w10 := Kept.grown hg10 (fun _ h => h)
          have hbx10 := (hbx.kept k9 id).kept kg (fun h => hgx _ h rfl)
          have he : (⟨3, 1 + (kk : Int), 0⟩ :: List.replicate j (⟨5, 0, 0⟩ : I3)) ++ [⟨5, 0, 0⟩] = ⟨3, 1 + (kk : Int), 0⟩ :: List.replicate (j + 1) ⟨5, 0, 0⟩ := by rw [List.replicate_succ', List.cons_append]
          rw [he] at ho10
          obtain ⟨a', cp', hv'⟩ := ho10.slice
          have hlen : (⟨3, 1 + (kk : Int), 0⟩ :: List.replicate (j + 1) (⟨5, 0, 0⟩ : I3)).length = j + 1 + 1 := by simp
          rw [hlen] at hv'
          subst hv'
          simp -dsimp only [push_cast, Nat.reduceAdd, Nat.reduceLeDiff, Nat.reduceBEq, decide_true]
          refine storeK_of hbx10 (by simp) rfl ?_
          intro w11 hw11
          simp -dsimp only [push_cast, Nat.reduceAdd, Nat.reduceLeDiff, Nat.reduceBEq, decide_true]
          have hob := fun g hg => (hox.block g hg)
          have hgn : ∀ g, (Value.slice a' (j + 1 + 1) cp').ownBlock = some g → g ≠ bd := fun g hg => by
            rcases hn10 g hg with h | h
            · exact hgx g h
            · have := hbx.lt; omega
          have k11 : Kept (fun j => w5.heap.size ≤ j) w5 w11 := ((hkx.trans k9 (fun _ _ h => h.elim)).trans kg (fun i _ h => (hob i h).1)).trans hw11.kept (fun i _ h => by omega)
          have f1' : w11.cell? ⟨bd, 1, none⟩ = some (.slice a' (j + 1 + 1) cp') := hw11.blk.cell rfl
          refine ⟨⟨j + 1, a', cp', by omega, hw11.blk, ho10.keptX hw11.kept (fun g hg h => hgn g hg h), hgn, k11⟩, ?_⟩
          rw [f1, f1']
          show 20 - (j + 1 + 1) < 20 - (j + 1)
          omega
        · have hjk : j = kk := by omega
          subst hjk
          refine wpL_loop [9, 10, 50, 51, 52, 53, 54, 55, 56, 57, 58, 59, 60, 61, 62, 63, 64, 65, 66, 67, 68, 69, 70, 71, 72, 73, 74, 75, 76, 77, 78, 79, 80, 81, 82, 83, 84, 85, 86, 87, 88] (fun z' wy => ∃ (i : Nat) (a : Option Addr) (cp : Nat), z' 9 = .int .i64 i ∧ i ≤ c.ins.length ∧ Blk wy bd 25 [.slice a1 c.sets.length c1, .slice a (j + 1 + i) cp] ∧ Own w5.heap.size 31 3 encIn wy (.slice a (j + 1 + i) cp) ((⟨3, 1 + (j : Int), 0⟩ :: List.replicate j ⟨5, 0, 0⟩) ++ (c.ins.take i).map (shiftI (1 + j))) ∧
            (∀ g, (Value.slice a (j + 1 + i) cp).ownBlock = some g → g ≠ bd) ∧ Kept (fun j => w5.heap.size ≤ j) w5 wy) (fun z' _ => c.ins.length - (intOf (z' 9)).toNat) ?_ ?_
          · exact ⟨0, a, cp, rfl, Nat.zero_le _, hbx, by simpa using hox, hgx, hkx⟩
          · clear hkx hgx hox hbx f1 hsx hge
            intro z' wy hI
            obtain ⟨i, a, cp, h9, hi, hbx, hox, hgx, hkx⟩ := hI
            have f1 : wy.cell? ⟨bd, 1, none⟩ = some (.slice a (j + 1 + i) cp) := hbx.cell rfl
            have hsx := hkx.size
            have hboxy := hbox4.kept hkx (by omega)
            have g1 : wy.cell? ⟨w.heap.size, 1, none⟩ = some (.slice a2 c.ins.length c2) := hboxy.cell rfl
            have hBy : Below w.heap.size w wy := hB4.trans (hkx.below (by omega) (fun _ h => by omega))
            simp -dsimp only [push_cast, Nat.reduceAdd, Nat.reduceLeDiff, Nat.reduceBEq, decide_true, h9, g1]
            refine ⟨fun hlt => ?_, fun hge => ?_⟩
            · have hex : ∃ (x : I3) (bi oi : Nat), c.ins[i]? = some x ∧ a2 = some ⟨bi, oi, none⟩ ∧ cellsAt wy ⟨bi, oi + i * 3, none⟩ 0 3 = some [.int .i64 x.op, .int .i64 x.a, .int .i64 x.b] ∧ c.ins.take (i + 1) = c.ins.take i ++ [x] := by
                obtain ⟨x, hx, _, _, ht⟩ := lt_get (l := c.ins) (i := i) (by omega)
                obtain ⟨bi, oi, hai, _, hcelli⟩ := (hiv.below hBy).get hx
                exact ⟨x, bi, oi, hx, hai, cellsAt_of (encIn x) 0 (fun j u hu => by simpa using hcelli j u hu), ht⟩
              refine Exists.elim hex fun x hex => Exists.elim hex fun bi hex => Exists.elim hex fun oi hex => ?_
              have hx := hex.1
              have hai := hex.2.1
              have ci := hex.2.2.1
              have htk := hex.2.2.2
              clear hex
              have hin := insRight_cases (hc.ins i x hx)
              simp -dsimp only [push_cast, Nat.reduceAdd, Nat.reduceLeDiff, Nat.reduceBEq, decide_true, indexAddrK_at hai, ci]
              refine ⟨⟨by omega, by omega⟩, ?_⟩
              refine allocK (z := [.int .i64 0, .int .i64 0, .int .i64 0]) (by kernel_rfl) ?_
              intro wz0 hwz0
              simp -dsimp only [push_cast, Nat.reduceAdd, Nat.reduceLeDiff, Nat.reduceBEq, decide_true]
              refine storeAgg (n := 3) (by kernel_rfl) hwz0.blk rfl (by simp) (by simp [Value.oneCell']) ?_
              intro wz hwz
              have sz0 := hwz0.size
              have szz := hwz.size
              have kz : Kept (fun k => k = wy.heap.size) wy wz := (Kept.new hwz0).trans hwz.kept (fun _ _ h => h)
              have hBx : Blk wz wy.heap.size 31 [.int .i64 x.op, .int .i64 x.a, .int .i64 x.b] := hwz.blk
              have q0 : wz.cell? ⟨wy.heap.size, 0, none⟩ = some (.int .i64 x.op) := hBx.cell rfl
              have q1 : wz.cell? ⟨wy.heap.size, 1, none⟩ = some (.int .i64 x.a) := hBx.cell rfl
              have q2 : wz.cell? ⟨wy.heap.size, 2, none⟩ = some (.int .i64 x.b) := hBx.cell rfl
              have hbdlt := hbx.lt
              clear hwz hwz0
              simp -dsimp only [push_cast, Nat.reduceAdd, Nat.reduceLeDiff, Nat.reduceBEq, decide_true, q0, q1, q2]
              refine ⟨fun h2 => ⟨⟨by omega, by omega⟩, ⟨by omega, by omega⟩, ?_⟩, fun h2 => ⟨fun h3 => ⟨⟨by omega, by omega⟩, ?_⟩, fun h3 => ?_⟩⟩
              · refine storeK_of hBx (by simp) rfl ?_
                intro wa hwa
                simp -dsimp only [push_cast, Nat.reduceAdd, Nat.reduceLeDiff, Nat.reduceBEq, decide_true]
                refine storeK_of hwa.blk (by simp) rfl ?_
                intro wb hwb
                have kzb : Kept (fun k => k = wy.heap.size) wy wb := kz.trans (hwa.kept.trans hwb.kept (fun _ _ h => h)) (fun _ _ h => h)
                have szb : wb.heap.size = wy.heap.size + 1 := by rw [hwb.size, hwa.size]; omega
                have hsh : shiftI (1 + j) x = ⟨x.op, x.a + (1 + (j : Int)), x.b + (1 + (j : Int))⟩ := by unfold shiftI; rw [if_pos h2]; simp
                have hBb : Blk wb wy.heap.size 31 [.int .i64 (shiftI (1 + j) x).op, .int .i64 (shiftI (1 + j) x).a, .int .i64 (shiftI (1 + j) x).b] := by rw [hsh]; exact hwb.blk
                have f1b := kzb.cell f1 (by show ¬ bd = wy.heap.size; omega)
                have cb := hBb.cellsAt
                simp only [List.length_cons, List.length_nil, Nat.zero_add, Nat.reduceAdd] at cb
                simp -dsimp only [push_cast, Nat.reduceAdd, Nat.reduceLeDiff, Nat.reduceBEq, decide_true, f1b, cb]
                refine rowK elI_23 rfl rfl (by omega) ?_
                intro w9 hw9
                simp -dsimp only [push_cast, Nat.reduceAdd, Nat.reduceLeDiff, Nat.reduceBEq, decide_true]
                have k9 := kzb.trans (Kept.new hw9 (X := fun _ => False)) (fun _ _ h => h.elim)
                have s9 := hw9.size
                have ho9 := (hox.keptX kzb (fun g hg h => by have := hox.block g hg; omega)).new hw9
                refine appendK2 (base := w5.heap.size) [shiftI (1 + j) x] (enc := encIn) elI_23 ho9 rfl (fun j u hu => by simpa [encIn] using hw9.cell hu) (by simp [encIn, Value.oneCell']) (by simp only [List.length_cons, List.length_nil, List.length_replicate, List.length_append, List.length_map, List.length_take]; omega) (by omega) ?_
                intro v' w10 ho10 hg10 hn10
                have kg : Kept (fun k => (Value.slice a (j + 1 + i) cp).ownBlock = some k) w9 w10 := Kept.grown hg10 (fun _ h => h)
                have hbx10 := (hbx.kept k9 (by omega)).kept kg (fun h => hgx _ h rfl)
                rw [List.append_assoc, ← List.map_singleton, ← List.map_append, ← htk] at ho10
                obtain ⟨a', cp', hv'⟩ := ho10.slice
                have hlen : ((⟨3, 1 + (j : Int), 0⟩ :: List.replicate j (⟨5, 0, 0⟩ : I3)) ++ (c.ins.take (i + 1)).map (shiftI (1 + j))).length = j + 1 + (i + 1) := by
                  simp only [List.length_cons, List.length_replicate, List.length_append, List.length_map, List.length_take]; omega
                rw [hlen] at hv'
                subst hv'
                simp -dsimp only [push_cast, Nat.reduceAdd, Nat.reduceLeDiff, Nat.reduceBEq, decide_true]
                refine storeK_of hbx10 (by simp) rfl ?_
                intro w11 hw11
                simp -dsimp only [push_cast, Nat.reduceAdd, Nat.reduceLeDiff, Nat.reduceBEq, decide_true]
                have hob := fun g hg => (hox.block g hg)
                have hgn : ∀ g, (Value.slice a' (j + 1 + (i + 1)) cp').ownBlock = some g → g ≠ bd := fun g hg => by
                  rcases hn10 g hg with h | h
                  · exact hgx g h
                  · omega
                have k11 : Kept (fun k => w5.heap.size ≤ k) w5 w11 := ((hkx.trans k9 (fun i _ h => by omega)).trans kg (fun i _ h => (hob i h).1)).trans hw11.kept (fun i _ h => by omega)
                exact ⟨⟨by omega, by omega⟩, ⟨i + 1, a', cp', rfl, by omega, hw11.blk, ho10.keptX hw11.kept (fun g hg h => hgn g hg h), hgn, k11⟩, by rw [h9]; simp only [intOf]; omega⟩
              · refine storeK_of hBx (by simp) rfl ?_
                intro wb hwb
                have kzb : Kept (fun k => k = wy.heap.size) wy wb := kz.trans hwb.kept (fun _ _ h => h)
                have szb : wb.heap.size = wy.heap.size + 1 := by rw [hwb.size]; omega
                have hsh : shiftI (1 + j) x = ⟨x.op, x.a + (1 + (j : Int)), x.b⟩ := by unfold shiftI; rw [if_neg h2, if_pos h3]; simp
                have hBb : Blk wb wy.heap.size 31 [.int .i64 (shiftI (1 + j) x).op, .int .i64 (shiftI (1 + j) x).a, .int .i64 (shiftI (1 + j) x).b] := by rw [hsh]; exact hwb.blk
                have f1b := kzb.cell f1 (by show ¬ bd = wy.heap.size; omega)
                have cb := hBb.cellsAt
                simp only [List.length_cons, List.length_nil, Nat.zero_add, Nat.reduceAdd] at cb
                simp -dsimp only [push_cast, Nat.reduceAdd, Nat.reduceLeDiff, Nat.reduceBEq, decide_true, f1b, cb]
                refine rowK elI_23 rfl rfl (by omega) ?_
                intro w9 hw9
                simp -dsimp only [push_cast, Nat.reduceAdd, Nat.reduceLeDiff, Nat.reduceBEq, decide_true]
                have k9 := kzb.trans (Kept.new hw9 (X := fun _ => False)) (fun _ _ h => h.elim)
                have s9 := hw9.size
                have ho9 := (hox.keptX kzb (fun g hg h => by have := hox.block g hg; omega)).new hw9
                refine appendK2 (base := w5.heap.size) [shiftI (1 + j) x] (enc := encIn) elI_23 ho9 rfl (fun j u hu => by simpa [encIn] using hw9.cell hu) (by simp [encIn, Value.oneCell']) (by simp only [List.length_cons, List.length_nil, List.length_replicate, List.length_append, List.length_map, List.length_take]; omega) (by omega) ?_
                intro v' w10 ho10 hg10 hn10
                have kg : Kept (fun k => (Value.slice a (j + 1 + i) cp).ownBlock = some k) w9 w10 := Kept.grown hg10 (fun _ h => h)
                have hbx10 := (hbx.kept k9 (by omega)).kept kg (fun h => hgx _ h rfl)
                rw [List.append_assoc, ← List.map_singleton, ← List.map_append, ← htk] at ho10
                obtain ⟨a', cp', hv'⟩ := ho10.slice
                have hlen : ((⟨3, 1 + (j : Int), 0⟩ :: List.replicate j (⟨5, 0, 0⟩ : I3)) ++ (c.ins.take (i + 1)).map (shiftI (1 + j))).length = j + 1 + (i + 1) := by
                  simp only [List.length_cons, List.length_replicate, List.length_append, List.length_map, List.length_take]; omega
                rw [hlen] at hv'
                subst hv'
                simp -dsimp only [push_cast, Nat.reduceAdd, Nat.reduceLeDiff, Nat.reduceBEq, decide_true]
                refine storeK_of hbx10 (by simp) rfl ?_
                intro w11 hw11
                simp -dsimp only [push_cast, Nat.reduceAdd, Nat.reduceLeDiff, Nat.reduceBEq, decide_true]
                have hob := fun g hg => (hox.block g hg)
                have hgn : ∀ g, (Value.slice a' (j + 1 + (i + 1)) cp').ownBlock = some g → g ≠ bd := fun g hg => by
                  rcases hn10 g hg with h | h
                  · exact hgx g h
                  · omega
                have k11 : Kept (fun k => w5.heap.size ≤ k) w5 w11 := ((hkx.trans k9 (fun i _ h => by omega)).trans kg (fun i _ h => (hob i h).1)).trans hw11.kept (fun i _ h => by omega)
                exact ⟨⟨by omega, by omega⟩, ⟨i + 1, a', cp', rfl, by omega, hw11.blk, ho10.keptX hw11.kept (fun g hg h => hgn g hg h), hgn, k11⟩, by rw [h9]; simp only [intOf]; omega⟩
              · have hBb : Blk wz wy.heap.size 31 [.int .i64 (shiftI (1 + j) x).op, .int .i64 (shiftI (1 + j) x).a, .int .i64 (shiftI (1 + j) x).b] := by
                  have hsh : shiftI (1 + j) x = x := by unfold shiftI; rw [if_neg h2, if_neg h3]
                  rw [hsh]; exact hBx
                have kzb := kz
                have szb : wz.heap.size = wy.heap.size + 1 := by omega
                have f1b := kzb.cell f1 (by show ¬ bd = wy.heap.size; omega)
                have cb := hBb.cellsAt
                simp only [List.length_cons, List.length_nil, Nat.zero_add, Nat.reduceAdd] at cb
                simp -dsimp only [push_cast, Nat.reduceAdd, Nat.reduceLeDiff, Nat.reduceBEq, decide_true, f1b, cb]
                refine rowK elI_23 rfl rfl (by omega) ?_
                intro w9 hw9
                simp -dsimp only [push_cast, Nat.reduceAdd, Nat.reduceLeDiff, Nat.reduceBEq, decide_true]
                have k9 := kzb.trans (Kept.new hw9 (X := fun _ => False)) (fun _ _ h => h.elim)
                have s9 := hw9.size
                have ho9 := (hox.keptX kzb (fun g hg h => by have := hox.block g hg; omega)).new hw9
                refine appendK2 (base := w5.heap.size) [shiftI (1 + j) x] (enc := encIn) elI_23 ho9 rfl (fun j u hu => by simpa [encIn] using hw9.cell hu) (by simp [encIn, Value.oneCell']) (by simp only [List.length_cons, List.length_nil, List.length_replicate, List.length_append, List.length_map, List.length_take]; omega) (by omega) ?_
                intro v' w10 ho10 hg10 hn10
                have kg : Kept (fun k => (Value.slice a (j + 1 + i) cp).ownBlock = some k) w9 w10 := Kept.grown hg10 (fun _ h => h)
                have hbx10 := (hbx.kept k9 (by omega)).kept kg (fun h => hgx _ h rfl)
                rw [List.append_assoc, ← List.map_singleton, ← List.map_append, ← htk] at ho10
                obtain ⟨a', cp', hv'⟩ := ho10.slice
                have hlen : ((⟨3, 1 + (j : Int), 0⟩ :: List.replicate j (⟨5, 0, 0⟩ : I3)) ++ (c.ins.take (i + 1)).map (shiftI (1 + j))).length = j + 1 + (i + 1) := by
                  simp only [List.length_cons, List.length_replicate, List.length_append, List.length_map, List.length_take]; omega
                rw [hlen] at hv'
                subst hv'
                simp -dsimp only [push_cast, Nat.reduceAdd, Nat.reduceLeDiff, Nat.reduceBEq, decide_true]
                refine storeK_of hbx10 (by simp) rfl ?_
                intro w11 hw11
                simp -dsimp only [push_cast, Nat.reduceAdd, Nat.reduceLeDiff, Nat.reduceBEq, decide_true]
                have hob := fun g hg => (hox.block g hg)
                have hgn : ∀ g, (Value.slice a' (j + 1 + (i + 1)) cp').ownBlock = some g → g ≠ bd := fun g hg => by
                  rcases hn10 g hg with h | h
                  · exact hgx g h
                  · omega
                have k11 : Kept (fun k => w5.heap.size ≤ k) w5 w11 := ((hkx.trans k9 (fun i _ h => by omega)).trans kg (fun i _ h => (hob i h).1)).trans hw11.kept (fun i _ h => by omega)
                exact ⟨⟨by omega, by omega⟩, ⟨i + 1, a', cp', rfl, by omega, hw11.blk, ho10.keptX hw11.kept (fun g hg h => hgn g hg h), hgn, k11⟩, by rw [h9]; simp only [intOf]; omega⟩
            · have hii : i = c.ins.length := by omega
              subst hii
              rw [List.take_length] at hox
              have hdc : (⟨3, 1 + (j : Int), 0⟩ :: List.replicate j (⟨5, 0, 0⟩ : I3)) ++ c.ins.map (shiftI (1 + j)) = (moved (1 + j) c).ins := by
                simp only [moved, Nat.add_sub_cancel_left]
                rfl
              rw [hdc] at hox
              have hdl := moved_len (show 1 ≤ 1 + j by omega) c
              have cy := hboxy.cellsAt
              simp only [List.length_cons, List.length_nil, Nat.zero_add, Nat.reduceAdd] at cy
              have hRd := moved_right (k := 1 + j) (by omega) (by omega) hl2 hR
              have hst := vmatch_steps c ps
              have hst2 : (ps.length + 1) * (c.ins.length + 1) ≤ 31 * 61 := Nat.mul_le_mul (by omega) (by omega)
              simp -dsimp only [push_cast, Nat.reduceAdd, Nat.reduceLeDiff, Nat.reduceBEq, decide_true, cy]
              refine callK_of (match_c c ps hl3 (by omega) (by omega) (by omega) X Xp _ _ wy (hv.below hBy) (hpv.below hBy)) ?_
              rintro _ wr ⟨rfl, hbr⟩
              have hBr := hBy.trans (hbr.mono hBy.size)
              have eM : MatchV c ps = .tuple #[.bool (vmatch c ps).1, .int .i64 (vmatch c ps).2, .nilIface] := by unfold MatchV; rw [hR]; rfl
              rw [eM]
              have cd := (hbx.below hbr hbx.lt).cellsAt
              simp only [List.length_cons, List.length_nil, Nat.zero_add, Nat.reduceAdd] at cd
              have hdv : CodeV (fun _ => False) wr (.agg #[.slice a1 c.sets.length c1, .slice a (j + 1 + c.ins.length) cp]) (moved (1 + j) c) :=
                ⟨_, _, rfl, (hsv.below hBr).mono (fun _ _ _ => rfl) (fun _ h => h.elim), (hox.sl.below hbr).weaken (fun _ h => h.elim)⟩
              simp -dsimp only [push_cast, Nat.reduceAdd, Nat.reduceLeDiff, Nat.reduceBEq, decide_true, cd]
              refine callK_of (match_c (moved (1 + j) c) ps hl3 (by omega) (by show c.sets.length < _; omega) (by omega) _ Xp _ _ wr hdv (hpv.below hBr)) ?_
              rintro _ ws ⟨rfl, hbs⟩
              have eM2 : MatchV (moved (1 + j) c) ps = .tuple #[.bool (vmatch c ps).1, .int .i64 ((vmatch c ps).2 + 1 : Nat), .nilIface] := by
                unfold MatchV; rw [hRd, vmatch_moved (by omega) hc]; rfl
              rw [eM2]
              have hBs := hBr.trans (hbs.mono hBr.size)
              simp -dsimp only [push_cast, Nat.reduceAdd, Nat.reduceLeDiff, Nat.reduceBEq, decide_true, ne_eq, eq_self, not_true_eq_false, not_false_eq_true, true_imp_iff, false_imp_iff, Int.reduceNe, Int.reduceEq, Int.reduceLT, Int.reduceLE, Bool.not_true, Bool.not_false]
              rw [beq_self_eq_true]
              simp -dsimp only [push_cast, Nat.reduceAdd, Nat.reduceLeDiff, Nat.reduceBEq, decide_true, ne_eq, eq_self, not_true_eq_false, not_false_eq_true, true_imp_iff, false_imp_iff, Int.reduceNe, Int.reduceEq, Int.reduceLT, Int.reduceLE, Bool.not_true, Bool.not_false]
              exact ⟨⟨by omega, by omega⟩, hBs⟩
end Go.Proofs.Ytnfmbobpagamhaa
