import Derived.Test.YtimjpijbcnjaaaaDoorOp4
import Derived.Test.YtimjpijbcnjaaaaDoorPop
namespace Go.Proofs.YtimjpijbcnjaaaaDoor
open Go.Vc Go.Proofs Go.RowKit Cae
set_option maxRecDepth 100000
set_option linter.unusedSimpArgs false
set_option linter.unusedVariables false
attribute [local irreducible] wpL callK valK unitK runK Fun Sl Own vc vcOps opK pureK
set_option maxHeartbeats 8000000
attribute [local irreducible] threadedP lessP

theorem codeYes_c (x : I3) (w : World) : Fun Tryd.prog 62 [.agg #[.int .i64 x.op, .int .i64 x.a, .int .i64 x.b]] w fun r w' => r = .bool (decide (x.op = 5)) ∧ Below w.heap.size w w' := by
  refine fun_of_vc Tryd.func62 rfl (by kernel_rfl) [2] rfl ?_
  simp -dsimp only [push_cast, fr0, Tryd.ntmps62, List.length_cons, List.length_nil, Nat.reduceAdd, Nat.reduceSub, Nat.reduceBEq, List.replicate_succ, List.replicate_zero]
  refine boxK_of ?_
  intro w1 hw1
  have c0 : w1.cell? ⟨w.heap.size, 0, none⟩ = some (.int .i64 x.op) := hw1.cell rfl
  simp -dsimp only [push_cast, Nat.reduceAdd, Nat.reduceLeDiff, Nat.reduceBEq, decide_true, ne_eq, eq_self, not_true_eq_false, not_false_eq_true, true_imp_iff, false_imp_iff, Int.reduceNe, Int.reduceEq, Int.reduceLT, Int.reduceLE, Bool.not_true, Bool.not_false, c0]
  exact hw1.below

/-- What 'never' holds. -/
def NeverVar (w : World) : Prop := ∃ a cp, w.cell? ⟨0, 1, none⟩ = some (.slice a 2 cp) ∧ Sl (fun _ => False) 3 (En encIn) w (.slice a 2 cp) [⟨1, 0, 0⟩, ⟨5, 0, 0⟩]
theorem NeverVar.below {w w' : World} (h : NeverVar w) (hb : Below w.heap.size w w') : NeverVar w' := by
  obtain ⟨a, cp, h1, h2⟩ := h
  exact ⟨a, cp, (Kept.of_below hb (X := fun _ => False) (fun k hk hl => by omega)).cell h1 id, h2.below hb⟩

/-- What 'Code' answers. -/
def CodeR (X : Nat → Prop) (c : CodeP) (r : Value) (w' : World) : Prop :=
  if codeRight c = true then ∃ d v, r = .tuple #[v, .nilIface] ∧ LessOf c d ∧ CodeV X w' v d else r = .tuple #[.agg #[.slice none 0 0, .slice none 0 0], .iface 33 (.int .i64 1)]

theorem code_c (c : CodeP) (hlens : SetsLen c) (hi : c.ins.length < 1000000) (hs : c.sets.length < 1000000) (X : Nat → Prop) (v : Value) (w : World) (hX : ∀ b, X b → b < w.heap.size) (hN : NeverVar w) (hv : CodeV X w v c) :
    Fun Tryd.prog 27 [v] w fun r w' => CodeR X c r w' ∧ Below w.heap.size w w' := by
  have hv0 := hv
  obtain ⟨sv, iv, rfl, hsv, hiv⟩ := hv
  obtain ⟨a, cp, rfl, hcp⟩ := hiv.shape
  have hsv0 := hsv.shape
  obtain ⟨sa, sc, rfl, hsc⟩ := hsv0
  refine fun_of_vcC Tryd.func27 rfl (by kernel_rfl) [.cell 2 25, .tmp 3] rfl ?_
  simp -dsimp only [push_cast, fr0, Tryd.ntmps27, List.length_cons, List.length_nil, Nat.reduceAdd, Nat.reduceSub, Nat.reduceBEq, List.replicate_succ, List.replicate_zero]
  refine boxK_of ?_
  intro w1 hw1
  have hw1 : New w w1 25 [.slice sa c.sets.length sc, .slice a c.ins.length cp] := hw1
  have sz1 := hw1.size
  simp -dsimp only [push_cast, Nat.reduceAdd, Nat.reduceLeDiff, Nat.reduceBEq, decide_true]
  refine allocK (z := [.slice none 0 0, .slice none 0 0]) (by kernel_rfl) ?_
  intro w2 hw2
  have sz2 := hw2.size
  have hb2 : Below w.heap.size w w2 := hw1.below.trans (hw2.below.mono (by omega))
  have hB2 : Blk w2 w.heap.size 25 [.slice sa c.sets.length sc, .slice a c.ins.length cp] := hw1.blk.below hw2.below (by omega)
  have hR2 : Blk w2 w1.heap.size 25 [.slice none 0 0, .slice none 0 0] := hw2.blk
  have d2 := hB2.cellsAt
  simp only [List.length_cons, List.length_nil, Nat.zero_add, Nat.reduceAdd] at d2
  simp -dsimp only [push_cast, Nat.reduceAdd, Nat.reduceLeDiff, Nat.reduceBEq, decide_true, ne_eq, eq_self, not_true_eq_false, not_false_eq_true, true_imp_iff, false_imp_iff, Int.reduceNe, Int.reduceEq, Int.reduceLT, Int.reduceLE, Bool.not_true, Bool.not_false, d2]
  refine callK_of (Right_c c hlens (by omega) (by omega) _ _ w2 (hv0.below hb2)) ?_
  rintro _ w3 ⟨rfl, hb3⟩
  have sz3 := hb3.size
  have hB3 := hB2.below hb3 (by omega)
  have hR3 := hR2.below hb3 (by omega)
  have hw3 : Below w.heap.size w w3 := hb2.trans (hb3.mono (by omega))
  unfold CodeR
  cases hR : codeRight c with
  | false =>
    simp -dsimp only [push_cast, Nat.reduceAdd, Nat.reduceLeDiff, Nat.reduceBEq, decide_true, ne_eq, eq_self, not_true_eq_false, not_false_eq_true, true_imp_iff, false_imp_iff, Int.reduceNe, Int.reduceEq, Int.reduceLT, Int.reduceLE, Bool.not_true, Bool.not_false]
    refine storeAgg (n := 2) (by kernel_rfl) hR3 rfl (by simp) (by simp [Value.oneCell']) ?_
    intro w4 hw4
    have q4 : cellsAt w4 ⟨w1.heap.size, 0, none⟩ 0 2 = some [.slice none 0 0, .slice none 0 0] := hw4.blk.cellsAt
    simp -dsimp only [push_cast, Nat.reduceAdd, Nat.reduceLeDiff, Nat.reduceBEq, decide_true, ne_eq, eq_self, not_true_eq_false, not_false_eq_true, true_imp_iff, false_imp_iff, Int.reduceNe, Int.reduceEq, Int.reduceLT, Int.reduceLE, Bool.not_true, Bool.not_false, q4, Bool.false_eq_true, if_false]
    exact hw3.trans (hw4.kept.below (by omega) (fun _ h => by omega))
  | true =>
    have hCR := CR.of hR
    have d3 := hB3.cellsAt
    simp only [List.length_cons, List.length_nil, Nat.zero_add, Nat.reduceAdd] at d3
    simp -dsimp only [push_cast, Nat.reduceAdd, Nat.reduceLeDiff, Nat.reduceBEq, decide_true, ne_eq, eq_self, not_true_eq_false, not_false_eq_true, true_imp_iff, false_imp_iff, Int.reduceNe, Int.reduceEq, Int.reduceLT, Int.reduceLE, Bool.not_true, Bool.not_false, d3]
    refine allocK (z := [.slice none 0 0, .slice none 0 0]) (by kernel_rfl) ?_
    intro w4 hw4
    have sz4 := hw4.size
    simp -dsimp only [push_cast, Nat.reduceAdd, Nat.reduceLeDiff, Nat.reduceBEq, decide_true]
    refine storeAgg (n := 2) (by kernel_rfl) hw4.blk rfl (by simp) (by simp [Value.oneCell']) ?_
    intro w5 hw5
    have sz5 := hw5.size
    have k5 : Kept (fun j => j = w3.heap.size) w3 w5 := (Kept.new hw4).trans hw5.kept (fun _ _ h => h)
    have hB5 := hB3.kept k5 (by omega)
    have hR5 := hR3.kept k5 (by omega)
    have hW5 : Blk w5 w3.heap.size 25 [.slice sa c.sets.length sc, .slice a c.ins.length cp] := hw5.blk
    have hb5 : Below w.heap.size w w5 := hw3.trans (k5.below (by omega) (fun _ h => by omega))
    have hvb : CodeV (fun j => X j ∨ j = w.heap.size ∨ j = w1.heap.size) w (.agg #[.slice sa c.sets.length sc, .slice a c.ins.length cp]) c := hv0.narrow (fun b hb h => by rcases h with h | h | h; exact h; omega; omega)
    simp -dsimp only [push_cast, Nat.reduceAdd, Nat.reduceLeDiff, Nat.reduceBEq, decide_true, ne_eq, eq_self, not_true_eq_false, not_false_eq_true, true_imp_iff, false_imp_iff, Int.reduceNe, Int.reduceEq, Int.reduceLT, Int.reduceLE, Bool.not_true, Bool.not_false]
    refine wpL_loop [11, 12, 13, 14, 15, 16, 17, 18, 19, 20, 21, 22, 23, 24, 25] (fun z wx => ∃ (k : Nat) (d : CodeP) (sa' : Option Addr) (sc' : Nat) (a' : Option Addr) (c' : Nat), z 11 = .int .i64 k ∧ k ≤ 3 ∧ LessOf c d ∧ Blk wx w.heap.size 25 [.slice sa' d.sets.length sc', .slice a' d.ins.length c'] ∧ CodeV (fun j => X j ∨ j = w.heap.size ∨ j = w1.heap.size) wx (.agg #[.slice sa' d.sets.length sc', .slice a' d.ins.length c']) d ∧
        Blk wx w1.heap.size 25 [.slice none 0 0, .slice none 0 0] ∧ Blk wx w3.heap.size 25 [.slice sa c.sets.length sc, .slice a c.ins.length cp] ∧ Below w.heap.size w wx ∧ w5.heap.size ≤ wx.heap.size) (fun z _ => 3 - (intOf (z 11)).toNat) ?_ ?_
    · exact ⟨0, c, sa, sc, a, cp, rfl, by omega, LessOf.refl hCR hlens, hB5, hvb.below hb5, hR5, hW5, hb5, Nat.le_refl _⟩
    · intro z wx hI
      obtain ⟨k, d, sa', sc', a', c', h11, hk3, hL, hBx, hvx, hRx, hWx, hbx, szx⟩ := hI
      simp -dsimp only [push_cast, Nat.reduceAdd, Nat.reduceLeDiff, Nat.reduceBEq, decide_true, ne_eq, eq_self, not_true_eq_false, not_false_eq_true, true_imp_iff, false_imp_iff, Int.reduceNe, Int.reduceEq, Int.reduceLT, Int.reduceLE, Bool.not_true, Bool.not_false, h11]
      refine ⟨fun hlt => ?_, fun hge => ?_⟩
      · have dx := hBx.cellsAt
        simp only [List.length_cons, List.length_nil, Nat.zero_add, Nat.reduceAdd] at dx
        simp -dsimp only [push_cast, Nat.reduceAdd, Nat.reduceLeDiff, Nat.reduceBEq, decide_true, ne_eq, eq_self, not_true_eq_false, not_false_eq_true, true_imp_iff, false_imp_iff, Int.reduceNe, Int.reduceEq, Int.reduceLT, Int.reduceLE, Bool.not_true, Bool.not_false, dx]
        refine callK_of (threaded_c d hL.cr (fun j => X j ∨ j = w.heap.size ∨ j = w1.heap.size) _ wx (fun b h => by rcases h with h | h | h; (have := hX b h; omega); omega; omega) hvx) ?_
        rintro tv wa ⟨hta, hba⟩
        have sza := hba.size
        have hT := hL.thread
        simp -dsimp only [push_cast, Nat.reduceAdd, Nat.reduceLeDiff, Nat.reduceBEq, decide_true, ne_eq, eq_self, not_true_eq_false, not_false_eq_true, true_imp_iff, false_imp_iff, Int.reduceNe, Int.reduceEq, Int.reduceLT, Int.reduceLE, Bool.not_true, Bool.not_false]
        refine callK_of (less_c (threadedP d) hT.cr (fun j => X j ∨ j = w.heap.size ∨ j = w1.heap.size) tv wa (fun b h => by rcases h with h | h | h; (have := hX b h; omega); omega; omega) hta hT.lens) ?_
        rintro _ wb ⟨⟨is, sv2, iv2, rfl, hC, hsv2, hiv2⟩, hbb⟩
        have szb := hbb.size
        have hls := hT.lessened hC
        obtain ⟨hl1, hl2, hl3, hl4, hl5⟩ := hls
        have hge : ∃ e, e = lessP (threadedP d) is := ⟨_, rfl⟩
        obtain ⟨e, he⟩ := hge
        rw [← he] at hl1 hl2 hl3 hl4 hl5 hsv2 hiv2
        have hivs := hiv2.slice
        obtain ⟨a2, c2, rfl⟩ := hivs
        have hBb : Blk wb w.heap.size 25 [.slice sa' d.sets.length sc', .slice a' d.ins.length c'] := (hBx.below hba (by omega)).below hbb (by omega)
        have hRb := (hRx.below hba (by omega)).below hbb (by omega)
        have hWb := (hWx.below hba (by omega)).below hbb (by omega)
        have hwb : Below w.heap.size w wb := (hbx.trans (hba.mono (by omega))).trans (hbb.mono (by omega))
        have hs2 := hsv2.shape
        obtain ⟨sa2, sc2, rfl, _⟩ := hs2
        simp -dsimp only [push_cast, Nat.reduceAdd, Nat.reduceLeDiff, Nat.reduceBEq, decide_true, ne_eq, eq_self, not_true_eq_false, not_false_eq_true, true_imp_iff, false_imp_iff, Int.reduceNe, Int.reduceEq, Int.reduceLT, Int.reduceLE, Bool.not_true, Bool.not_false]
        refine storeAgg (n := 2) (by kernel_rfl) hBb rfl (by simp) (by simp [Value.oneCell']) ?_
        intro wc hwc
        have szc := hwc.size
        have hBc : Blk wc w.heap.size 25 [.slice sa2 e.sets.length sc2, .slice a2 e.ins.length c2] := hwc.blk
        have hRc := hRb.kept hwc.kept (by omega)
        have hWc := hWb.kept hwc.kept (by omega)
        have hwbc : Below w.heap.size w wc := hwb.trans (hwc.kept.below (by omega) (fun _ h => by omega))
        have hvc : CodeV (fun j => X j ∨ j = w.heap.size ∨ j = w1.heap.size) wc (.agg #[.slice sa2 e.sets.length sc2, .slice a2 e.ins.length c2]) e :=
          codeV_own (sets := e.sets) (base := wa.heap.size) (fun b h => by rcases h with h | h | h; (have := hX b h; omega); omega; omega) ((SetsV.kept hsv2 hwc.kept (fun b h => .inl (.inr (.inl h)))).mono (fun _ _ _ => rfl) (fun b h => .inl h)) (hiv2.keptX hwc.kept (fun g hg h => by have := hiv2.block g hg; omega)) rfl
        have hivc := hiv2.keptX hwc.kept (fun g hg h => by have := hiv2.block g hg; omega)
        have hsvc : SetsV (fun b => (X b ∨ b = w.heap.size ∨ b = w1.heap.size) ∨ (Value.slice a2 e.ins.length c2).ownBlock = some b) wc (.slice sa2 e.sets.length sc2) e.sets := SetsV.kept hsv2 hwc.kept (fun b h => .inl (.inr (.inl h)))
        have qc := hBc.cellsAt
        simp only [List.length_cons, List.length_nil, Nat.zero_add, Nat.reduceAdd] at qc
        simp -dsimp only [push_cast, Nat.reduceAdd, Nat.reduceLeDiff, Nat.reduceBEq, decide_true, ne_eq, eq_self, not_true_eq_false, not_false_eq_true, true_imp_iff, false_imp_iff, Int.reduceNe, Int.reduceEq, Int.reduceLT, Int.reduceLE, Bool.not_true, Bool.not_false, qc]
        refine callK_of (Right_c e hl5 (by omega) (by omega) _ _ wc hvc) ?_
        rintro _ wd ⟨rfl, hbd⟩
        have szd := hbd.size
        have hBd := hBc.below hbd (by omega)
        have hRd := hRc.below hbd (by omega)
        have hWd := hWc.below hbd (by omega)
        have hwbd : Below w.heap.size w wd := hwbc.trans (hbd.mono (by omega))
        cases hRe : codeRight e with
        | true =>
          have hLe := hl1 hRe
          simp -dsimp only [push_cast, Nat.reduceAdd, Nat.reduceLeDiff, Nat.reduceBEq, decide_true, ne_eq, eq_self, not_true_eq_false, not_false_eq_true, true_imp_iff, false_imp_iff, Int.reduceNe, Int.reduceEq, Int.reduceLT, Int.reduceLE, Bool.not_true, Bool.not_false]
          exact ⟨⟨by omega, by omega⟩, ⟨k + 1, e, sa2, sc2, a2, c2, rfl, by omega, hLe, hBd, hvc.below hbd, hRd, hWd, hwbd, by omega⟩, by rw [h11]; simp only [intOf]; omega⟩
        | false =>
          have hLe := hl2 hRe
          have hlm := hLe.cr.many
          have cd : wd.cell? ⟨w.heap.size, 1, none⟩ = some (.slice a2 e.ins.length c2) := hBd.cell rfl
          simp -dsimp only [push_cast, Nat.reduceAdd, Nat.reduceLeDiff, Nat.reduceBEq, decide_true, ne_eq, eq_self, not_true_eq_false, not_false_eq_true, true_imp_iff, false_imp_iff, Int.reduceNe, Int.reduceEq, Int.reduceLT, Int.reduceLE, Bool.not_true, Bool.not_false, cd]
          refine rowK elI_23 rfl rfl (by omega) ?_
          intro we hwe
          have sze := hwe.size
          have hive := (hivc.keptX (Kept.of_below hbd (X := fun _ => False) (fun k hk hl => by omega)) (fun _ _ h => h)).new hwe
          simp -dsimp only [push_cast, Nat.reduceAdd, Nat.reduceLeDiff, Nat.reduceBEq, decide_true, ne_eq, eq_self, not_true_eq_false, not_false_eq_true, true_imp_iff, false_imp_iff, Int.reduceNe, Int.reduceEq, Int.reduceLT, Int.reduceLE, Bool.not_true, Bool.not_false]
          refine appendK2 (base := wa.heap.size) [yesI] (enc := encIn) elI_23 hive (by rfl) (fun j u hu => by simpa [encIn] using hwe.cell hu) encIn_one (by simp only [List.length_cons, List.length_nil]; omega) (by omega) ?_
          intro ve wf hof hgf hnf
          have hvs := hof.slice
          obtain ⟨a3, c3, rfl⟩ := hvs
          have kf : Kept (fun j => (Value.slice a2 e.ins.length c2).ownBlock = some j) we wf := Kept.grown hgf (fun _ h => h)
          have ha7 : ∀ g, (Value.slice a2 e.ins.length c2).ownBlock = some g → wa.heap.size ≤ g := fun g hg => (hiv2.block g hg).1
          have kdf : Kept (fun j => (Value.slice a2 e.ins.length c2).ownBlock = some j) wd wf := (Kept.new hwe).trans kf (fun _ _ h => h)
          have szf := kdf.size
          have hBf := hBd.kept kdf (fun h => by have := ha7 _ h; omega)
          have hRf := hRd.kept kdf (fun h => by have := ha7 _ h; omega)
          have hWf := hWd.kept kdf (fun h => by have := ha7 _ h; omega)
          simp -dsimp only [push_cast, Nat.reduceAdd, Nat.reduceLeDiff, Nat.reduceBEq, decide_true, ne_eq, eq_self, not_true_eq_false, not_false_eq_true, true_imp_iff, false_imp_iff, Int.reduceNe, Int.reduceEq, Int.reduceLT, Int.reduceLE, Bool.not_true, Bool.not_false]
          refine storeK_of hBf (by simp) rfl ?_
          intro wg hwg
          have szg := hwg.size
          simp -dsimp only [push_cast, Nat.reduceAdd, Nat.reduceLeDiff, Nat.reduceBEq, decide_true, ne_eq, eq_self, not_true_eq_false, not_false_eq_true, true_imp_iff, false_imp_iff, Int.reduceNe, Int.reduceEq, Int.reduceLT, Int.reduceLE, Bool.not_true, Bool.not_false]
          have hvg : CodeV (fun j => X j ∨ j = w.heap.size ∨ j = w1.heap.size) wg (.agg #[.slice sa2 e.sets.length sc2, .slice a3 (e.ins ++ [yesI]).length c3]) ⟨e.sets, e.ins ++ [yesI]⟩ :=
            codeV_own (sets := e.sets) (base := wa.heap.size) (fun b h => by rcases h with h | h | h; (have := hX b h; omega); omega; omega) (SetsV.mono (SetsV.kept (SetsV.kept (hsvc.below hbd) kdf (fun b h => .inr h)) hwg.kept (fun b h => .inl (.inr (.inl h)))) (fun _ _ _ => rfl) (fun b h => .inl h)) (hof.keptX hwg.kept (fun g hg h => by have := (hof.block g hg).1; omega)) rfl
          exact ⟨⟨by omega, by omega⟩, ⟨k + 1, ⟨e.sets, e.ins ++ [yesI]⟩, sa2, sc2, a3, c3, rfl, by omega, hLe, hwg.blk, hvg, hRf.kept hwg.kept (by omega), hWf.kept hwg.kept (by omega), hwbd.trans ((kdf.below (by omega) (fun g h => by have := ha7 g h; omega)).trans (hwg.kept.below (by omega) (fun _ h => by omega))), by omega⟩, by rw [h11]; simp only [intOf]; omega⟩
      · have hkk : k = 3 := by omega
        subst hkk
        have hdm := hL.cr.many
        have hdl := hL.len
        have hvx0 := hvx
        obtain ⟨_, _, he, hsx, hix⟩ := hvx
        cases he
        have c1 : wx.cell? ⟨w.heap.size, 1, none⟩ = some (.slice a' d.ins.length c') := hBx.cell rfl
        simp -dsimp only [push_cast, Nat.reduceAdd, Nat.reduceLeDiff, Nat.reduceBEq, decide_true, ne_eq, eq_self, not_true_eq_false, not_false_eq_true, true_imp_iff, false_imp_iff, Int.reduceNe, Int.reduceEq, Int.reduceLT, Int.reduceLE, Bool.not_true, Bool.not_false, c1]
        refine callK_of (insContains_c (En encIn) 62 [] (fun x => decide (x.op = 5)) d.ins (by omega) _ _ wx hix ?_) ?_
        · rintro y hy cs rfl _ w' hb'
          exact codeYes_c y w'
        rintro _ wa ⟨rfl, hba⟩
        have sza := hba.size
        have hBa := hBx.below hba (by omega)
        have hRa := hRx.below hba (by omega)
        have hWa := hWx.below hba (by omega)
        have hwa : Below w.heap.size w wa := hbx.trans (hba.mono (by omega))
        have hva := hvx0.below hba
        have t1 : wa.cell? ⟨w3.heap.size, 1, none⟩ = some (.slice a c.ins.length cp) := hWa.cell rfl
        have t2 : wa.cell? ⟨w.heap.size, 1, none⟩ = some (.slice a' d.ins.length c') := hBa.cell rfl
        cases hany : d.ins.any (fun x => decide (x.op = 5)) with
        | false =>
          simp -dsimp only [push_cast, Nat.reduceAdd, Nat.reduceLeDiff, Nat.reduceBEq, decide_true, ne_eq, eq_self, not_true_eq_false, not_false_eq_true, true_imp_iff, false_imp_iff, Int.reduceNe, Int.reduceEq, Int.reduceLT, Int.reduceLE, Bool.not_true, Bool.not_false, t1]
          refine ⟨fun h2 => ?_, fun h2 => ?_⟩
          · refine rowK elI_22 rfl rfl (by omega) ?_
            intro wb hwb
            have szb := hwb.size
            have hRb := hRa.below hwb.below (by omega)
            have hwb' : Below w.heap.size w wb := hwa.trans (hwb.below.mono (by omega))
            have hNb := hN.below hwb'
            obtain ⟨na, nc, hn1, hn2⟩ := hNb
            have ho := hwb.own (base := wa.heap.size) (k := 1) (n := 1) (enc := encSV) (l := [⟨none, 0, 0⟩]) rfl rfl (fun _ => rfl) (Nat.le_refl _) (by omega)
            simp -dsimp only [push_cast, Nat.reduceAdd, Nat.reduceLeDiff, Nat.reduceBEq, decide_true, ne_eq, eq_self, not_true_eq_false, not_false_eq_true, true_imp_iff, false_imp_iff, Int.reduceNe, Int.reduceEq, Int.reduceLT, Int.reduceLE, Bool.not_true, Bool.not_false, hn1]
            refine callK_of (cloneIns_c [⟨1, 0, 0⟩, ⟨5, 0, 0⟩] (by decide) (fun _ => False) _ wb hn2 (by simp)) ?_
            rintro vc wc ⟨hoc, hbc⟩
            have szc := hbc.size
            have hRc := hRb.below hbc (by omega)
            have hwc' : Below w.heap.size w wc := hwb'.trans (hbc.mono (by omega))
            have hos := hoc.slice
            obtain ⟨ca, cc, rfl⟩ := hos
            simp -dsimp only [push_cast, Nat.reduceAdd, Nat.reduceLeDiff, Nat.reduceBEq, decide_true, ne_eq, eq_self, not_true_eq_false, not_false_eq_true, true_imp_iff, false_imp_iff, Int.reduceNe, Int.reduceEq, Int.reduceLT, Int.reduceLE, Bool.not_true, Bool.not_false]
            refine storeAgg (n := 2) (by kernel_rfl) hRc rfl (by simp) (by simp [Value.oneCell']) ?_
            intro wd hwd
            have szd := hwd.size
            have qd : cellsAt wd ⟨w1.heap.size, 0, none⟩ 0 2 = some [.slice (some ⟨wa.heap.size, 0, none⟩) 1 1, .slice ca ([⟨1, 0, 0⟩, ⟨5, 0, 0⟩] : List I3).length cc] := hwd.blk.cellsAt
            simp -dsimp only [push_cast, Nat.reduceAdd, Nat.reduceLeDiff, Nat.reduceBEq, decide_true, ne_eq, eq_self, not_true_eq_false, not_false_eq_true, true_imp_iff, false_imp_iff, Int.reduceNe, Int.reduceEq, Int.reduceLT, Int.reduceLE, Bool.not_true, Bool.not_false, qd, if_true]
            have hod := (ho.keptX (Kept.of_below hbc (X := fun _ => False) (fun k hk hl => by omega)) (fun _ _ h => h)).keptX hwd.kept (fun g hg h => by have := (ho.block g hg).1; omega)
            have hocd := hoc.keptX hwd.kept (fun g hg h => by have := (hoc.block g hg).1; omega)
            refine ⟨⟨neverP, _, rfl, hL.never hany (by omega), ?_⟩, hwc'.trans (hwd.kept.below (by omega) (fun _ h => by omega))⟩
            refine codeV_own (sets := [[]]) (base := w.heap.size) hX ?_ (hocd.mono (by omega)) rfl
            refine SetsV.of_values (us := [⟨none, 0, 0⟩]) rfl (hod.sl.weaken fun b h => by have := hX b h; omega) (fun i u s hu hs => ?_)
            cases i with
            | zero =>
              simp only [List.getElem?_cons_zero, Option.some.injEq] at hu hs
              subst hu hs
              exact Sl.nil _ _ _ _ _ _
            | succ i => simp at hs
          ·
            have t1 : wa.cell? ⟨w3.heap.size, 1, none⟩ = some (.slice a c.ins.length cp) := hWa.cell rfl
            have t2 : wa.cell? ⟨w.heap.size, 1, none⟩ = some (.slice a' d.ins.length c') := hBa.cell rfl
            have qa := hBa.cellsAt
            simp only [List.length_cons, List.length_nil, Nat.zero_add, Nat.reduceAdd] at qa
            simp -dsimp only [push_cast, Nat.reduceAdd, Nat.reduceLeDiff, Nat.reduceBEq, decide_true, ne_eq, eq_self, not_true_eq_false, not_false_eq_true, true_imp_iff, false_imp_iff, Int.reduceNe, Int.reduceEq, Int.reduceLT, Int.reduceLE, Bool.not_true, Bool.not_false, t1, t2, qa]
            refine ⟨fun _ => ?_, fun h => absurd h (by omega)⟩
            refine callK_of (Right_c d hL.lens (by omega) (by have := hL.cr.sets; omega) _ _ wa hva) ?_
            rintro _ wb ⟨rfl, hbb⟩
            have szb := hbb.size
            rw [hL.cr.to]
            have hBb := hBa.below hbb (by omega)
            have hRb := hRa.below hbb (by omega)
            have qb := hBb.cellsAt
            simp only [List.length_cons, List.length_nil, Nat.zero_add, Nat.reduceAdd] at qb
            simp -dsimp only [push_cast, Nat.reduceAdd, Nat.reduceLeDiff, Nat.reduceBEq, decide_true, ne_eq, eq_self, not_true_eq_false, not_false_eq_true, true_imp_iff, false_imp_iff, Int.reduceNe, Int.reduceEq, Int.reduceLT, Int.reduceLE, Bool.not_true, Bool.not_false, qb]
            refine storeAgg (n := 2) (by kernel_rfl) hRb rfl (by simp) (by simp [Value.oneCell']) ?_
            intro wc hwc
            have qc : cellsAt wc ⟨w1.heap.size, 0, none⟩ 0 2 = some [.slice sa' d.sets.length sc', .slice a' d.ins.length c'] := hwc.blk.cellsAt
            simp -dsimp only [push_cast, Nat.reduceAdd, Nat.reduceLeDiff, Nat.reduceBEq, decide_true, ne_eq, eq_self, not_true_eq_false, not_false_eq_true, true_imp_iff, false_imp_iff, Int.reduceNe, Int.reduceEq, Int.reduceLT, Int.reduceLE, Bool.not_true, Bool.not_false, qc, if_true]
            exact ⟨⟨d, _, rfl, hL, ((hva.below hbb).kept hwc.kept (fun b h => .inr (.inr h))).mono (fun _ _ _ => rfl) (fun _ h => .inl h)⟩, (hwa.trans (hbb.mono (by omega))).trans (hwc.kept.below (by omega) (fun _ h => by omega))⟩
        | true =>
          simp -dsimp only [push_cast, Nat.reduceAdd, Nat.reduceLeDiff, Nat.reduceBEq, decide_true, ne_eq, eq_self, not_true_eq_false, not_false_eq_true, true_imp_iff, false_imp_iff, Int.reduceNe, Int.reduceEq, Int.reduceLT, Int.reduceLE, Bool.not_true, Bool.not_false]
          have t1 : wa.cell? ⟨w3.heap.size, 1, none⟩ = some (.slice a c.ins.length cp) := hWa.cell rfl
          have t2 : wa.cell? ⟨w.heap.size, 1, none⟩ = some (.slice a' d.ins.length c') := hBa.cell rfl
          have qa := hBa.cellsAt
          simp only [List.length_cons, List.length_nil, Nat.zero_add, Nat.reduceAdd] at qa
          simp -dsimp only [push_cast, Nat.reduceAdd, Nat.reduceLeDiff, Nat.reduceBEq, decide_true, ne_eq, eq_self, not_true_eq_false, not_false_eq_true, true_imp_iff, false_imp_iff, Int.reduceNe, Int.reduceEq, Int.reduceLT, Int.reduceLE, Bool.not_true, Bool.not_false, t1, t2, qa]
          refine ⟨fun _ => ?_, fun h => absurd h (by omega)⟩
          refine callK_of (Right_c d hL.lens (by omega) (by have := hL.cr.sets; omega) _ _ wa hva) ?_
          rintro _ wb ⟨rfl, hbb⟩
          have szb := hbb.size
          rw [hL.cr.to]
          have hBb := hBa.below hbb (by omega)
          have hRb := hRa.below hbb (by omega)
          have qb := hBb.cellsAt
          simp only [List.length_cons, List.length_nil, Nat.zero_add, Nat.reduceAdd] at qb
          simp -dsimp only [push_cast, Nat.reduceAdd, Nat.reduceLeDiff, Nat.reduceBEq, decide_true, ne_eq, eq_self, not_true_eq_false, not_false_eq_true, true_imp_iff, false_imp_iff, Int.reduceNe, Int.reduceEq, Int.reduceLT, Int.reduceLE, Bool.not_true, Bool.not_false, qb]
          refine storeAgg (n := 2) (by kernel_rfl) hRb rfl (by simp) (by simp [Value.oneCell']) ?_
          intro wc hwc
          have qc : cellsAt wc ⟨w1.heap.size, 0, none⟩ 0 2 = some [.slice sa' d.sets.length sc', .slice a' d.ins.length c'] := hwc.blk.cellsAt
          simp -dsimp only [push_cast, Nat.reduceAdd, Nat.reduceLeDiff, Nat.reduceBEq, decide_true, ne_eq, eq_self, not_true_eq_false, not_false_eq_true, true_imp_iff, false_imp_iff, Int.reduceNe, Int.reduceEq, Int.reduceLT, Int.reduceLE, Bool.not_true, Bool.not_false, qc, if_true]
          exact ⟨⟨d, _, rfl, hL, ((hva.below hbb).kept hwc.kept (fun b h => .inr (.inr h))).mono (fun _ _ _ => rfl) (fun _ h => .inl h)⟩, (hwa.trans (hbb.mono (by omega))).trans (hwc.kept.below (by omega) (fun _ h => by omega))⟩
end Go.Proofs.YtimjpijbcnjaaaaDoor
