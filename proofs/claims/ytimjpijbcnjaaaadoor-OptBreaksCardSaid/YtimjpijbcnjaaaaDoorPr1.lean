import Derived.Test.YtimjpijbcnjaaaaDoorPpr
import Derived.Test.YtimjpijbcnjaaaaDoorSw
import Derived.Test.YtimjpijbcnjaaaaDoorOp5
namespace Go.Proofs.YtimjpijbcnjaaaaDoor
open Go.Vc Go.Proofs Go.RowKit Cae
set_option maxRecDepth 100000
set_option linter.unusedSimpArgs false
set_option linter.unusedVariables false
attribute [local irreducible] wpL callK valK unitK runK Fun Sl Own vc vcOps opK pureK
set_option maxHeartbeats 8000000

theorem dead_c (c : CodeP) (hc : CR c) (X : Nat → Prop) (v : Value) (w : World) (hv : CodeV X w v c) :
    Fun Tryd.prog 65 [v] w fun r w' => r = .bool (deadP c) ∧ Below w.heap.size w w' := by
  have hm := hc.many
  have hone := hc.one
  have hsm := hc.sets
  obtain ⟨sv, iv, rfl, hsv, hiv⟩ := hv
  obtain ⟨a, cp, rfl, hcp⟩ := hiv.shape
  have hsv0 := hsv.shape
  obtain ⟨sa, sc, rfl, hsc⟩ := hsv0
  have hus := SetsV.values hsv
  obtain ⟨us, husl, hus1, hus2⟩ := hus
  have hg := lt_get (l := c.ins) (i := 0) (by omega)
  obtain ⟨x, hx, hxm, _⟩ := hg
  refine fun_of_vc Tryd.func65 rfl (by kernel_rfl) [2] rfl ?_
  simp -dsimp only [push_cast, fr0, Tryd.ntmps65, List.length_cons, List.length_nil, Nat.reduceAdd, Nat.reduceSub, Nat.reduceBEq, List.replicate_succ, List.replicate_zero]
  refine boxK_of ?_
  intro w1 hw1
  have hw1 : New w w1 25 [.slice sa c.sets.length sc, .slice a c.ins.length cp] := hw1
  have sz1 := hw1.size
  have hg := (hiv.below hw1.below).get hx
  obtain ⟨ib, io, rfl, _, hic⟩ := hg
  simp -dsimp only [push_cast, Nat.reduceAdd, Nat.reduceLeDiff, Nat.reduceBEq, decide_true]
  refine wpL_draw (fun w' => w' = w1.drew) mixed (by kernel_rfl) rfl ?_
  have hB : Blk w1.drew w.heap.size 25 [.slice sa c.sets.length sc, .slice (some ⟨ib, io, none⟩) c.ins.length cp] := hw1.blk.drew
  have t1 : w1.drew.cell? ⟨w.heap.size, 1, none⟩ = some (.slice (some ⟨ib, io, none⟩) c.ins.length cp) := hB.cell rfl
  have t0 : w1.drew.cell? ⟨w.heap.size, 0, none⟩ = some (.slice sa c.sets.length sc) := hB.cell rfl
  have c0 : w1.drew.cell? ⟨ib, io, none⟩ = some (.int .i64 x.op) := by have := hic 0 _ rfl; simpa using this
  have c1 : w1.drew.cell? ⟨ib, io + 1, none⟩ = some (.int .i64 x.a) := by have := hic 1 _ rfl; simpa using this
  have hdp : deadP c = (decide (x.op = 1) && decide ((c.sets.getD x.a.toNat []).length = 0)) := by unfold deadP; rw [hx]
  simp -dsimp only [push_cast, Nat.reduceAdd, Nat.reduceLeDiff, Nat.reduceBEq, decide_true, ne_eq, eq_self, not_true_eq_false, not_false_eq_true, true_imp_iff, false_imp_iff, Int.reduceNe, Int.reduceEq, Int.reduceLT, Int.reduceLE, Bool.not_true, Bool.not_false, t1, t0, c0, c1]
  have L : ∀ {ad : Addr} {u : Value}, w1.drew.cell? ad = some u → ∀ w'' : World, w'' = w1.drew → optK (w''.cell? ad) (fun x => x = u) .mk := fun h w'' e => by rw [e, h]; exact rfl
  have hbd : Below w.heap.size w w1.drew := hw1.below.drew
  refine ⟨L t1, by omega, L c0, fun h1 => ⟨L t0, L t1, by omega, L c1, ?_⟩, fun h1 => ⟨by rw [hdp, decide_eq_false h1]; rfl, hbd⟩⟩
  have hj := insRight_take hc hx (by omega)
  have haj : x.a = ((x.a.toNat : Nat) : Int) := by rw [Int.toNat_of_nonneg hj.2.1]
  have hux := List.getElem?_eq_getElem (l := us) (i := x.a.toNat) (by omega)
  have hug := hus1.get hux
  obtain ⟨ub, uo, rfl, _, huc⟩ := hug
  have hes := List.getElem?_eq_getElem (l := c.sets) (i := x.a.toNat) (by omega)
  have hsh := (hus2 _ _ _ hux hes).shape
  obtain ⟨ua, uc, hev, _⟩ := hsh
  have csv : w1.drew.cell? ⟨ub, uo + x.a.toNat, none⟩ = some (.slice ua (c.sets[x.a.toNat]'(by omega)).length uc) := by
    have := huc 0 _ rfl
    rw [Nat.mul_one, Nat.add_zero, hev] at this
    exact (Kept.of_below hbd (X := fun _ => False) (fun k hk hl => by omega)).cell this id
  have hgd : c.sets.getD x.a.toNat [] = c.sets[x.a.toNat]'(by omega) := by rw [List.getD_eq_getElem?_getD, hes]; rfl
  have hgl : ∃ n, (c.sets[x.a.toNat]'(by omega)).length = n := ⟨_, rfl⟩
  obtain ⟨n, hn⟩ := hgl
  rw [hgd, hn, decide_eq_true h1, Bool.true_and] at hdp
  rw [hn] at csv
  simp -dsimp only [push_cast, Nat.reduceAdd, Nat.reduceLeDiff, Nat.reduceBEq, decide_true, ne_eq, eq_self, not_true_eq_false, not_false_eq_true, true_imp_iff, false_imp_iff, Int.reduceNe, Int.reduceEq, Int.reduceLT, Int.reduceLE, Bool.not_true, Bool.not_false, csv]
  refine ⟨⟨by omega, by omega⟩, L csv, ?_⟩
  rw [hdp]
  exact ⟨by congr 1; rw [decide_eq_decide]; omega, hbd⟩

theorem size_c (p : ProgP) (hs : p.rules.length < 1000000) (hl : sizeL p.rules < 1000000000) (X : Nat → Prop) (v : Value) (w : World) (hv : ProgV X w v p) :
    Fun Tryd.prog 30 [v] w fun r w' => r = .int .i64 (sizeL p.rules : Int) ∧ Below w.heap.size w w' := by
  obtain ⟨rv, rfl, hr⟩ := hv
  obtain ⟨a, cp, rfl, hcp⟩ := hr.shape
  refine fun_of_vc Tryd.func30 rfl (by kernel_rfl) [2] rfl ?_
  simp -dsimp only [push_cast, fr0, Tryd.ntmps30, List.length_cons, List.length_nil, Nat.reduceAdd, Nat.reduceSub, Nat.reduceBEq, List.replicate_succ, List.replicate_zero]
  refine boxK_of ?_
  intro w1 hw1
  have hw1 : New w w1 43 [.slice a p.rules.length cp, .bool p.els] := hw1
  have sz1 := hw1.size
  have c1 : w1.cell? ⟨w.heap.size, 0, none⟩ = some (.slice a p.rules.length cp) := hw1.cell rfl
  simp -dsimp only [push_cast, Nat.reduceAdd, Nat.reduceLeDiff, Nat.reduceBEq, decide_true, ne_eq, eq_self, not_true_eq_false, not_false_eq_true, true_imp_iff, false_imp_iff, Int.reduceNe, Int.reduceEq, Int.reduceLT, Int.reduceLE, Bool.not_true, Bool.not_false, c1]
  refine wpL_loop [3, 5, 9, 10, 11, 12, 13, 14, 15, 16, 17, 18, 19, 20, 21, 22, 23, 24] (fun z wx => ∃ i : Nat, z 9 = .int .i64 i ∧ i ≤ p.rules.length ∧ z 3 = .int .i64 (sizeL (p.rules.take i) : Int) ∧ Below w1.heap.size w1 wx) (fun z _ => p.rules.length - (intOf (z 9)).toNat) ?_ ?_
  · exact ⟨0, rfl, Nat.zero_le _, by rw [List.take_zero]; rfl, Below.refl _ _⟩
  · intro z wx hI
    obtain ⟨i, h9, hi, h3, hbx⟩ := hI
    have szx := hbx.size
    simp -dsimp only [push_cast, Nat.reduceAdd, Nat.reduceLeDiff, Nat.reduceBEq, decide_true, ne_eq, eq_self, not_true_eq_false, not_false_eq_true, true_imp_iff, false_imp_iff, Int.reduceNe, Int.reduceEq, Int.reduceLT, Int.reduceLE, Bool.not_true, Bool.not_false, h9, h3]
    refine ⟨fun hlt => ?_, fun hge => ?_⟩
    · have hg := lt_get (l := p.rules) (i := i) (by omega)
      obtain ⟨r, hx, hxm, _⟩ := hg
      have hbw := hw1.below.trans (hbx.mono (by omega))
      have hg := (PairsV.below hr hbw).getR hx
      obtain ⟨b, o, cs, rfl, _, hcl, hcell, hR⟩ := hg
      obtain ⟨s1, i1, s2, i2, rfl, hv1, hv2⟩ := hR
      have cp5 : cellsAt wx ⟨b, o + i * 5, none⟩ 0 5 = some [.bool r.brk, s1, i1, s2, i2] := cellsAt_of _ 0 (fun j u hu => by simpa using hcell j u hu)
      obtain ⟨_, _, he, hs1, hi1⟩ := hv1
      cases he
      obtain ⟨_, _, he, hs2, hi2⟩ := hv2
      cases he
      have hsh := hs1.shape
      obtain ⟨x1, y1, rfl, _⟩ := hsh
      have hsh := hs2.shape
      obtain ⟨x2, y2, rfl, _⟩ := hsh
      have hsh := hi1.shape
      obtain ⟨a1, k1, rfl, _⟩ := hsh
      have hsh := hi2.shape
      obtain ⟨a2, k2, rfl, _⟩ := hsh
      simp -dsimp only [push_cast, Nat.reduceAdd, Nat.reduceLeDiff, Nat.reduceBEq, decide_true, ne_eq, eq_self, not_true_eq_false, not_false_eq_true, true_imp_iff, false_imp_iff, Int.reduceNe, Int.reduceEq, Int.reduceLT, Int.reduceLE, Bool.not_true, Bool.not_false, cp5]
      refine ⟨⟨by omega, by omega⟩, ?_⟩
      refine allocK (z := [.bool false, .slice none 0 0, .slice none 0 0, .slice none 0 0, .slice none 0 0]) (by kernel_rfl) ?_
      intro wa hwa
      have sza := hwa.size
      simp -dsimp only [push_cast, Nat.reduceAdd, Nat.reduceLeDiff, Nat.reduceBEq, decide_true]
      refine storeAgg (n := 5) (by kernel_rfl) hwa.blk rfl (by simp) (by simp [Value.oneCell']) ?_
      intro wb hwb
      have szb := hwb.size
      have hXb : Blk wb wx.heap.size 61 [.bool r.brk, .slice x1 r.before.sets.length y1, .slice a1 r.before.ins.length k1, .slice x2 r.after.sets.length y2, .slice a2 r.after.ins.length k2] := hwb.blk
      have e1 : wb.cell? ⟨wx.heap.size, 2, none⟩ = some (.slice a1 r.before.ins.length k1) := hXb.cell rfl
      have e2 : wb.cell? ⟨wx.heap.size, 4, none⟩ = some (.slice a2 r.after.ins.length k2) := hXb.cell rfl
      have est : sizeL (p.rules.take (i + 1)) = sizeL (p.rules.take i) + (r.before.ins.length + r.after.ins.length) := by
        rw [List.take_add_one, hx, sizeL_app]; rfl
      have ele : sizeL (p.rules.take (i + 1)) ≤ sizeL p.rules := by
        have := sizeL_app (p.rules.take (i + 1)) (p.rules.drop (i + 1))
        rw [List.take_append_drop] at this
        omega
      have hgs : ∃ n, sizeL (p.rules.take i) = n := ⟨_, rfl⟩
      obtain ⟨n, hn⟩ := hgs
      rw [hn] at est
      simp -dsimp only [push_cast, Nat.reduceAdd, Nat.reduceLeDiff, Nat.reduceBEq, decide_true, ne_eq, eq_self, not_true_eq_false, not_false_eq_true, true_imp_iff, false_imp_iff, Int.reduceNe, Int.reduceEq, Int.reduceLT, Int.reduceLE, Bool.not_true, Bool.not_false, e1, e2]
      exact ⟨⟨by omega, by omega⟩, ⟨by omega, by omega⟩, ⟨by omega, by omega⟩, ⟨i + 1, rfl, by omega, by rw [est, hn]; congr 1, hbx.trans (hwa.below.trans (hwb.kept.below (by omega) (fun _ h => by omega)) |>.mono (by omega))⟩, by rw [h9]; simp only [intOf]; omega⟩
    · have hin : i = p.rules.length := by omega
      subst hin
      refine ⟨?_, hw1.below.trans (hbx.mono (by omega))⟩
      rw [List.take_length]
end Go.Proofs.YtimjpijbcnjaaaaDoor
