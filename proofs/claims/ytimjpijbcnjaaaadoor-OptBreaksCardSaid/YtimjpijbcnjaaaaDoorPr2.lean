import Derived.Test.YtimjpijbcnjaaaaDoorPr1
import Derived.Test.YtimjpijbcnjaaaaDoorImg6
namespace Go.Proofs.YtimjpijbcnjaaaaDoor
open Go.Vc Go.Proofs Go.RowKit Cae
set_option maxRecDepth 100000
set_option linter.unusedSimpArgs false
set_option linter.unusedVariables false
attribute [local irreducible] wpL callK valK unitK runK Fun Sl Own vc vcOps opK pureK
set_option maxHeartbeats 8000000

/-- What 'Program' answers. -/
def ProgRes (p : ProgP) (r : Value) (w' : World) : Prop :=
  if progRight p = true then ∃ out v, r = .tuple #[v, .nilIface] ∧ ProgLess p out ∧ ProgV (fun _ => False) w' v ⟨out, p.els⟩ else r = .tuple #[.agg #[.slice none 0 0, .bool false], .iface 33 (.int .i64 1)]

theorem program_c (p : ProgP) (hl : ProgLen p) (v : Value) (w : World) (hN : NeverVar w) (hv : ProgV (fun _ => False) w v p) :
    Fun Tryd.prog 29 [v] w fun r w' => ProgRes p r w' ∧ Below w.heap.size w w' := by
  have hv0 := hv
  obtain ⟨rv, rfl, hr⟩ := hv
  obtain ⟨a, cp, rfl, hcp⟩ := hr.shape
  refine fun_of_vcC Tryd.func29 rfl (by kernel_rfl) [.cell 2 43, .tmp 3] rfl ?_
  simp -dsimp only [push_cast, fr0, Tryd.ntmps29, List.length_cons, List.length_nil, Nat.reduceAdd, Nat.reduceSub, Nat.reduceBEq, List.replicate_succ, List.replicate_zero]
  refine boxK_of ?_
  intro w1 hw1
  have hw1 : New w w1 43 [.slice a p.rules.length cp, .bool p.els] := hw1
  have sz1 := hw1.size
  simp -dsimp only [push_cast, Nat.reduceAdd, Nat.reduceLeDiff, Nat.reduceBEq, decide_true]
  refine allocK (z := [.slice none 0 0, .bool false]) (by kernel_rfl) ?_
  intro w2 hw2
  have sz2 := hw2.size
  have hb2 : Below w.heap.size w w2 := hw1.below.trans (hw2.below.mono (by omega))
  have hB2 : Blk w2 w.heap.size 43 [.slice a p.rules.length cp, .bool p.els] := hw1.blk.below hw2.below (by omega)
  have hR2 : Blk w2 w1.heap.size 43 [.slice none 0 0, .bool false] := hw2.blk
  have d2 := hB2.cellsAt
  simp only [List.length_cons, List.length_nil, Nat.zero_add, Nat.reduceAdd] at d2
  simp -dsimp only [push_cast, Nat.reduceAdd, Nat.reduceLeDiff, Nat.reduceBEq, decide_true, ne_eq, eq_self, not_true_eq_false, not_false_eq_true, true_imp_iff, false_imp_iff, Int.reduceNe, Int.reduceEq, Int.reduceLT, Int.reduceLE, Bool.not_true, Bool.not_false, d2]
  refine callK_of (rightProgram_c p hl _ _ w2 (hv0.below hb2)) ?_
  rintro _ w3 ⟨rfl, hb3⟩
  have sz3 := hb3.size
  have hB3 := hB2.below hb3 (by omega)
  have hR3 := hR2.below hb3 (by omega)
  have hw3 : Below w.heap.size w w3 := hb2.trans (hb3.mono (by omega))
  unfold ProgRes
  cases hPR : progRight p with
  | false =>
    simp -dsimp only [push_cast, Nat.reduceAdd, Nat.reduceLeDiff, Nat.reduceBEq, decide_true, ne_eq, eq_self, not_true_eq_false, not_false_eq_true, true_imp_iff, false_imp_iff, Int.reduceNe, Int.reduceEq, Int.reduceLT, Int.reduceLE, Bool.not_true, Bool.not_false]
    refine storeAgg (n := 2) (by kernel_rfl) hR3 rfl (by simp) (by simp [Value.oneCell']) ?_
    intro w4 hw4
    have q4 : cellsAt w4 ⟨w1.heap.size, 0, none⟩ 0 2 = some [.slice none 0 0, .bool false] := hw4.blk.cellsAt
    simp -dsimp only [push_cast, Nat.reduceAdd, Nat.reduceLeDiff, Nat.reduceBEq, decide_true, ne_eq, eq_self, not_true_eq_false, not_false_eq_true, true_imp_iff, false_imp_iff, Int.reduceNe, Int.reduceEq, Int.reduceLT, Int.reduceLE, Bool.not_true, Bool.not_false, q4, Bool.false_eq_true, if_false]
    exact hw3.trans (hw4.kept.below (by omega) (fun _ h => by omega))
  | true =>
    have hspec := progRight_spec hPR
    obtain ⟨hlen20, hall⟩ := hspec
    have c3 : w3.cell? ⟨w.heap.size, 1, none⟩ = some (.bool p.els) := hB3.cell rfl
    simp -dsimp only [push_cast, Nat.reduceAdd, Nat.reduceLeDiff, Nat.reduceBEq, decide_true, ne_eq, eq_self, not_true_eq_false, not_false_eq_true, true_imp_iff, false_imp_iff, Int.reduceNe, Int.reduceEq, Int.reduceLT, Int.reduceLE, Bool.not_true, Bool.not_false, c3]
    refine allocK (z := [.slice none 0 0, .bool false]) (by kernel_rfl) ?_
    intro w4 hw4
    have sz4 := hw4.size
    simp -dsimp only [push_cast, Nat.reduceAdd, Nat.reduceLeDiff, Nat.reduceBEq, decide_true]
    refine storeAgg (n := 2) (by kernel_rfl) hw4.blk rfl (by simp) (by simp [Value.oneCell']) ?_
    intro w5 hw5
    have sz5 := hw5.size
    have k5 : Kept (fun j => j = w3.heap.size) w3 w5 := (Kept.new hw4).trans hw5.kept (fun _ _ h => h)
    have hB5 := hB3.kept k5 (by omega)
    have hR5 := hR3.kept k5 (by omega)
    have hW5 : Blk w5 w3.heap.size 43 [.slice none 0 0, .bool p.els] := hw5.blk
    have hb5 : Below w.heap.size w w5 := hw3.trans (k5.below (by omega) (fun _ h => by omega))
    have c5 : w5.cell? ⟨w.heap.size, 0, none⟩ = some (.slice a p.rules.length cp) := hB5.cell rfl
    simp -dsimp only [push_cast, Nat.reduceAdd, Nat.reduceLeDiff, Nat.reduceBEq, decide_true, ne_eq, eq_self, not_true_eq_false, not_false_eq_true, true_imp_iff, false_imp_iff, Int.reduceNe, Int.reduceEq, Int.reduceLT, Int.reduceLE, Bool.not_true, Bool.not_false, c5]
    refine wpL_loop [3, 6, 7, 8, 9, 10, 22, 23, 24, 25, 26, 27, 28, 29, 30, 31, 32, 33, 34, 35, 36, 37, 38, 39, 40, 41, 42, 43, 44, 45, 46, 47, 48, 49, 50, 51, 52, 53, 54, 55, 56, 57, 58, 59, 60, 61, 62, 63, 64, 65, 66, 67, 68, 69, 70, 71, 72, 73, 74, 75, 76] (fun z wx => ∃ (k : Nat) (out : List PairP) (us : List PV) (ov : Value), z 22 = .int .i64 k ∧ k ≤ p.rules.length ∧ PInv p k out ∧ Blk wx w3.heap.size 43 [ov, .bool p.els] ∧ Own w5.heap.size 61 5 encPV wx ov us ∧ us.length = out.length ∧
        (∀ (i : Nat) (s : PairP), out[i]? = some s → ∃ u, us[i]? = some u ∧ PairR (fun b => b = w1.heap.size ∨ b = w3.heap.size ∨ ov.ownBlock = some b) wx (encPV u) s) ∧
        Blk wx w1.heap.size 43 [.slice none 0 0, .bool false] ∧ Below w.heap.size w wx ∧ w5.heap.size ≤ wx.heap.size) (fun z _ => p.rules.length - (intOf (z 22)).toNat) ?_ ?_
    · exact ⟨0, [], [], _, rfl, Nat.zero_le _, PInv.zero p, hW5, Own.nil (enc := encPV) _ _ (fun _ => rfl) _, rfl, fun i s h => by simp at h, hR5, hb5, Nat.le_refl _⟩
    · intro z wx hI
      obtain ⟨k, out, us, ov, h22, hk, hP, hWx, hox, hul, hux, hRx, hbx, szx⟩ := hI
      simp -dsimp only [push_cast, Nat.reduceAdd, Nat.reduceLeDiff, Nat.reduceBEq, decide_true, ne_eq, eq_self, not_true_eq_false, not_false_eq_true, true_imp_iff, false_imp_iff, Int.reduceNe, Int.reduceEq, Int.reduceLT, Int.reduceLE, Bool.not_true, Bool.not_false, h22]
      refine ⟨fun hlt => ?_, fun hge => ?_⟩
      · have hg := lt_get (l := p.rules) (i := k) (by omega)
        obtain ⟨r, hx, hxm, _⟩ := hg
        have hrr := hall r hxm
        have hrl := hl.2 r hxm
        have hg := hr.getR hx
        obtain ⟨b, o, cs, rfl, _, hcl, hcell0, hRr⟩ := hg
        obtain ⟨sv1, iv1, sv2, iv2, rfl, hv1, hv2⟩ := hRr
        have hcell : ∀ j u, ([.bool r.brk, sv1, iv1, sv2, iv2] : List Value)[j]? = some u → wx.cell? ⟨b, o + k * 5 + j, none⟩ = some u := fun j u hu => (Kept.of_below hbx (X := fun _ => False) (fun k hk hl => by omega)).cell (hcell0 j u hu) id
        have cp5 : cellsAt wx ⟨b, o + k * 5, none⟩ 0 5 = some [.bool r.brk, sv1, iv1, sv2, iv2] := cellsAt_of _ 0 (fun j u hu => by simpa using hcell j u hu)
        have hv10 := hv1
        have hv20 := hv2
        obtain ⟨_, _, he, hs1, hi1⟩ := hv1
        cases he
        obtain ⟨_, _, he, hs2, hi2⟩ := hv2
        cases he
        have hsh := hs1.shape
        obtain ⟨x1, y1, rfl, _⟩ := hsh
        have hsh := hs2.shape
        obtain ⟨x2, y2, rfl, _⟩ := hsh
        have hsh := hi1.shape
        obtain ⟨a1, k1, rfl, _⟩ := hsh
        have hsh := hi2.shape
        obtain ⟨a2, k2, rfl, _⟩ := hsh
        simp -dsimp only [push_cast, Nat.reduceAdd, Nat.reduceLeDiff, Nat.reduceBEq, decide_true, ne_eq, eq_self, not_true_eq_false, not_false_eq_true, true_imp_iff, false_imp_iff, Int.reduceNe, Int.reduceEq, Int.reduceLT, Int.reduceLE, Bool.not_true, Bool.not_false, cp5]
        refine ⟨⟨by omega, by omega⟩, ?_⟩
        refine allocK (z := [.bool false, .slice none 0 0, .slice none 0 0, .slice none 0 0, .slice none 0 0]) (by kernel_rfl) ?_
        intro wa hwa
        have sza := hwa.size
        simp -dsimp only [push_cast, Nat.reduceAdd, Nat.reduceLeDiff, Nat.reduceBEq, decide_true]
        refine storeAgg (n := 5) (by kernel_rfl) hwa.blk rfl (by simp) (by simp [Value.oneCell']) ?_
        intro wb hwb
        have szb := hwb.size
        have kb : Below wx.heap.size wx wb := hwa.below.trans (hwb.kept.below (by omega) (fun _ h => by omega))
        have hXb : Blk wb wx.heap.size 61 [.bool r.brk, .slice x1 r.before.sets.length y1, .slice a1 r.before.ins.length k1, .slice x2 r.after.sets.length y2, .slice a2 r.after.ins.length k2] := hwb.blk
        have e1 : cellsAt wb ⟨wx.heap.size, 1, none⟩ 0 2 = some [.slice x1 r.before.sets.length y1, .slice a1 r.before.ins.length k1] := blkSome (n := 2) hXb 1 rfl rfl
        have hgX : ∃ X, X = (fun b => b = w1.heap.size ∨ b = w3.heap.size ∨ ov.ownBlock = some b) := ⟨_, rfl⟩
        obtain ⟨X, hX⟩ := hgX
        have huX : ∀ (i : Nat) (s : PairP), out[i]? = some s → ∃ u, us[i]? = some u ∧ PairR X wx (encPV u) s := by rw [hX]; exact hux
        have hXw : ∀ b, X b → w.heap.size ≤ b ∧ b < wx.heap.size := fun b h => by
          rw [hX] at h
          rcases h with h | h | h
          · omega
          · omega
          · have := hox.block b h; omega
        have hcv1 : CodeV X w _ r.before := hv10.narrow (X' := X) (fun b hb h => by have := hXw b h; omega)
        have hcv2 : CodeV X w _ r.after := hv20.narrow (X' := X) (fun b hb h => by have := hXw b h; omega)
        have hbb : Below w.heap.size w wb := hbx.trans (kb.mono (by omega))
        have hm1 := (CR.of hrr.1).many
        have hm2 := (CR.of hrr.1).sets
        have hm3 := (CR.of hrr.2).many
        have hm4 := (CR.of hrr.2).sets
        simp -dsimp only [push_cast, Nat.reduceAdd, Nat.reduceLeDiff, Nat.reduceBEq, decide_true, ne_eq, eq_self, not_true_eq_false, not_false_eq_true, true_imp_iff, false_imp_iff, Int.reduceNe, Int.reduceEq, Int.reduceLT, Int.reduceLE, Bool.not_true, Bool.not_false, e1]
        refine callK_of (code_c r.before hrl.1.1 (by omega) (by omega) X _ wb (fun b h => by have := hXw b h; omega) (hN.below hbb) (hcv1.below hbb)) ?_
        rintro r1 wc ⟨hr1, hbc⟩
        have szc := hbc.size
        unfold CodeR at hr1
        rw [if_pos hrr.1] at hr1
        obtain ⟨d1, dv1, rfl, hL1, hd1⟩ := hr1
        have hd10 := hd1
        obtain ⟨_, _, rfl, hds1, hdi1⟩ := hd1
        have hsh := hds1.shape
        obtain ⟨sa1, sc1, rfl, _⟩ := hsh
        have hsh := hdi1.shape
        obtain ⟨ia1, ic1, rfl, _⟩ := hsh
        simp -dsimp only [push_cast, Nat.reduceAdd, Nat.reduceLeDiff, Nat.reduceBEq, decide_true, ne_eq, eq_self, not_true_eq_false, not_false_eq_true, true_imp_iff, false_imp_iff, Int.reduceNe, Int.reduceEq, Int.reduceLT, Int.reduceLE, Bool.not_true, Bool.not_false]
        refine allocK (z := [.slice none 0 0, .slice none 0 0]) (by kernel_rfl) ?_
        intro wd hwd
        have szd := hwd.size
        simp -dsimp only [push_cast, Nat.reduceAdd, Nat.reduceLeDiff, Nat.reduceBEq, decide_true]
        refine storeAgg (n := 2) (by kernel_rfl) hwd.blk rfl (by simp) (by simp [Value.oneCell']) ?_
        intro we hwe
        have sze := hwe.size
        have ke : Below wc.heap.size wc we := hwd.below.trans (hwe.kept.below (by omega) (fun _ h => by omega))
        have hbxe : Below wx.heap.size wx we := kb.trans ((hbc.mono (by omega)).trans (ke.mono (by omega)))
        have hbe : Below w.heap.size w we := hbx.trans (hbxe.mono (by omega))
        have hXe : Blk we wx.heap.size 61 _ := (hXb.below hbc (by omega)).below ke (by omega)
        have hDe : Blk we wc.heap.size 25 [.slice sa1 d1.sets.length sc1, .slice ia1 d1.ins.length ic1] := hwe.blk
        have e2 : cellsAt we ⟨wx.heap.size, 3, none⟩ 0 2 = some [.slice x2 r.after.sets.length y2, .slice a2 r.after.ins.length k2] := blkSome (n := 2) hXe 3 rfl rfl
        simp -dsimp only [push_cast, Nat.reduceAdd, Nat.reduceLeDiff, Nat.reduceBEq, decide_true, ne_eq, eq_self, not_true_eq_false, not_false_eq_true, true_imp_iff, false_imp_iff, Int.reduceNe, Int.reduceEq, Int.reduceLT, Int.reduceLE, Bool.not_true, Bool.not_false, e2]
        refine callK_of (code_c r.after hrl.2.1 (by omega) (by omega) X _ we (fun b h => by have := hXw b h; omega) (hN.below hbe) (hcv2.below hbe)) ?_
        rintro r2 wf ⟨hr2, hbf⟩
        have szf := hbf.size
        unfold CodeR at hr2
        rw [if_pos hrr.2] at hr2
        obtain ⟨d2, dv2, rfl, hL2, hd2⟩ := hr2
        have hd20 := hd2
        obtain ⟨_, _, rfl, hds2, hdi2⟩ := hd2
        have hsh := hds2.shape
        obtain ⟨sa2, sc2, rfl, _⟩ := hsh
        have hsh := hdi2.shape
        obtain ⟨ia2, ic2, rfl, _⟩ := hsh
        simp -dsimp only [push_cast, Nat.reduceAdd, Nat.reduceLeDiff, Nat.reduceBEq, decide_true, ne_eq, eq_self, not_true_eq_false, not_false_eq_true, true_imp_iff, false_imp_iff, Int.reduceNe, Int.reduceEq, Int.reduceLT, Int.reduceLE, Bool.not_true, Bool.not_false]
        refine allocK (z := [.slice none 0 0, .slice none 0 0]) (by kernel_rfl) ?_
        intro wg hwg
        have szg := hwg.size
        simp -dsimp only [push_cast, Nat.reduceAdd, Nat.reduceLeDiff, Nat.reduceBEq, decide_true]
        refine storeAgg (n := 2) (by kernel_rfl) hwg.blk rfl (by simp) (by simp [Value.oneCell']) ?_
        intro wh hwh
        have szh := hwh.size
        have kh : Below wf.heap.size wf wh := hwg.below.trans (hwh.kept.below (by omega) (fun _ h => by omega))
        have hbxh : Below wx.heap.size wx wh := hbxe.trans ((hbf.mono (by omega)).trans (kh.mono (by omega)))
        have hXh : Blk wh wx.heap.size 61 _ := (hXe.below hbf (by omega)).below kh (by omega)
        have hDh : Blk wh wc.heap.size 25 _ := (hDe.below hbf (by omega)).below kh (by omega)
        have hFh : Blk wh wf.heap.size 25 [.slice sa2 d2.sets.length sc2, .slice ia2 d2.ins.length ic2] := hwh.blk
        have hcd1 : CodeV X wh _ d1 := ((hd10.below ke).below hbf).below kh
        have hcd2 : CodeV X wh _ d2 := hd20.below kh
        have q1 : cellsAt wh ⟨wc.heap.size, 0, none⟩ 0 2 = some [.slice sa1 d1.sets.length sc1, .slice ia1 d1.ins.length ic1] := hDh.cellsAt
        simp -dsimp only [push_cast, Nat.reduceAdd, Nat.reduceLeDiff, Nat.reduceBEq, decide_true, ne_eq, eq_self, not_true_eq_false, not_false_eq_true, true_imp_iff, false_imp_iff, Int.reduceNe, Int.reduceEq, Int.reduceLT, Int.reduceLE, Bool.not_true, Bool.not_false, q1]
        have hLP : LessPair r ⟨r.brk, d1, d2⟩ := ⟨rfl, CR.of hrr.1, CR.of hrr.2, hL1, hL2⟩
        refine callK_of (dead_c d1 hL1.cr _ _ wh hcd1) ?_
        rintro _ wi ⟨rfl, hbi⟩
        have szi := hbi.size
        have hbxi := hbxh.trans (hbi.mono (by omega))
        cases hdd1 : deadP d1 with
        | true =>
          simp -dsimp only [push_cast, Nat.reduceAdd, Nat.reduceLeDiff, Nat.reduceBEq, decide_true, ne_eq, eq_self, not_true_eq_false, not_false_eq_true, true_imp_iff, false_imp_iff, Int.reduceNe, Int.reduceEq, Int.reduceLT, Int.reduceLE, Bool.not_true, Bool.not_false]
          have hbx1 : Below wx.heap.size wx wi := hbxi
          have sz1' := hbx1.size
          exact ⟨⟨by omega, by omega⟩, ⟨k + 1, out, us, ov, rfl, by omega, hP.gone hx hLP (.inl hdd1), hWx.below hbx1 (by omega), hox.keptX (Kept.of_below hbx1 (X := fun _ => False) (fun k hk hl => by omega)) (fun _ _ h => h), hul, fun i s h => by
            obtain ⟨u, h1, h2⟩ := hux i s h
            exact ⟨u, h1, h2.below hbx1⟩, hRx.below hbx1 (by omega), hbx.trans (hbx1.mono (by omega)), by omega⟩, by rw [h22]; simp only [intOf]; omega⟩
        | false =>
          have hFi := hFh.below hbi (by omega)
          have hDi := hDh.below hbi (by omega)
          have hXi := hXh.below hbi (by omega)
          have q2 : cellsAt wi ⟨wf.heap.size, 0, none⟩ 0 2 = some [.slice sa2 d2.sets.length sc2, .slice ia2 d2.ins.length ic2] := hFi.cellsAt
          simp -dsimp only [push_cast, Nat.reduceAdd, Nat.reduceLeDiff, Nat.reduceBEq, decide_true, ne_eq, eq_self, not_true_eq_false, not_false_eq_true, true_imp_iff, false_imp_iff, Int.reduceNe, Int.reduceEq, Int.reduceLT, Int.reduceLE, Bool.not_true, Bool.not_false, q2]
          refine callK_of (dead_c d2 hL2.cr _ _ wi (hcd2.below hbi)) ?_
          rintro _ wj ⟨rfl, hbj⟩
          have szj := hbj.size
          have hbxj := hbxi.trans (hbj.mono (by omega))
          cases hdd2 : deadP d2 with
          | true =>
            simp -dsimp only [push_cast, Nat.reduceAdd, Nat.reduceLeDiff, Nat.reduceBEq, decide_true, ne_eq, eq_self, not_true_eq_false, not_false_eq_true, true_imp_iff, false_imp_iff, Int.reduceNe, Int.reduceEq, Int.reduceLT, Int.reduceLE, Bool.not_true, Bool.not_false]
            have hbx1 : Below wx.heap.size wx wj := hbxj
            have sz1' := hbx1.size
            exact ⟨⟨by omega, by omega⟩, ⟨k + 1, out, us, ov, rfl, by omega, hP.gone hx hLP (.inr hdd2), hWx.below hbx1 (by omega), hox.keptX (Kept.of_below hbx1 (X := fun _ => False) (fun k hk hl => by omega)) (fun _ _ h => h), hul, fun i s h => by
              obtain ⟨u, h1, h2⟩ := hux i s h
              exact ⟨u, h1, h2.below hbx1⟩, hRx.below hbx1 (by omega), hbx.trans (hbx1.mono (by omega)), by omega⟩, by rw [h22]; simp only [intOf]; omega⟩
          | false =>
            have hFj := hFi.below hbj (by omega)
            have hDj := hDi.below hbj (by omega)
            have hXj := hXi.below hbj (by omega)
            have hWj := hWx.below hbxj (by omega)
            have hRj := hRx.below hbxj (by omega)
            have hcj1 := (hcd1.below hbi).below hbj
            have hcj2 := (hcd2.below hbi).below hbj
            have z1 : wj.cell? ⟨w3.heap.size, 0, none⟩ = some ov := hWj.cell rfl
            have z2 : wj.cell? ⟨wx.heap.size, 0, none⟩ = some (.bool r.brk) := hXj.cell rfl
            have z3 : cellsAt wj ⟨wc.heap.size, 0, none⟩ 0 2 = some [.slice sa1 d1.sets.length sc1, .slice ia1 d1.ins.length ic1] := hDj.cellsAt
            have z4 : cellsAt wj ⟨wf.heap.size, 0, none⟩ 0 2 = some [.slice sa2 d2.sets.length sc2, .slice ia2 d2.ins.length ic2] := hFj.cellsAt
            have hos := hox.slice
            obtain ⟨oa, oc, hov⟩ := hos
            rw [hov] at z1
            simp -dsimp only [push_cast, Nat.reduceAdd, Nat.reduceLeDiff, Nat.reduceBEq, decide_true, ne_eq, eq_self, not_true_eq_false, not_false_eq_true, true_imp_iff, false_imp_iff, Int.reduceNe, Int.reduceEq, Int.reduceLT, Int.reduceLE, Bool.not_true, Bool.not_false, z1, z2, z3, z4]
            refine rowK elI_41 rfl rfl (by omega) ?_
            intro wk hwk
            have szk := hwk.size
            have hoj := hox.keptX (Kept.of_below hbxj (X := fun _ => False) (fun k hk hl => by omega)) (fun _ _ h => h)
            rw [hov] at hoj
            simp -dsimp only [push_cast, Nat.reduceAdd, Nat.reduceLeDiff, Nat.reduceBEq, decide_true, ne_eq, eq_self, not_true_eq_false, not_false_eq_true, true_imp_iff, false_imp_iff, Int.reduceNe, Int.reduceEq, Int.reduceLT, Int.reduceLE, Bool.not_true, Bool.not_false]
            refine appendK2 (base := w5.heap.size) [⟨r.brk, ⟨sa1, d1.sets.length, sc1⟩, ⟨ia1, d1.ins.length, ic1⟩, ⟨sa2, d2.sets.length, sc2⟩, ⟨ia2, d2.ins.length, ic2⟩⟩] (enc := encPV) elI_41 (hoj.new hwk) (by rfl) (fun j u hu => by simpa [encPV, SV.v] using hwk.cell hu) encPV_one (by have := hP.len; simp only [List.length_cons, List.length_nil]; omega) (by omega) ?_
            intro vl wl hol hgl hnl
            have hos' := hol.slice
            obtain ⟨la, lc, rfl⟩ := hos'
            have hO7 : ∀ g, (Value.slice oa us.length oc).ownBlock = some g → w5.heap.size ≤ g ∧ g < wx.heap.size := fun g hg => hox.block g (by rw [hov]; exact hg)
            have hXo : ∀ g, (Value.slice oa us.length oc).ownBlock = some g → X g := fun g hg => by rw [hX, hov]; exact .inr (.inr hg)
            have kO : Kept (fun j => (Value.slice oa us.length oc).ownBlock = some j) wj wl := (Kept.new hwk).trans (Kept.grown hgl (fun _ h => h)) (fun _ _ h => h)
            have szl := kO.size
            have hWl := hWj.kept kO (fun h => by have := hO7 _ h; omega)
            have hRl := hRj.kept kO (fun h => by have := hO7 _ h; omega)
            have hDl := hDj.kept kO (fun h => by have := hO7 _ h; omega)
            have hFl := hFj.kept kO (fun h => by have := hO7 _ h; omega)
            simp -dsimp only [push_cast, Nat.reduceAdd, Nat.reduceLeDiff, Nat.reduceBEq, decide_true, ne_eq, eq_self, not_true_eq_false, not_false_eq_true, true_imp_iff, false_imp_iff, Int.reduceNe, Int.reduceEq, Int.reduceLT, Int.reduceLE, Bool.not_true, Bool.not_false]
            refine storeK_of hWl (by simp) rfl ?_
            intro wm hwm
            have szm : wm.heap.size = wl.heap.size := hwm.size
            have hRm := hRl.kept hwm.kept (by omega)
            have hDm := hDl.kept hwm.kept (by omega)
            have hFm := hFl.kept hwm.kept (by omega)
            have kX : Kept X wj wm := (kO.weaken (Y := X) (fun g _ h => hXo g h)).trans hwm.kept (fun g _ h => by rw [hX]; exact .inr (.inl h))
            have hone1 := hL1.cr.one
            have hone2 := hL2.cr.one
            have hg := lt_get (l := d1.ins) (i := 0) (by omega)
            obtain ⟨y1, hy1, _, _⟩ := hg
            have hg := lt_get (l := d2.ins) (i := 0) (by omega)
            obtain ⟨y2, hy2, _, _⟩ := hg
            have hcj10 := hcj1
            have hcj20 := hcj2
            obtain ⟨_, _, he, _, hji1⟩ := hcj1
            cases he
            obtain ⟨_, _, he, _, hji2⟩ := hcj2
            cases he
            have hg := hji1.get hy1
            obtain ⟨b1, o1, rfl, hnb1, hc1⟩ := hg
            have hg := hji2.get hy2
            obtain ⟨b2, o2, rfl, hnb2, hc2⟩ := hg
            have t1 : wm.cell? ⟨wc.heap.size, 1, none⟩ = some (.slice (some ⟨b1, o1, none⟩) d1.ins.length ic1) := hDm.cell rfl
            have t2 : wm.cell? ⟨wf.heap.size, 1, none⟩ = some (.slice (some ⟨b2, o2, none⟩) d2.ins.length ic2) := hFm.cell rfl
            have t3 : wm.cell? ⟨b1, o1, none⟩ = some (.int .i64 y1.op) := kX.cell (by have := hc1 0 _ rfl; simpa using this) hnb1
            have t4 : wm.cell? ⟨b2, o2, none⟩ = some (.int .i64 y2.op) := kX.cell (by have := hc2 0 _ rfl; simpa using this) hnb2
            have hyp1 : yesP d1 = decide (y1.op = 5) := by unfold yesP; rw [hy1]
            have hyp2 : yesP d2 = decide (y2.op = 5) := by unfold yesP; rw [hy2]
            have conv : ∀ cs s, PairR X wj cs s → PairR (fun b => b = w1.heap.size ∨ b = w3.heap.size ∨ (Value.slice la (us ++ [(⟨r.brk, ⟨sa1, d1.sets.length, sc1⟩, ⟨some ⟨b1, o1, none⟩, d1.ins.length, ic1⟩, ⟨sa2, d2.sets.length, sc2⟩, ⟨some ⟨b2, o2, none⟩, d2.ins.length, ic2⟩⟩ : PV)]).length lc).ownBlock = some b) wm cs s := fun cs s h => by
              refine (h.narrow (X' := fun b => X b ∨ (Value.slice la (us ++ [(⟨r.brk, ⟨sa1, d1.sets.length, sc1⟩, ⟨some ⟨b1, o1, none⟩, d1.ins.length, ic1⟩, ⟨sa2, d2.sets.length, sc2⟩, ⟨some ⟨b2, o2, none⟩, d2.ins.length, ic2⟩⟩ : PV)]).length lc).ownBlock = some b) (fun b hb hh => ?_)).mono (fun b hnb hlt => kX.block b hlt (fun hh => hnb (.inl hh))) (fun b hh => ?_)
              · rcases hh with hh | hh
                · exact hh
                · rcases hnl b hh with h1 | h1
                  · exact hXo b h1
                  · omega
              · rcases hh with hh | hh | hh
                · left; rw [hX]; exact .inl hh
                · left; rw [hX]; exact .inr (.inl hh)
                · exact .inr hh
            have hum := append_get (Pr := fun _ u s => PairR (fun b => b = w1.heap.size ∨ b = w3.heap.size ∨ (Value.slice la (us ++ [(⟨r.brk, ⟨sa1, d1.sets.length, sc1⟩, ⟨some ⟨b1, o1, none⟩, d1.ins.length, ic1⟩, ⟨sa2, d2.sets.length, sc2⟩, ⟨some ⟨b2, o2, none⟩, d2.ins.length, ic2⟩⟩ : PV)]).length lc).ownBlock = some b) wm (encPV u) s) hul (fun i s h => by
              obtain ⟨u, h1, h2⟩ := huX i s h
              exact ⟨u, h1, conv _ _ (h2.below hbxj)⟩) (u := ⟨r.brk, ⟨sa1, d1.sets.length, sc1⟩, ⟨some ⟨b1, o1, none⟩, d1.ins.length, ic1⟩, ⟨sa2, d2.sets.length, sc2⟩, ⟨some ⟨b2, o2, none⟩, d2.ins.length, ic2⟩⟩) (x := ⟨r.brk, d1, d2⟩) (conv _ _ ⟨_, _, _, _, rfl, hcj10, hcj20⟩)
            have hom := hol.keptX hwm.kept (fun g hg h => by have := (hol.block g hg).1; omega)
            have hulm : (us ++ [(⟨r.brk, ⟨sa1, d1.sets.length, sc1⟩, ⟨some ⟨b1, o1, none⟩, d1.ins.length, ic1⟩, ⟨sa2, d2.sets.length, sc2⟩, ⟨some ⟨b2, o2, none⟩, d2.ins.length, ic2⟩⟩ : PV)]).length = (out ++ [(⟨r.brk, d1, d2⟩ : PairP)]).length := by simp [hul]
            have hWm := hwm.blk
            have hbwm : Below w.heap.size w wm := (hbx.trans (hbxj.mono (by omega))).trans (kX.below (by omega) (fun b h => (hXw b h).1))
            simp -dsimp only [push_cast, Nat.reduceAdd, Nat.reduceLeDiff, Nat.reduceBEq, decide_true, ne_eq, eq_self, not_true_eq_false, not_false_eq_true, true_imp_iff, false_imp_iff, Int.reduceNe, Int.reduceEq, Int.reduceLT, Int.reduceLE, Bool.not_true, Bool.not_false, t1, t2, t3, t4]
            refine ⟨by omega, fun g1 => ⟨by omega, fun g2 => ?_, fun g2 => ?_⟩, fun g1 => ?_⟩
            · have hPL := hP.last hx hLP (by rw [hyp1]; exact decide_eq_true g1) (by rw [hyp2]; exact decide_eq_true g2)
              have qf := hWm.cellsAt
              simp only [List.length_cons, List.length_nil, Nat.zero_add, Nat.reduceAdd, List.set_cons_zero, List.set_cons_succ] at qf
              simp -dsimp only [push_cast, Nat.reduceAdd, Nat.reduceLeDiff, Nat.reduceBEq, decide_true, ne_eq, eq_self, not_true_eq_false, not_false_eq_true, true_imp_iff, false_imp_iff, Int.reduceNe, Int.reduceEq, Int.reduceLT, Int.reduceLE, Bool.not_true, Bool.not_false, qf]
              refine storeAgg (n := 2) (by kernel_rfl) hRm rfl (by simp) (by simp [Value.oneCell']) ?_
              intro wq hwq
              have szq := hwq.size
              have qc : cellsAt wq ⟨w1.heap.size, 0, none⟩ 0 2 = some [.slice la (us ++ [(⟨r.brk, ⟨sa1, d1.sets.length, sc1⟩, ⟨some ⟨b1, o1, none⟩, d1.ins.length, ic1⟩, ⟨sa2, d2.sets.length, sc2⟩, ⟨some ⟨b2, o2, none⟩, d2.ins.length, ic2⟩⟩ : PV)]).length lc, .bool p.els] := hwq.blk.cellsAt
              simp -dsimp only [push_cast, Nat.reduceAdd, Nat.reduceLeDiff, Nat.reduceBEq, decide_true, ne_eq, eq_self, not_true_eq_false, not_false_eq_true, true_imp_iff, false_imp_iff, Int.reduceNe, Int.reduceEq, Int.reduceLT, Int.reduceLE, Bool.not_true, Bool.not_false, qc, if_true]
              have hsl := ownRead (R := PairR (fun _ => False) wq) (hom.keptX hwq.kept (fun g hg h => by have := (hom.block g hg).1; omega)) hulm (fun i s h => by
                obtain ⟨u, h1, h2⟩ := hum i s h
                exact ⟨u, h1, h2.mono (fun b hnb hlt => hwq.kept.block b hlt (fun hh => hnb (.inl hh))) (fun _ h => h.elim)⟩)
              exact ⟨⟨_, _, rfl, hPL, ⟨_, rfl, PairsV.mono (X' := fun _ => False) (X := fun _ => False) (hsl.weaken (fun _ h => h.elim)) (fun _ _ _ => rfl) (fun _ h => h)⟩⟩, hbwm.trans (hwq.kept.below (by omega) (fun _ h => by omega))⟩
            · exact ⟨⟨by omega, by omega⟩, ⟨k + 1, _, _, _, rfl, by omega, hP.more hx hLP (by rw [hyp1, hyp2]; simp [g2]), hWm, hom, hulm, hum, hRm, hbwm, by omega⟩, by rw [h22]; simp only [intOf]; omega⟩
            · exact ⟨⟨by omega, by omega⟩, ⟨k + 1, _, _, _, rfl, by omega, hP.more hx hLP (by rw [hyp1, hyp2]; simp [g1]), hWm, hom, hulm, hum, hRm, hbwm, by omega⟩, by rw [h22]; simp only [intOf]; omega⟩
      · have hkk : k = p.rules.length := by omega
        have hPL := hP.done hkk
        have hos := hox.slice
        obtain ⟨oa, oc, rfl⟩ := hos
        have hWm := hWx
        have hRm := hRx
        have hom := hox
        have hulm := hul
        have hum := hux
        have hbwm := hbx
        have qf := hWm.cellsAt
        simp only [List.length_cons, List.length_nil, Nat.zero_add, Nat.reduceAdd, List.set_cons_zero, List.set_cons_succ] at qf
        simp -dsimp only [push_cast, Nat.reduceAdd, Nat.reduceLeDiff, Nat.reduceBEq, decide_true, ne_eq, eq_self, not_true_eq_false, not_false_eq_true, true_imp_iff, false_imp_iff, Int.reduceNe, Int.reduceEq, Int.reduceLT, Int.reduceLE, Bool.not_true, Bool.not_false, qf]
        refine storeAgg (n := 2) (by kernel_rfl) hRm rfl (by simp) (by simp [Value.oneCell']) ?_
        intro wq hwq
        have szq := hwq.size
        have qc : cellsAt wq ⟨w1.heap.size, 0, none⟩ 0 2 = some [.slice oa us.length oc, .bool p.els] := hwq.blk.cellsAt
        simp -dsimp only [push_cast, Nat.reduceAdd, Nat.reduceLeDiff, Nat.reduceBEq, decide_true, ne_eq, eq_self, not_true_eq_false, not_false_eq_true, true_imp_iff, false_imp_iff, Int.reduceNe, Int.reduceEq, Int.reduceLT, Int.reduceLE, Bool.not_true, Bool.not_false, qc, if_true]
        have hsl := ownRead (R := PairR (fun _ => False) wq) (hom.keptX hwq.kept (fun g hg h => by have := (hom.block g hg).1; omega)) hulm (fun i s h => by
          obtain ⟨u, h1, h2⟩ := hum i s h
          exact ⟨u, h1, h2.mono (fun b hnb hlt => hwq.kept.block b hlt (fun hh => hnb (.inl hh))) (fun _ h => h.elim)⟩)
        exact ⟨⟨_, _, rfl, hPL, ⟨_, rfl, PairsV.mono (X' := fun _ => False) (X := fun _ => False) (hsl.weaken (fun _ h => h.elim)) (fun _ _ _ => rfl) (fun _ h => h)⟩⟩, hbwm.trans (hwq.kept.below (by omega) (fun _ h => by omega))⟩
end Go.Proofs.YtimjpijbcnjaaaaDoor
