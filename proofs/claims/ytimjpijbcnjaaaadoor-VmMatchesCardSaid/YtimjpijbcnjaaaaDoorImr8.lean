import Derived.Test.YtimjpijbcnjaaaaDoorImr7
namespace Go.Proofs.YtimjpijbcnjaaaaDoor
open Go.Vc Go.Proofs Go.RowKit Cae
set_option maxRecDepth 100000
set_option linter.unusedSimpArgs false
set_option linter.unusedVariables false
attribute [local irreducible] wpL callK valK unitK runK Fun Sl Own vc vcOps opK pureK
set_option maxHeartbeats 16000000
attribute [local irreducible] tcode tbit tnum

/-- What the document's reading gives. -/
def ParsedR (base : Nat) (s : List UInt8) (r : Value) (w : World) : Prop := match refParse s with
  | some q => ∃ v, r = .tuple #[v, .int .i64 0] ∧ ProgV (fun j => j < base) w v q
  | none => r = .tuple #[.agg #[.slice none 0 0, .bool false], .int .i64 3]



theorem parseR_c (s : List UInt8) (hs : s.length < 1000000) (w : World) :
    Fun Tryd.prog 36 [str s] w fun r w' => ParsedR w.heap.size s r w' ∧ Below w.heap.size w w' := by
  refine fun_of_vcC Tryd.func36 rfl (by kernel_rfl) [.cell 2 43, .tmp 3] rfl ?_
  simp -dsimp only [push_cast, fr0, Tryd.ntmps36, List.length_cons, List.length_nil, Nat.reduceAdd, Nat.reduceSub, Nat.reduceBEq, List.replicate_succ, List.replicate_zero]
  refine allocK (z := [.slice none 0 0, .bool false]) (by kernel_rfl) ?_
  intro w1 hw1
  have sz1 := hw1.size
  have hnone : ∀ w', Blk w' w.heap.size 43 [.slice none 0 0, .bool false] → refParse s = none → Below w.heap.size w w' → ParsedR w.heap.size s (.tuple #[.agg #[.slice none 0 0, .bool false], .int .i64 3]) w' ∧ Below w.heap.size w w' := fun w' _ hn hb => by
    unfold ParsedR
    rw [hn]
    exact ⟨rfl, hb⟩
  simp -dsimp only [push_cast, Nat.reduceAdd, Nat.reduceLeDiff, Nat.reduceBEq, decide_true]
  refine ⟨fun hshort => ?_, fun hlong => ?_⟩
  · refine storeAgg (n := 2) (by kernel_rfl) hw1.blk rfl (by simp) (by simp [Value.oneCell']) ?_
    intro w2 hw2
    have c2 : cellsAt w2 ⟨w.heap.size, 0, none⟩ 0 2 = some [.slice none 0 0, .bool false] := hw2.blk.cellsAt
    simp -dsimp only [push_cast, Nat.reduceAdd, Nat.reduceLeDiff, Nat.reduceBEq, decide_true, c2]
    exact hnone w2 hw2.blk (by unfold refParse; rw [if_pos (by omega)]) (hw1.below.trans (hw2.kept.below (by omega) (fun _ h => by omega)))
  · have etk : List.take ((s.length : Int) - 4).toNat s = s.take (s.length - 4) := by rw [show ((s.length : Int) - 4).toNat = s.length - 4 by omega]
    rw [etk]
    refine ⟨⟨by omega, by omega⟩, ⟨by omega, by omega⟩, ?_⟩
    have hxl : (s.take (s.length - 4)).length < 1000000000 := by rw [List.length_take]; omega
    have hexx : ∃ x : St, x = ⟨s.take (s.length - 4), false⟩ := ⟨_, rfl⟩
    obtain ⟨x, hx⟩ := hexx
    have hxs : s.take (s.length - 4) = x.s := by rw [hx]
    have hxb : false = x.bad := by rw [hx]
    have hparse : refParse s = if (tprog x).2.bad = true ∨ (tprog x).2.s ≠ [] then none else if progRight (tprog x).1 = true ∧ writeB (tprog x).1 = s then some (tprog x).1 else none := by
      unfold refParse
      rw [if_neg (by omega), ← hx]
    rw [hxs] at hxl ⊢
    refine boxK_of ?_
    intro w2 hw2
    have hw2 : New w1 w2 114 [str x.s, .bool x.bad] := by rw [← hxb]; exact hw2
    have sz2 : w2.heap.size = w1.heap.size + 1 := hw2.size
    have hB2 : rdT w2 w1.heap.size x := hw2.blk
    have hR2 : Blk w2 w.heap.size 43 [.slice none 0 0, .bool false] := hw1.blk.kept (Kept.new hw2 (X := fun _ => False)) id
    have hL2 : Below w.heap.size w w2 := hw1.below.trans (hw2.below.mono (by omega))
    simp -dsimp only [push_cast, Nat.reduceAdd, Nat.reduceLeDiff, Nat.reduceBEq, decide_true]
    refine callK_of (tnum_c 1 x w1.heap.size w2 hxl hB2) ?_
    rintro _ w3 ⟨rfl, hw3⟩
    have sz3 := hw3.size
    have eb : decide (((tnum 1 x).1 : Int) = 1) = (tbit x).1 := by
      have : (tbit x).1 = decide ((tnum 1 x).1 = 1) := by unfold tbit; rfl
      rw [this, decide_eq_decide]; omega
    simp -dsimp only [push_cast, Nat.reduceAdd, Nat.reduceLeDiff, Nat.reduceBEq, decide_true]
    rw [eb]
    refine allocK (z := [.slice none 0 0, .bool false]) (by kernel_rfl) ?_
    intro w4 hw4
    have sz4 := hw4.size
    simp -dsimp only [push_cast, Nat.reduceAdd, Nat.reduceLeDiff, Nat.reduceBEq, decide_true]
    refine storeAgg (n := 2) (by kernel_rfl) hw4.blk rfl (by simp) (by simp [Value.oneCell']) ?_
    intro w5 hw5
    have sz5 := hw5.size
    have e2 : (tnum 1 x).2 = (tbit x).2 := by unfold tbit; rfl
    rw [e2] at hw3
    have hB5 : rdT w5 w1.heap.size (tbit x).2 := (hw3.blk.kept (Kept.new hw4 (X := fun _ => False)) id).kept hw5.kept (by show ¬ w1.heap.size = w3.heap.size; omega)
    have hlb := tbit_len x
    simp -dsimp only [push_cast, Nat.reduceAdd, Nat.reduceLeDiff, Nat.reduceBEq, decide_true]
    refine callK_of (tnum_c 20 (tbit x).2 w1.heap.size w5 (by omega) hB5) ?_
    rintro _ w6 ⟨rfl, hw6⟩
    have sz6 := hw6.size
    have hP6 : Blk w6 w3.heap.size 43 [.slice none 0 0, .bool (tbit x).1] := hw5.blk.kept hw6.kept (by show ¬ w3.heap.size = w1.heap.size; omega)
    have hR6 : Blk w6 w.heap.size 43 [.slice none 0 0, .bool false] := (((hR2.kept hw3.kept (by show ¬ w.heap.size = w1.heap.size; omega)).kept (Kept.new hw4 (X := fun _ => False)) id).kept hw5.kept (by show ¬ w.heap.size = w3.heap.size; omega)).kept hw6.kept (by show ¬ w.heap.size = w1.heap.size; omega)
    have hL6 : Below w.heap.size w w6 := hL2.trans ((hw3.kept.below (by omega) (fun _ h => by omega)).trans ((hw4.below.mono (by omega)).trans ((hw5.kept.below (by omega) (fun _ h => by omega)).trans (hw6.kept.below (by omega) (fun _ h => by omega)))))
    have hmv := tnum_val 20 (tbit x).2
    have hml := tnum_len 20 (tbit x).2
    have hmm : (tnum 20 (tbit x).2).1 ≤ 20 ∨ (tnum 20 (tbit x).2).2.bad = true := by
      have := tnumA_most 20 (tbit x).2.bad (tbit x).2.s (tbit x).2.s 0 0
      unfold tnum
      exact this.symm
    simp -dsimp only [push_cast, Nat.reduceAdd, Nat.reduceLeDiff, Nat.reduceBEq, decide_true]
    refine wpL_loop [6, 7, 8, 28, 29, 30, 31, 32, 33, 34, 35, 36, 37, 38, 39, 40, 41, 42, 43, 44, 45, 46, 47, 48, 49, 50, 51, 52, 53] (fun z wx => ∃ (k : Nat) (y : St) (rules : List PairP) (pvs : List PV) (rv : SV), z 6 = .int .i64 k ∧ y.s.length ≤ x.s.length ∧ rules ++ (tlist tpair k y).1 = (trules (tbit x).2).1 ∧ (tlist tpair k y).2 = (trules (tbit x).2).2 ∧
      rdT wx w1.heap.size y ∧ Blk wx w3.heap.size 43 [rv.v, .bool (tbit x).1] ∧ Blk wx w.heap.size 43 [.slice none 0 0, .bool false] ∧ Own w6.heap.size 61 5 encPV wx rv.v pvs ∧ pvs.length = rules.length ∧ rules.length + k = (tnum 20 (tbit x).2).1 ∧ ((tnum 20 (tbit x).2).1 ≤ 20 ∨ y.bad = true) ∧
      (∀ (j : Nat) (r : PairP), rules[j]? = some r → ∃ u, pvs[j]? = some u ∧ PairR (fun j => j < w6.heap.size ∨ rv.v.ownBlock = some j) wx (encPV u) r) ∧ Below w.heap.size w wx ∧ w6.heap.size ≤ wx.heap.size) (fun z _ => (intOf (z 6)).toNat) ?_ ?_
    · exact ⟨(tnum 20 (tbit x).2).1, (tnum 20 (tbit x).2).2, [], [], ⟨none, 0, 0⟩, rfl, by omega, by unfold trules; rfl, by unfold trules; rfl, hw6.blk, hP6, hR6, Own.nil (enc := encPV) _ _ (fun _ => rfl) _, rfl, by simp, hmm, by simp, hL6, Nat.le_refl _⟩
    · intro z wx hI
      obtain ⟨k, y, rules, pvs, rv, h6, hy, hr1, hr2, hBx, hPx, hRx, hox, hlen, hrl, hk20, hel, hLx, hszx⟩ := hI
      have hBx' : Blk wx w1.heap.size 114 [str y.s, .bool y.bad] := hBx
      have fa : wx.cell? ⟨w1.heap.size, 1, none⟩ = some (.bool y.bad) := hBx'.cell rfl
      rcases Nat.eq_zero_or_pos k with hk0 | hk0
      · have h6' : z 6 = .int .i64 0 := by rw [h6, hk0]; rfl
        have hstop : k = 0 ∨ y.bad = true := .inl hk0
        simp -dsimp only [push_cast, Nat.reduceAdd, Nat.reduceLeDiff, Nat.reduceBEq, decide_true, ne_eq, eq_self, not_true_eq_false, not_false_eq_true, true_imp_iff, false_imp_iff, Int.reduceNe, Int.reduceEq, Int.reduceLT, Int.reduceLE, Bool.not_true, Bool.not_false, h6']
        have hdone := tlist_done (f := tpair) (k := k) hstop hr1 hr2
        have hrs := hdone.1
        have hye := hdone.2
        subst hrs
        subst hye
        have hBx2 : Blk wx w1.heap.size 114 [str (tprog x).2.s, .bool (tprog x).2.bad] := hBx
        have f1 : wx.cell? ⟨w1.heap.size, 1, none⟩ = some (.bool (tprog x).2.bad) := hBx2.cell rfl
        have f0 : wx.cell? ⟨w1.heap.size, 0, none⟩ = some (str (tprog x).2.s) := hBx2.cell rfl
        have f2 : cellsAt wx ⟨w3.heap.size, 0, none⟩ 0 2 = some [rv.v, .bool (tprog x).1.els] := hPx.cellsAt
        have hv : ProgV (fun j => j < w6.heap.size) wx (.agg #[rv.v, .bool (tprog x).1.els]) (tprog x).1 := by
          refine ⟨rv.v, rfl, ?_⟩
          refine Sl.narrow (ownRead (R := PairR (fun j => j < w6.heap.size ∨ rv.v.ownBlock = some j) wx) hox hlen hel) (by omega) (fun cs r h => ?_) (fun b _ hb => by omega)
          exact h.mono (fun _ _ _ => rfl) (fun b hb => .inl hb)
        have hbad : ∀ w', Blk w' w.heap.size 43 [.slice none 0 0, .bool false] → refParse s = none → Below w.heap.size w w' → ParsedR w.heap.size s (.tuple #[.agg #[.slice none 0 0, .bool false], .int .i64 3]) w' ∧ Below w.heap.size w w' := hnone
        cases hbd : (tprog x).2.bad with
        | true =>
          rw [hbd] at f1
          simp -dsimp only [push_cast, Nat.reduceAdd, Nat.reduceLeDiff, Nat.reduceBEq, decide_true, ne_eq, eq_self, not_true_eq_false, not_false_eq_true, true_imp_iff, false_imp_iff, Int.reduceNe, Int.reduceEq, Int.reduceLT, Int.reduceLE, Bool.not_true, Bool.not_false, f1]
          refine storeAgg (n := 2) (by kernel_rfl) hRx rfl (by simp) (by simp [Value.oneCell']) ?_
          intro w7 hw7
          have c2 : cellsAt w7 ⟨w.heap.size, 0, none⟩ 0 2 = some [.slice none 0 0, .bool false] := hw7.blk.cellsAt
          simp -dsimp only [push_cast, Nat.reduceAdd, Nat.reduceLeDiff, Nat.reduceBEq, decide_true, c2]
          exact hbad w7 hw7.blk (by rw [hparse, if_pos (.inl hbd)]) (hLx.trans (hw7.kept.below (by omega) (fun _ h => by omega)))
        | false =>
          rw [hbd] at f1
          simp -dsimp only [push_cast, Nat.reduceAdd, Nat.reduceLeDiff, Nat.reduceBEq, decide_true, ne_eq, eq_self, not_true_eq_false, not_false_eq_true, true_imp_iff, false_imp_iff, Int.reduceNe, Int.reduceEq, Int.reduceLT, Int.reduceLE, Bool.not_true, Bool.not_false, f1, f0, strlit]
          refine ⟨fun hs1 => ?_, fun hs0 => ?_⟩
          · have hs1 : (tprog x).2.s ≠ [] := hs1
            refine storeAgg (n := 2) (by kernel_rfl) hRx rfl (by simp) (by simp [Value.oneCell']) ?_
            intro w7 hw7
            have c2 : cellsAt w7 ⟨w.heap.size, 0, none⟩ 0 2 = some [.slice none 0 0, .bool false] := hw7.blk.cellsAt
            simp -dsimp only [push_cast, Nat.reduceAdd, Nat.reduceLeDiff, Nat.reduceBEq, decide_true, c2]
            exact hbad w7 hw7.blk (by rw [hparse, if_pos (.inr hs1)]) (hLx.trans (hw7.kept.below (by omega) (fun _ h => by omega)))
          · have hs0 : (tprog x).2.s = [] := Classical.byContradiction hs0
            have hparse2 : refParse s = if progRight (tprog x).1 = true ∧ writeB (tprog x).1 = s then some (tprog x).1 else none := by rw [hparse, if_neg (by rw [hbd, hs0]; simp)]
            simp -dsimp only [push_cast, Nat.reduceAdd, Nat.reduceLeDiff, Nat.reduceBEq, decide_true, ne_eq, eq_self, not_true_eq_false, not_false_eq_true, true_imp_iff, false_imp_iff, Int.reduceNe, Int.reduceEq, Int.reduceLT, Int.reduceLE, Bool.not_true, Bool.not_false, f2]
            refine callK_of (writeR_c (tprog x).1 (tprog_len x) (tprog_bytes x) (fun j => j < w6.heap.size) _ wx hv) ?_
            rintro _ w7 ⟨rfl, hb7⟩
            have sz7 := hb7.size
            have hL7 := hLx.trans (hb7.mono (by omega))
            have hR7 := hRx.below hb7 (by omega)
            cases hpr : progRight (tprog x).1 with
            | false =>
              rw [if_neg (by simp)]
              simp -dsimp only [push_cast, Nat.reduceAdd, Nat.reduceLeDiff, Nat.reduceBEq, decide_true, ne_eq, eq_self, not_true_eq_false, not_false_eq_true, true_imp_iff, false_imp_iff, Int.reduceNe, Int.reduceEq, Int.reduceLT, Int.reduceLE, Bool.not_true, Bool.not_false]
              refine storeAgg (n := 2) (by kernel_rfl) hR7 rfl (by simp) (by simp [Value.oneCell']) ?_
              intro w8 hw8
              have c2 : cellsAt w8 ⟨w.heap.size, 0, none⟩ 0 2 = some [.slice none 0 0, .bool false] := hw8.blk.cellsAt
              simp -dsimp only [push_cast, Nat.reduceAdd, Nat.reduceLeDiff, Nat.reduceBEq, decide_true, c2]
              exact hbad w8 hw8.blk (by rw [hparse2, if_neg (by rw [hpr]; simp)]) (hL7.trans (hw8.kept.below (by omega) (fun _ h => by omega)))
            | true =>
              rw [if_pos rfl]
              have f7 : cellsAt w7 ⟨w3.heap.size, 0, none⟩ 0 2 = some [rv.v, .bool (tprog x).1.els] := (hPx.below hb7 (by omega)).cellsAt
              simp -dsimp only [push_cast, Nat.reduceAdd, Nat.reduceLeDiff, Nat.reduceBEq, decide_true, ne_eq, eq_self, not_true_eq_false, not_false_eq_true, true_imp_iff, false_imp_iff, Int.reduceNe, Int.reduceEq, Int.reduceLT, Int.reduceLE, Bool.not_true, Bool.not_false, f7]
              refine ⟨fun hne => ?_, fun heq => ?_⟩
              · refine storeAgg (n := 2) (by kernel_rfl) hR7 rfl (by simp) (by simp [Value.oneCell']) ?_
                intro w8 hw8
                have c2 : cellsAt w8 ⟨w.heap.size, 0, none⟩ 0 2 = some [.slice none 0 0, .bool false] := hw8.blk.cellsAt
                simp -dsimp only [push_cast, Nat.reduceAdd, Nat.reduceLeDiff, Nat.reduceBEq, decide_true, c2]
                exact hbad w8 hw8.blk (by rw [hparse2, if_neg (fun h => hne h.2)]) (hL7.trans (hw8.kept.below (by omega) (fun _ h => by omega)))
              · have heq : writeB (tprog x).1 = s := Classical.byContradiction heq
                refine storeAgg (n := 2) (by kernel_rfl) hR7 rfl (by simp) (by simp [SV.v, Value.oneCell']) ?_
                intro w8 hw8
                have c8 : cellsAt w8 ⟨w.heap.size, 0, none⟩ 0 2 = some [rv.v, .bool (tprog x).1.els] := hw8.blk.cellsAt
                simp -dsimp only [push_cast, Nat.reduceAdd, Nat.reduceLeDiff, Nat.reduceBEq, decide_true, ne_eq, eq_self, not_true_eq_false, not_false_eq_true, true_imp_iff, false_imp_iff, Int.reduceNe, Int.reduceEq, Int.reduceLT, Int.reduceLE, Bool.not_true, Bool.not_false, c8]
                refine ⟨?_, hL7.trans (hw8.kept.below (by omega) (fun _ h => by omega))⟩
                unfold ParsedR
                rw [hparse2, if_pos ⟨hpr, heq⟩]
                exact ⟨_, rfl, (hv.below hb7).mono (fun b hb hlt => hw8.kept.block b hlt (fun hh => hb (by omega))) (fun b hb => by omega)⟩
      · have hkp : ((0 : Int) < (k : Int)) = True := eq_true (by omega)
        cases hyb : y.bad with
        | true =>
          have hstop : k = 0 ∨ y.bad = true := .inr hyb
          rw [hyb] at fa
          simp -dsimp only [push_cast, Nat.reduceAdd, Nat.reduceLeDiff, Nat.reduceBEq, decide_true, ne_eq, eq_self, not_true_eq_false, not_false_eq_true, true_imp_iff, false_imp_iff, Int.reduceNe, Int.reduceEq, Int.reduceLT, Int.reduceLE, Bool.not_true, Bool.not_false, h6, hkp, fa, decide_true]
          have hdone := tlist_done (f := tpair) (k := k) hstop hr1 hr2
          have hbd : (tprog x).2.bad = true := by
            have e : (tprog x).2 = (trules (tbit x).2).2 := by unfold tprog; rfl
            rw [e, ← hdone.2]; exact hyb
          refine storeAgg (n := 2) (by kernel_rfl) hRx rfl (by simp) (by simp [Value.oneCell']) ?_
          intro w7 hw7
          have c2 : cellsAt w7 ⟨w.heap.size, 0, none⟩ 0 2 = some [.slice none 0 0, .bool false] := hw7.blk.cellsAt
          simp -dsimp only [push_cast, Nat.reduceAdd, Nat.reduceLeDiff, Nat.reduceBEq, decide_true, c2]
          exact hnone w7 hw7.blk (by rw [hparse, if_pos (.inl hbd)]) (hLx.trans (hw7.kept.below (by omega) (fun _ h => by omega)))
        | false =>
          rw [hyb] at fa hk20
          have hk20 : (tnum 20 (tbit x).2).1 ≤ 20 := hk20.resolve_right (by simp)
          simp -dsimp only [push_cast, Nat.reduceAdd, Nat.reduceLeDiff, Nat.reduceBEq, decide_true, ne_eq, eq_self, not_true_eq_false, not_false_eq_true, true_imp_iff, false_imp_iff, Int.reduceNe, Int.reduceEq, Int.reduceLT, Int.reduceLE, Bool.not_true, Bool.not_false, h6, hkp, fa, decide_true]
          refine callK_of (tnum_c 1 y w1.heap.size wx (by omega) hBx) ?_
          rintro _ wa ⟨rfl, hwa⟩
          have sza := hwa.size
          have hya := tbit_len y
          have ey : decide (((tnum 1 y).1 : Int) = 1) = (tbit y).1 := by
            have : (tbit y).1 = decide ((tnum 1 y).1 = 1) := by unfold tbit; rfl
            rw [this, decide_eq_decide]; omega
          have ey2 : (tnum 1 y).2 = (tbit y).2 := by unfold tbit; rfl
          rw [ey2] at hwa
          simp -dsimp only [push_cast, Nat.reduceAdd, Nat.reduceLeDiff, Nat.reduceBEq, decide_true, ne_eq, eq_self, not_true_eq_false, not_false_eq_true, true_imp_iff, false_imp_iff, Int.reduceNe, Int.reduceEq, Int.reduceLT, Int.reduceLE, Bool.not_true, Bool.not_false]
          rw [ey]
          refine callK_of (tcode_c (tbit y).2 w1.heap.size wa (by omega) hwa.blk) ?_
          rintro cv1 wd ⟨hcv1, hBd, hkd⟩
          have szd := hkd.size
          have hyd := tshr_code (tbit y).2
          have hcv1' := hcv1
          obtain ⟨sv1, iv1, rfl, hs1, hi1⟩ := hcv1
          have hsh1 := hs1.shape
          obtain ⟨sa1, sc1, rfl, _⟩ := hsh1
          have hsh2 := hi1.shape
          obtain ⟨ia1, ic1, rfl, _⟩ := hsh2
          simp -dsimp only [push_cast, Nat.reduceAdd, Nat.reduceLeDiff, Nat.reduceBEq, decide_true]
          refine allocK (z := [.slice none 0 0, .slice none 0 0]) (by kernel_rfl) ?_
          intro wb hwb
          have szb := hwb.size
          simp -dsimp only [push_cast, Nat.reduceAdd, Nat.reduceLeDiff, Nat.reduceBEq, decide_true]
          refine storeAgg (n := 2) (by kernel_rfl) hwb.blk rfl (by simp) (by simp [Value.oneCell']) ?_
          intro wc hwc
          have szc := hwc.size
          have hqc : Blk wc wd.heap.size 25 [.slice sa1 (tcode (tbit y).2).1.sets.length sc1, .slice ia1 (tcode (tbit y).2).1.ins.length ic1] := hwc.blk
          have hBc : rdT wc w1.heap.size (tcode (tbit y).2).2 := (Blk.kept (e := 114) hBd (Kept.new hwb (X := fun _ => False)) id).kept hwc.kept (by show ¬ w1.heap.size = wd.heap.size; omega)
          have k1 : Kept (fun k => k = w1.heap.size ∨ wx.heap.size ≤ k) wx wa := hwa.kept.weaken (fun _ _ h => .inl h)
          have k2 : Kept (fun k => k = w1.heap.size ∨ wx.heap.size ≤ k) wa wd := hkd.weaken (fun _ _ h => .inl h)
          have k3 : Kept (fun k => k = w1.heap.size ∨ wx.heap.size ≤ k) wd wb := Kept.new hwb
          have k4 : Kept (fun k => k = w1.heap.size ∨ wx.heap.size ≤ k) wb wc := hwc.kept.weaken (fun _ _ h => .inr (by omega))
          have kc : Kept (fun k => k = w1.heap.size ∨ wx.heap.size ≤ k) wx wc := ((k1.trans k2 (fun _ _ h => h)).trans k3 (fun _ _ h => h)).trans k4 (fun _ _ h => h)
          have hPc := hPx.kept kc (by show ¬ (w3.heap.size = w1.heap.size ∨ wx.heap.size ≤ w3.heap.size); omega)
          simp -dsimp only [push_cast, Nat.reduceAdd, Nat.reduceLeDiff, Nat.reduceBEq, decide_true]
          refine wpL_last (fun w' => Blk w' w3.heap.size 43 [rv.v, .bool (tbit x).1] ∧ Blk w' wd.heap.size 25 [.slice sa1 (tcode (tbit y).2).1.sets.length sc1, .slice ia1 (tcode (tbit y).2).1.ins.length ic1]) mixed (by kernel_rfl) (List.cons_ne_nil _ _) ⟨hPc.drew, hqc.drew⟩ ?_
          have g0 : wc.drew.cell? ⟨w3.heap.size, 0, none⟩ = some rv.v := hPc.drew.cell rfl
          have g1 : cellsAt wc.drew ⟨wd.heap.size, 0, none⟩ 0 2 = some [.slice sa1 (tcode (tbit y).2).1.sets.length sc1, .slice ia1 (tcode (tbit y).2).1.ins.length ic1] := hqc.drew.cellsAt
          simp -dsimp only [push_cast, Nat.reduceAdd, Nat.reduceLeDiff, Nat.reduceBEq, decide_true, g0, g1]
          refine ⟨fun w'' hC => by rw [hC.1.cell (o := 0) rfl]; exact rfl, fun w'' hC => by rw [blkSome (n := 2) (xs := [.slice sa1 (tcode (tbit y).2).1.sets.length sc1, .slice ia1 (tcode (tbit y).2).1.ins.length ic1]) hC.2 0 rfl rfl]; exact rfl, ?_⟩
          have hBcd : rdT wc.drew w1.heap.size (tcode (tbit y).2).2 := hBc
          refine callK_of (tcode_c (tcode (tbit y).2).2 w1.heap.size wc.drew (by omega) hBcd) ?_
          rintro cv2 wf ⟨hcv2, hBf, hkf⟩
          have szf : wc.heap.size ≤ wf.heap.size := hkf.size
          have hyf := tshr_code (tcode (tbit y).2).2
          have hcv2' := hcv2
          obtain ⟨sv2, iv2, rfl, hs2, hi2⟩ := hcv2
          have hsh3 := hs2.shape
          obtain ⟨sa2, sc2, rfl, _⟩ := hsh3
          have hsh4 := hi2.shape
          obtain ⟨ia2, ic2, rfl, _⟩ := hsh4
          have hPf := hPc.drew.kept hkf (by show ¬ w3.heap.size = w1.heap.size; omega)
          have hqf := hqc.drew.kept hkf (by show ¬ wd.heap.size = w1.heap.size; omega)
          refine ⟨⟨hPf, hqf⟩, ?_⟩
          have kcd : Kept (fun k => k = w1.heap.size ∨ wx.heap.size ≤ k) wc wc.drew := (Kept.refl _ _).drew
          have kx : Kept (fun k => k = w1.heap.size ∨ wx.heap.size ≤ k) wx wf := (kc.trans kcd (fun _ _ h => h)).trans (hkf.weaken (fun _ _ h => .inl h)) (fun _ _ h => h)
          have hexu : ∃ u : PV, u = (⟨(tbit y).1, ⟨sa1, (tcode (tbit y).2).1.sets.length, sc1⟩, ⟨ia1, (tcode (tbit y).2).1.ins.length, ic1⟩, ⟨sa2, (tcode (tcode (tbit y).2).2).1.sets.length, sc2⟩, ⟨ia2, (tcode (tcode (tbit y).2).2).1.ins.length, ic2⟩⟩ : PV) := ⟨_, rfl⟩
          obtain ⟨u, hu⟩ := hexu
          have hRf := hRx.kept kx (by show ¬ (w.heap.size = w1.heap.size ∨ wx.heap.size ≤ w.heap.size); omega)
          have hof := hox.keptX kx (fun g hg h => by have := hox.block g hg; omega)
          have ep2 : (tpair y).2 = (tcode (tcode (tbit y).2).2).2 := by unfold tpair; rfl
          have ep1 : (tpair y).1 = ⟨(tbit y).1, (tcode (tbit y).2).1, (tcode (tcode (tbit y).2).2).1⟩ := by unfold tpair; rfl
          have hBf' : rdT wf w1.heap.size (tpair y).2 := by rw [ep2]; exact hBf
          have helf : ∀ (j : Nat) (r : PairP), rules[j]? = some r → ∃ u, pvs[j]? = some u ∧ PairR (fun j => j < w6.heap.size ∨ rv.v.ownBlock = some j) wf (encPV u) r := fun j r hj => by
            obtain ⟨u, h1, h2⟩ := hel j r hj
            exact ⟨u, h1, h2.mono (fun b hb hlt => kx.block b hlt (fun hh => by
              rcases hh with hh | hh
              · exact hb (.inl (by omega))
              · omega)) (fun _ h => h)⟩
          have hXn : ∀ b, (b < w6.heap.size ∨ rv.v.ownBlock = some b) → b < wx.heap.size := fun b hb => by
            rcases hb with hb | hb
            · omega
            · exact (hox.block b hb).2
          have hnew : PairR (fun j => j < w6.heap.size ∨ rv.v.ownBlock = some j) wf (encPV u) (tpair y).1 := by
            rw [ep1, hu]
            refine ⟨_, _, _, _, rfl, ?_, ?_⟩
            · have kd : Kept (fun k => k = w1.heap.size ∨ k = wd.heap.size) wd wf := ((((Kept.new hwb).trans (hwc.kept.weaken (fun _ _ h => .inr h)) (fun _ _ h => h)).trans (Kept.refl _ _).drew (fun _ _ h => h)).trans (hkf.weaken (fun _ _ h => .inl h)) (fun _ _ h => h))
              exact (hcv1'.mono (fun b hb hlt => kd.block b hlt (fun hh => hb (by omega))) (fun _ h => h)).narrow (fun b _ hb => by have := hXn b hb; omega)
            · exact hcv2'.narrow (fun b _ hb => by have := hXn b hb; show b < wc.heap.size; omega)
          have hel2 := append_get (Pr := fun _ (u : PV) r => PairR (fun j => j < w6.heap.size ∨ rv.v.ownBlock = some j) wf (encPV u) r) hlen helf hnew
          simp -dsimp only [push_cast, Nat.reduceAdd, Nat.reduceLeDiff, Nat.reduceBEq, decide_true]
          refine rowK elI_41 rfl rfl (by omega) ?_
          intro wh hwh
          have hwh : New wf wh 61 ([u].flatMap encPV) := by rw [hu]; exact hwh
          have szh := hwh.size
          refine ⟨⟨hPf.kept (Kept.new hwh (X := fun _ => False)) id, hqf.kept (Kept.new hwh (X := fun _ => False)) id⟩, ?_⟩
          simp -dsimp only [push_cast, Nat.reduceAdd, Nat.reduceLeDiff, Nat.reduceBEq, decide_true]
          refine appendK2 (base := w6.heap.size) [u] (enc := encPV) elI_41 (hof.new hwh) rfl (fun j u hu => by simpa using hwh.cell hu) encPV_one (by simp only [List.length_cons, List.length_nil]; omega) (by omega) ?_
          intro v' wi hoi hgrow hne
          have hki : Kept (fun k => rv.v.ownBlock = some k) wh wi := Kept.grown hgrow (fun _ h => h)
          have hsh5 := hoi.slice
          obtain ⟨a', c', rfl⟩ := hsh5
          have hto : ∀ g, rv.v.ownBlock = some g → w6.heap.size ≤ g ∧ g < wx.heap.size := fun g hg => hox.block g hg
          have hPi := (hPf.kept (Kept.new hwh (X := fun _ => False)) id).kept hki (fun h => by have := hto _ h; omega)
          have hqi := (hqf.kept (Kept.new hwh (X := fun _ => False)) id).kept hki (fun h => by have := hto _ h; omega)
          have hRi := (hRf.kept (Kept.new hwh (X := fun _ => False)) id).kept hki (fun h => by have := hto _ h; omega)
          have hBi : rdT wi w1.heap.size (tpair y).2 := (Blk.kept (e := 114) hBf' (Kept.new hwh (X := fun _ => False)) id).kept hki (fun h => by have := hto _ h; omega)
          refine ⟨⟨hPi, hqi⟩, ?_⟩
          simp -dsimp only [push_cast, Nat.reduceAdd, Nat.reduceLeDiff, Nat.reduceBEq, decide_true]
          refine storeK_of hPi (by simp) rfl ?_
          intro wj hwj
          refine ⟨trivial, ?_⟩
          have szi := hki.size
          have szj := hwj.size
          simp -dsimp only [push_cast, Nat.reduceAdd, Nat.reduceLeDiff, Nat.reduceBEq, decide_true]
          have hst := tlist_step (f := tpair) hk0 hyb hr1 hr2
          have ek : (k : Int) - 1 = ((k - 1 : Nat) : Int) := by omega
          rw [ek]
          refine ⟨⟨by omega, by omega⟩, ⟨k - 1, (tpair y).2, rules ++ [(tpair y).1], pvs ++ [u], ⟨a', (pvs ++ [u]).length, c'⟩, rfl, ?_, hst.1, hst.2, Blk.kept (e := 114) hBi hwj.kept (by omega), hwj.blk, hRi.kept hwj.kept (by show ¬ w.heap.size = w3.heap.size; omega), hoi.keptX hwj.kept (fun g hg h => ?_), by simp [hlen], by simp only [List.length_append, List.length_cons, List.length_nil]; omega, .inl hk20, ?_, ?_, by omega⟩, by rw [h6]; simp only [intOf]; omega⟩
          · have := tshr_pair y; omega
          · rcases hne g hg with h' | h'
            · have := hto g h'; omega
            · omega
          · intro j r hj
            obtain ⟨u', h1, h2⟩ := hel2 j r hj
            refine ⟨u', h1, ?_⟩
            have h3 : PairR (fun j => (j < w6.heap.size ∨ rv.v.ownBlock = some j) ∨ (Value.slice a' (pvs ++ [u]).length c').ownBlock = some j) wh (encPV u') r :=
              (h2.mono (fun b _ hlt => (Kept.new hwh (X := fun _ => False)).block b hlt id) (fun _ h => h)).narrow (fun b hb hh => by
                rcases hh with hh | hh
                · exact hh
                · rcases hne b hh with h' | h'
                  · exact .inr h'
                  · omega)
            have h4 := h3.mono (fun b hb hlt => hki.block b hlt (fun hh => hb (.inl (.inr hh)))) (fun _ h => h)
            have h5 := h4.mono (fun b hb hlt => hwj.kept.block b hlt (fun hh => hb (.inl (.inl (by omega))))) (fun _ h => h)
            exact h5.mono (fun _ _ _ => rfl) (fun b hb => by
              rcases hb with hb | hb
              · exact .inl (.inl hb)
              · exact .inr hb)
          · refine hLx.trans ((kx.below (by omega) (fun k hk => by omega)).trans ((hwh.below.mono (by omega)).trans ((hki.below (by omega) (fun k hk => by have := hto k hk; omega)).trans (hwj.kept.below (by omega) (fun k hk => by omega)))))
end Go.Proofs.YtimjpijbcnjaaaaDoor
