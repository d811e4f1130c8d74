/- Texts of this claim, merged: Rev, Vb, AtB, RowA, AtC. -/
import Derived.Test.YtiofleijieepgaaGreatDoorM6
import Derived.Test.YtiofleijieepgaaGreatDoorM3
import Derived.Test.YtiofleijieepgaaGreatDoorM7
import Derived.Test.YtiofleijieepgaaGreatDoorM5
import Derived.Test.YtiofleijieepgaaGreatDoorTie
import Derived.WalkKit
import Derived.ProofKit
import Derived.Handy
import Derived.Lay
import Derived.OpenShut
import Derived.LaidMore
import Derived.Carry
import Derived.SevenTiedAt
import Derived.LaidHandle
import Derived.LaidSub
import Derived.LaidLaws
import Derived.Lib.LaidTab
import Derived.HandedShaped
import Derived.Shelf.Vars
section
namespace Go.Vc
theorem Own.at0 {α : Type} {base k : Nat} {e : TypeId} {enc : α → List Value} {w : World} {b o n c : Nat} {l : List α} (h : Vc.Own base e k enc w (.slice (some ⟨b, o, none⟩) n c) l) : o = 0 := by
  rcases h.1.2 with ⟨he, _⟩ | ⟨g, cap, cr, he, _⟩
  · cases he
  · cases he; rfl
end Go.Vc
namespace Go.Proofs.YtiofleijieepgaaGreatDoor
open Go.Vc Go.Proofs Go.RowKit Cae
set_option maxRecDepth 100000
set_option linter.unusedSimpArgs false
set_option linter.unusedVariables false
attribute [local irreducible] wpL callK valK unitK runK Fun Sl Vc.Own vc vcOps opK pureK
set_option maxHeartbeats 4000000
theorem reverse_c (l : List Int) (base : Nat) (v : Value) (w : World) (hn : l.length < 1000000000) (ho : Vc.Own base 3 1 encI w v l) (hb0 : base ≤ w.heap.size) :
    Fun Tryz.prog 38 [v] w fun _ w' => Vc.Own base 3 1 encI w' v l.reverse ∧ Below base w w' := by
  obtain ⟨a, c, rfl⟩ := ho.slice
  refine fun_of_vc Tryz.func38 rfl (by kernel_rfl) [] rfl ?_
  simp -dsimp (maxSteps := 4000000) only [push_cast, fr0, Tryz.ntmps38, List.length_cons, List.length_nil, Nat.reduceAdd, Nat.reduceSub, Nat.reduceBEq, List.replicate_succ, List.replicate_zero]
  refine ⟨⟨by omega, by omega⟩, ?_⟩
  refine wpL_loop [2, 3, 7, 8, 9, 10, 11, 12, 13, 14, 15, 16, 17, 18, 19, 20, 21, 22, 23, 24, 25, 26, 27] (fun z wx => ∃ (i : Nat) (cur : List Int), z 2 = .int .i64 i ∧ z 3 = .int .i64 ((l.length : Int) - 1 - i) ∧ 2 * i ≤ l.length ∧ cur.length = l.length ∧ (∀ k, k < l.length → cur[k]? = if k < i ∨ l.length - i ≤ k then l[l.length - 1 - k]? else l[k]?) ∧ Vc.Own base 3 1 encI wx (.slice a l.length c) cur ∧ Below base w wx) (fun z _ => l.length - (intOf (z 2)).toNat) ?_ ?_
  · exact ⟨0, l, rfl, by simp [at_], by omega, rfl, fun k hk => by rw [if_neg (by omega)], ho, Below.refl _ _⟩
  · intro z wx hI
    obtain ⟨i, cur, h2, h3, hi, hcl, hcur, hox, hb⟩ := hI
    have szx := hb.size
    simp -dsimp only [push_cast, Nat.reduceAdd, Nat.reduceLeDiff, Nat.reduceBEq, decide_true, ne_eq, eq_self, not_true_eq_false, not_false_eq_true, true_imp_iff, false_imp_iff, Int.reduceNe, Int.reduceEq, Int.reduceLT, Int.reduceLE, Bool.not_true, Bool.not_false, h2, h3]
    refine ⟨fun hlt => ?_, fun hge => ?_⟩
    · have hex : ∃ (x y : Int) (g : Nat), cur[i]? = some x ∧ cur[l.length - 1 - i]? = some y ∧ a = some ⟨g, 0, none⟩ ∧ wx.cell? ⟨g, i, none⟩ = some (.int .i64 x) ∧ wx.cell? ⟨g, l.length - 1 - i, none⟩ = some (.int .i64 y) := by
        obtain ⟨x, hx, _⟩ := lt_get (l := cur) (i := i) (by omega)
        obtain ⟨y, hy, _⟩ := lt_get (l := cur) (i := l.length - 1 - i) (by omega)
        have hgx := hox.sl.get hx
        have hgy := hox.sl.get hy
        obtain ⟨b, o, e, _, hcx⟩ := hgx
        obtain ⟨b', o', e', _, hcy⟩ := hgy
        rw [e] at e'
        cases e'
        have ho0 : o = 0 := Vc.Own.at0 (by rw [← e]; exact hox)
        subst ho0
        exact ⟨x, y, b, hx, hy, e, by simpa using hcx 0 _ rfl, by simpa using hcy 0 _ rfl⟩
      obtain ⟨x, y, g, hx, hy, he, cx, cy⟩ := hex
      subst he
      have ej : ((l.length : Int) - 1 - i) = ((l.length - 1 - i : Nat) : Int) := by omega
      rw [ej]
      refine wpL_told [0, 1, 2, 3, 4, 5, 6, 7, 8, 9, 10, 11, 12] 13 [14, 15] (fun w' => w' = wx.drew) mixed (by kernel_rfl) rfl ?_
      have cx' : wx.drew.cell? ⟨g, i, none⟩ = some (.int .i64 x) := cx
      have cy' : wx.drew.cell? ⟨g, l.length - 1 - i, none⟩ = some (.int .i64 y) := cy
      have hod : Vc.Own base 3 1 encI wx.drew (.slice (some ⟨g, 0, none⟩) l.length c) cur := hox.keptX (Kept.refl (fun _ => False) _).drew (fun _ _ h => h)
      simp -dsimp only [push_cast, Nat.reduceAdd, Nat.reduceLeDiff, Nat.reduceBEq, decide_true, ne_eq, eq_self, not_true_eq_false, not_false_eq_true, true_imp_iff, false_imp_iff, Int.reduceNe, Int.reduceEq, Int.reduceLT, Int.reduceLE, Bool.not_true, Bool.not_false, cx', cy']
      refine ⟨⟨by omega, by omega⟩, fun w'' hC => by rw [hC, cy']; exact rfl, ⟨by omega, by omega⟩, fun w'' hC => by rw [hC, cx']; exact rfl, ⟨by omega, by omega⟩, ?_⟩
      refine storeOwn (i := i) (y := y) hod rfl (by omega) rfl rfl ?_
      intro w1 ho1 hk1 sz1
      refine ⟨trivial, ?_⟩
      simp -dsimp only [push_cast, Nat.reduceAdd, Nat.reduceLeDiff, Nat.reduceBEq, decide_true, ne_eq, eq_self, not_true_eq_false, not_false_eq_true, true_imp_iff, false_imp_iff, Int.reduceNe, Int.reduceEq, Int.reduceLT, Int.reduceLE, Bool.not_true, Bool.not_false]
      refine ⟨⟨by omega, by omega⟩, ?_⟩
      have hl1 : l.length - 1 - i < (cur.set i y).length := by rw [List.length_set]; omega
      have el1 : (cur.set i y).length = cur.length := List.length_set
      refine storeOwn (i := l.length - 1 - i) (y := x) ho1 rfl hl1 rfl rfl ?_
      intro w2 ho2 hk2 sz2
      have hkd : Kept (fun j => j = g) wx w2 := (((Kept.refl (fun j => j = g) wx).drew).trans hk1 (fun _ _ h => h)).trans hk2 (fun _ _ h => h)
      have hgb : base ≤ g := (hox.block g rfl).1
      refine ⟨trivial, ?_⟩
      simp -dsimp only [push_cast, Nat.reduceAdd, Nat.reduceLeDiff, Nat.reduceBEq, decide_true, ne_eq, eq_self, not_true_eq_false, not_false_eq_true, true_imp_iff, false_imp_iff, Int.reduceNe, Int.reduceEq, Int.reduceLT, Int.reduceLE, Bool.not_true, Bool.not_false]
      refine ⟨⟨by omega, by omega⟩, ⟨by omega, by omega⟩, ⟨i + 1, (cur.set i y).set (l.length - 1 - i) x, rfl, by congr 1; omega, by omega, by rw [List.length_set, List.length_set]; exact hcl, fun k hk => ?_, ho2, hb.trans (hkd.below (by omega) (fun j h => by rw [show j = g from h]; exact hgb))⟩, by rw [h2]; simp only [intOf]; omega⟩
      rw [List.getElem?_set, List.getElem?_set]
      have hci := hcur i (by omega)
      have hcj := hcur (l.length - 1 - i) (by omega)
      rw [if_neg (by omega)] at hci hcj
      rw [hx] at hci
      rw [hy] at hcj
      by_cases e1 : l.length - 1 - i = k
      · rw [if_pos e1, if_pos hl1, if_pos (by omega), hci]
        congr 1; omega
      · rw [if_neg e1]
        by_cases e2 : i = k
        · rw [if_pos e2, if_pos (by omega), if_pos (by omega), hcj]
          congr 1; omega
        · rw [if_neg e2, hcur k hk]
          by_cases e3 : k < i ∨ l.length - i ≤ k
          · rw [if_pos e3, if_pos (by omega)]
          · rw [if_neg e3, if_neg (by omega)]
    · have hrev : cur = l.reverse := by
        apply List.ext_getElem?
        intro k
        by_cases hk : k < l.length
        · rw [hcur k hk, List.getElem?_reverse hk]
          split
          · rfl
          · congr 1; omega
        · rw [List.getElem?_eq_none (by omega), List.getElem?_eq_none (by rw [List.length_reverse]; omega)]
      subst hrev
      exact ⟨hox, hb⟩

end Go.Proofs.YtiofleijieepgaaGreatDoor
end
section
namespace Go.Proofs.YtiofleijieepgaaGreatDoor
open Go.Vc Go.Proofs Go.RowKit Cae
set_option maxRecDepth 100000
set_option linter.unusedSimpArgs false
set_option linter.unusedVariables false
attribute [local irreducible] wpL callK valK unitK runK Fun Sl Vc.Own vc vcOps opK pureK
set_option maxHeartbeats 8000000
attribute [local irreducible] breaksTo saysFrom isBreak ruleMet codeRight vmatch

theorem breaks_c (p : ProgP) (ps : List Int) (hl : ProgLen p) (hps : ps.length < 1000000) (X Xp : Nat → Prop) (v pv : Value) (w : World) (hv : ProgV X w v p) (hpv : Sl Xp 1 (En encI) w pv ps) (hap : Arg pv) :
    Fun Tryz.prog 11 [v, pv] w fun r w' => (if progRight p then ∃ u, r = .tuple #[u, .nilIface] ∧ Vc.Own w.heap.size 3 1 encN w' u (breaksP p ps) else r = .tuple #[.slice none 0 0, .iface 47 (.int .i64 1)]) ∧ Below w.heap.size w w' := by
  obtain ⟨rv, rfl, hr⟩ := hv
  obtain ⟨a, c, rfl, hc⟩ := hr.shape
  obtain ⟨a3, c3, rfl, hc3⟩ := hpv.shape
  refine fun_of_vc Tryz.func11 rfl (by kernel_rfl) [4, 5] rfl ?_
  simp -dsimp (maxSteps := 4000000) only [push_cast, fr0, Tryz.ntmps11, List.length_cons, List.length_nil, Nat.reduceAdd, Nat.reduceSub, Nat.reduceBEq, List.replicate_succ, List.replicate_zero]
  refine boxK_of ?_
  intro w1 hw1
  have hw1 : New w w1 24 [.slice a p.rules.length c, .bool p.els] := hw1
  have sz1 := hw1.size
  have d1 : cellsAt w1 ⟨w.heap.size, 0, none⟩ 0 2 = some [.slice a p.rules.length c, .bool p.els] := hw1.blk.cellsAt
  simp -dsimp only [push_cast, Nat.reduceAdd, Nat.reduceLeDiff, Nat.reduceBEq, decide_true, d1]
  refine callK_of (rightProgram_c p hl X _ w1 ⟨_, rfl, PairsV.below hr hw1.below⟩) ?_
  rintro _ w2 ⟨rfl, hb2⟩
  have sz2 := hb2.size
  have hL2 := hw1.below.trans (hb2.mono (by omega))
  cases hR : progRight p with
  | false =>
    simp -dsimp only [push_cast, Nat.reduceAdd, Nat.reduceLeDiff, Nat.reduceBEq, decide_true, ne_eq, eq_self, not_true_eq_false, not_false_eq_true, true_imp_iff, false_imp_iff, Int.reduceNe, Int.reduceEq, Int.reduceLT, Int.reduceLE, Bool.not_true, Bool.not_false, Bool.false_eq_true, if_false]
    exact hL2
  | true =>
    have hspec := progRight_spec hR
    obtain ⟨hlen, hall⟩ := hspec
    simp -dsimp only [push_cast, Nat.reduceAdd, Nat.reduceLeDiff, Nat.reduceBEq, decide_true, ne_eq, eq_self, not_true_eq_false, not_false_eq_true, true_imp_iff, false_imp_iff, Int.reduceNe, Int.reduceEq, Int.reduceLT, Int.reduceLE, Bool.not_true, Bool.not_false]
    refine wpL_loop [4, 5, 6, 7, 8, 9, 11, 12, 13, 14, 15, 16, 17, 22, 23, 24, 25, 26, 27, 28, 29, 30, 31, 32, 33, 34, 35, 36, 37, 38, 39, 40, 41, 42, 43, 44, 45, 46, 47, 48, 49, 50, 51, 52, 53, 54, 55, 56, 57, 58, 59, 60, 61, 62, 63, 64, 65, 66, 67, 68, 69, 70, 71, 72, 73, 74, 75, 76, 77, 78, 79, 80, 81, 82, 83, 84, 85, 86, 87, 88, 89, 90, 91, 92, 93] (fun z wx => ∃ (i : Nat) (u : Value), z 7 = .int .i64 i ∧ z 6 = u ∧ i ≤ ps.length + 1 ∧ (ps = [] → i = 0) ∧ Vc.Own w1.heap.size 3 1 encN wx u (breaksTo p ps i) ∧ Below w1.heap.size w1 wx) (fun z _ => ps.length + 1 - (intOf (z 7)).toNat) ?_ ?_
    · refine ⟨0, _, rfl, rfl, by omega, fun _ => rfl, ?_, hb2⟩
      rw [breaksTo_zero]
      exact Vc.Own.nil (enc := encN) _ _ (fun _ => rfl) _
    · intro z wx hI
      obtain ⟨i, u, h7, h6, hi, hnil, ho, hbx⟩ := hI
      have hsl := ho.slice
      obtain ⟨ua, uc, rfl⟩ := hsl
      have hLx : Below w.heap.size w wx := hw1.below.trans (hbx.mono (by omega))
      have szx := hbx.size
      have hbl := breaksTo_len p ps i
      simp -dsimp only [push_cast, Nat.reduceAdd, Nat.reduceLeDiff, Nat.reduceBEq, decide_true, ne_eq, eq_self, not_true_eq_false, not_false_eq_true, true_imp_iff, false_imp_iff, Int.reduceNe, Int.reduceEq, Int.reduceLT, Int.reduceLE, Bool.not_true, Bool.not_false, h7, h6]
      have hdone : (ps = [] ∨ ps.length < i) → breaksTo p ps i = breaksP p ps := fun h => by
        unfold breaksP
        by_cases h0 : ps = []
        · rw [if_pos h0, hnil h0]; exact breaksTo_zero p ps
        · rw [if_neg h0]
          have : i = ps.length + 1 := by
            rcases h with h | h
            · exact absurd h h0
            · omega
          rw [this]
      refine ⟨fun hle => ⟨fun hpos => ?_, fun hzero => ?_⟩, fun hgt => ?_⟩
      · have hi' : i ≤ ps.length := by omega
        have hpx := hpv.below hLx
        refine sliceHiK hpx hi' ?_
        intro hs1
        simp -dsimp only [push_cast, Nat.reduceAdd, Nat.reduceLeDiff, Nat.reduceBEq, decide_true, ne_eq, eq_self, not_true_eq_false, not_false_eq_true, true_imp_iff, false_imp_iff, Int.reduceNe, Int.reduceEq, Int.reduceLT, Int.reduceLE, Bool.not_true, Bool.not_false]
        refine callK_of (clone_c (ps.take i) (by rw [List.length_take]; omega) Xp _ wx hs1 (fun n c h => by
          have := hap ps.length c3 (by cases h; rfl)
          cases h
          omega)) ?_
        rintro v1 w3 ⟨ho1, hb3⟩
        have sz3 := hb3.size
        simp -dsimp only [push_cast, Nat.reduceAdd, Nat.reduceLeDiff, Nat.reduceBEq, decide_true, ne_eq, eq_self, not_true_eq_false, not_false_eq_true, true_imp_iff, false_imp_iff, Int.reduceNe, Int.reduceEq, Int.reduceLT, Int.reduceLE, Bool.not_true, Bool.not_false]
        refine callK_of (reverse_c (ps.take i) wx.heap.size v1 w3 (by rw [List.length_take]; omega) ho1 (by omega)) ?_
        rintro _ w4 ⟨ho2, hb4⟩
        have sz4 := hb4.size
        have hb34 : Below wx.heap.size wx w4 := hb3.trans hb4
        have hs1' := ho2.sl
        have hb4' : Below w1.heap.size w1 w4 := hbx.trans (hb34.mono (by omega))
        have hP4 : Blk w4 w.heap.size 24 [.slice a p.rules.length c, .bool p.els] := hw1.blk.below hb4' (by omega)
        have e0 : w4.cell? ⟨w.heap.size, 0, none⟩ = some (.slice a p.rules.length c) := hP4.cell rfl
        have e1 : w4.cell? ⟨w.heap.size, 1, none⟩ = some (.bool p.els) := hP4.cell rfl
        have hL4 := hLx.trans (hb34.mono (by omega))
        have ho3 := ho.below (hb34.mono (Nat.le_refl _))
        have hsb : ∃ sb, saysFrom p ps i 0 = sb := ⟨_, rfl⟩
        obtain ⟨sb, hsb⟩ := hsb
        have hyes : (sb = true ∨ i = 0 ∨ i = ps.length) → breaksTo p ps (i + 1) = breaksTo p ps i ++ [i] := fun h => by
          rw [breaksTo_succ, if_pos]
          unfold isBreak
          rw [hsb]
          rcases h with h | h | h
          · rw [h]; rfl
          · rw [decide_eq_true h, Bool.or_true, Bool.true_or]
          · rw [decide_eq_true h, Bool.or_true]
        have hno : sb = false → i ≠ 0 → i ≠ ps.length → breaksTo p ps (i + 1) = breaksTo p ps i := fun h1 h2 h3 => by
          rw [breaksTo_succ, if_neg]
          unfold isBreak
          rw [hsb, h1, decide_eq_false h2, decide_eq_false h3]
          simp
        have hnil1 : ps = [] → i + 1 = 0 := fun h => by subst h; simp at hpos
        simp -dsimp only [push_cast, Nat.reduceAdd, Nat.reduceLeDiff, Nat.reduceBEq, decide_true, ne_eq, eq_self, not_true_eq_false, not_false_eq_true, true_imp_iff, false_imp_iff, Int.reduceNe, Int.reduceEq, Int.reduceLT, Int.reduceLE, Bool.not_true, Bool.not_false, e0, e1]
        refine wpL_loop [4, 5, 9, 11, 12, 13, 14, 15, 16, 17, 44, 45, 46, 47, 48, 49, 50, 51, 52, 53, 54, 55, 56, 57, 58, 59, 60, 61, 62, 63, 64, 65, 66, 67, 68, 69, 70, 71, 72, 73, 74, 75, 76, 77, 78] (fun z' wy => ∃ (k : Nat), z' 44 = .int .i64 k ∧ z' 9 = .bool p.els ∧ k ≤ p.rules.length ∧ saysFrom p ps i 0 = saysFrom p ps i k ∧ Below w4.heap.size w4 wy) (fun z' _ => p.rules.length - (intOf (z' 44)).toNat) ?_ ?_
        · exact ⟨0, rfl, rfl, Nat.zero_le _, rfl, Below.refl _ _⟩
        · intro z' wy hI
          obtain ⟨k, h44, h9, hk, hsk, hby⟩ := hI
          have szy := hby.size
          have hLy : Below w.heap.size w wy := hL4.trans (hby.mono (by omega))
          have hb1y : Below w1.heap.size w1 wy := hb4'.trans (hby.mono (by omega))
          rcases Nat.lt_or_ge k p.rules.length with hlt | hge
          · have hg := lt_get (l := p.rules) (i := k) hlt
            obtain ⟨r, hrk, hrm, _⟩ := hg
            have hg := Sl.getR (PairsV.below hr hLy) hrk
            obtain ⟨b, o, cs, rfl, hX, hk5, hcell, hRr⟩ := hg
            obtain ⟨s1, i1, s2, i2, rfl, h1, h2⟩ := hRr
            have ce : cellsAt wy ⟨b, o + k * 5, none⟩ 0 5 = some [.bool r.brk, s1, i1, s2, i2] := cellsAt_of [.bool r.brk, s1, i1, s2, i2] 0 (fun j u hu => by simpa using hcell j u hu)
            simp -dsimp only [push_cast, Nat.reduceAdd, Nat.reduceLeDiff, Nat.reduceBEq, decide_true, ne_eq, eq_self, not_true_eq_false, not_false_eq_true, true_imp_iff, false_imp_iff, Int.reduceNe, Int.reduceEq, Int.reduceLT, Int.reduceLE, Bool.not_true, Bool.not_false, h44, h9, ce]
            refine ⟨fun _ => ⟨⟨by omega, by omega⟩, ?_⟩, fun h => absurd h (by omega)⟩
            have hcr := hall r hrm
            have hlr := hl.2 r hrm
            refine allocK (z := [.bool false, .slice none 0 0, .slice none 0 0, .slice none 0 0, .slice none 0 0]) (by kernel_rfl) ?_
            intro wa hwa
            simp -dsimp only [push_cast, Nat.reduceAdd, Nat.reduceLeDiff, Nat.reduceBEq, decide_true]
            refine storeAgg (n := 5) (by kernel_rfl) hwa.blk rfl (by simp) (by
              obtain ⟨_, _, e1, g1, g2⟩ := h1; cases e1; obtain ⟨_, _, rfl, _⟩ := g1.shape; obtain ⟨_, _, rfl, _⟩ := g2.shape
              obtain ⟨_, _, e2, g3, g4⟩ := h2; cases e2; obtain ⟨_, _, rfl, _⟩ := g3.shape; obtain ⟨_, _, rfl, _⟩ := g4.shape
              simp [Value.oneCell']) ?_
            intro wb hwb
            have sza := hwa.size
            have szb := hwb.size
            have hbyb : Below wy.heap.size wy wb := hwa.below.trans (hwb.kept.below (by omega) (fun _ h => by omega))
            have hBb : Blk wb wy.heap.size 45 [.bool r.brk, s1, i1, s2, i2] := hwb.blk
            have f1 : cellsAt wb ⟨wy.heap.size, 1, none⟩ 0 2 = some [s1, i1] := blkSome (n := 2) (xs := [s1, i1]) hBb 1 rfl rfl
            have hLb := hLy.trans (hbyb.mono (by omega))
            have hb4b : Below w4.heap.size w4 wb := hby.trans (hbyb.mono szy)
            have hcon := match_c r.before (ps.take i).reverse hlr.1.1 hlr.1.2.1 hlr.1.2.2 (by rw [List.length_reverse, List.length_take]; omega) X _ _ v1 wb (h1.below hbyb) (hs1'.below hb4b)
            unfold MatchV at hcon
            rw [if_pos hcr.1] at hcon
            have e1 : (vmatch r.before (ps.take i).reverse).1 = decide ((vmatch r.before (ps.take i).reverse).1 = true) := by simp
            rw [e1] at hcon
            simp -dsimp only [push_cast, Nat.reduceAdd, Nat.reduceLeDiff, Nat.reduceBEq, decide_true, ne_eq, eq_self, not_true_eq_false, not_false_eq_true, true_imp_iff, false_imp_iff, Int.reduceNe, Int.reduceEq, Int.reduceLT, Int.reduceLE, Bool.not_true, Bool.not_false, f1]
            refine callK_of hcon ?_
            rintro _ wc ⟨rfl, hbc⟩
            have szc := hbc.size
            have hBc := hBb.below hbc (by omega)
            have hb4c : Below w4.heap.size w4 wc := hb4b.trans (hbc.mono (by omega))
            have hst := saysFrom_step (ps := ps) (i := i) hrk
            have hyesr : (vmatch r.before (ps.take i).reverse).1 = true → (vmatch r.after (ps.drop i)).1 = true → r.brk = sb := fun h1 h2 => by
              rw [← hsb, hsk, hst, if_pos]
              unfold ruleMet
              rw [h1, h2]; rfl
            have hnor : ((vmatch r.before (ps.take i).reverse).1 ≠ true ∨ (vmatch r.after (ps.drop i)).1 ≠ true) → saysFrom p ps i 0 = saysFrom p ps i (k + 1) := fun h => by
              rw [hsk, hst, if_neg]
              unfold ruleMet
              rw [Bool.and_eq_true]
              rintro ⟨h1, h2⟩
              rcases h with h | h
              · exact h h1
              · exact h h2
            simp -dsimp only [push_cast, Nat.reduceAdd, Nat.reduceLeDiff, Nat.reduceBEq, decide_true, ne_eq, eq_self, not_true_eq_false, not_false_eq_true, true_imp_iff, false_imp_iff, Int.reduceNe, Int.reduceEq, Int.reduceLT, Int.reduceLE, Bool.not_true, Bool.not_false]
            refine ⟨fun hm1 => ⟨⟨by omega, by omega⟩, ⟨k + 1, rfl, by omega, hnor (.inl hm1), hb4c⟩, by rw [h44]; simp only [intOf]; omega⟩, fun hm1 => ?_⟩
            have hm1 : (vmatch r.before (ps.take i).reverse).1 = true := Classical.byContradiction hm1
            refine wpL_draw (fun w' => Blk w' wy.heap.size 45 [.bool r.brk, s1, i1, s2, i2]) mixed (by kernel_rfl) hBc.drew ?_
            have f2 : ∀ w' : World, Blk w' wy.heap.size 45 [.bool r.brk, s1, i1, s2, i2] → cellsAt w' ⟨wy.heap.size, 3, none⟩ 0 2 = some [s2, i2] := fun w' h => blkSome (n := 2) (xs := [s2, i2]) h 3 rfl rfl
            have f2d := f2 wc.drew hBc.drew
            have hLc : Below w.heap.size w wc.drew := (hL4.trans (hb4c.mono (by omega))).drew
            simp -dsimp only [push_cast, Nat.reduceAdd, Nat.reduceLeDiff, Nat.reduceBEq, decide_true, ne_eq, eq_self, not_true_eq_false, not_false_eq_true, true_imp_iff, false_imp_iff, Int.reduceNe, Int.reduceEq, Int.reduceLT, Int.reduceLE, Bool.not_true, Bool.not_false, f2d]
            refine ⟨fun w'' hC => by rw [f2 w'' hC]; exact rfl, ?_⟩
            refine sliceLoK (hpv.below hLc) hi' ?_
            intro a' c' hs2
            simp -dsimp only [push_cast, Nat.reduceAdd, Nat.reduceLeDiff, Nat.reduceBEq, decide_true, ne_eq, eq_self, not_true_eq_false, not_false_eq_true, true_imp_iff, false_imp_iff, Int.reduceNe, Int.reduceEq, Int.reduceLT, Int.reduceLE, Bool.not_true, Bool.not_false]
            have hcon := match_c r.after (ps.drop i) hlr.2.1 hlr.2.2.1 hlr.2.2.2 (by rw [List.length_drop]; omega) X _ _ _ wc.drew (h2.below (hbyb.trans ((hbc.mono (by omega)).drew))) hs2
            unfold MatchV at hcon
            rw [if_pos hcr.2] at hcon
            have e2 : (vmatch r.after (ps.drop i)).1 = decide ((vmatch r.after (ps.drop i)).1 = true) := by simp
            rw [e2] at hcon
            refine callK_of hcon ?_
            rintro _ we ⟨rfl, hbe0⟩
            have hbe' : Below wc.heap.size wc we := (Below.refl _ _).drew.trans hbe0
            have sze0 := hbe'.size
            have hBe := hBc.below hbe' (by omega)
            refine ⟨hBe, ?_⟩
            have hb4e : Below w4.heap.size w4 we := hb4c.trans (hbe'.mono (by omega))
            simp -dsimp only [push_cast, Nat.reduceAdd, Nat.reduceLeDiff, Nat.reduceBEq, decide_true, ne_eq, eq_self, not_true_eq_false, not_false_eq_true, true_imp_iff, false_imp_iff, Int.reduceNe, Int.reduceEq, Int.reduceLT, Int.reduceLE, Bool.not_true, Bool.not_false]
            refine ⟨fun hm2 => ?_, fun hm2 => ⟨⟨by omega, by omega⟩, ⟨k + 1, rfl, by omega, hnor (.inr hm2), hb4e⟩, by rw [h44]; simp only [intOf]; omega⟩⟩
            have hc0 : we.cell? ⟨wy.heap.size, 0, none⟩ = some (.bool r.brk) := hBe.cell rfl
            rw [hyesr hm1 hm2] at hc0
            have ho4 := ho3.below (hb4e.mono (Nat.le_refl _))
            have hbe : Below w1.heap.size w1 we := hb4'.trans (hb4e.mono (by omega))
            have sze := hbe.size
            cases sb with
            | true =>
              simp -dsimp only [push_cast, Nat.reduceAdd, Nat.reduceLeDiff, Nat.reduceBEq, decide_true, ne_eq, eq_self, not_true_eq_false, not_false_eq_true, true_imp_iff, false_imp_iff, Int.reduceNe, Int.reduceEq, Int.reduceLT, Int.reduceLE, Bool.not_true, Bool.not_false, hc0]
              have hy := hyes (.inl rfl)
              refine rowK elI_25 rfl rfl (by omega) ?_
              intro w6 hw6
              have sz6 := hw6.size
              simp -dsimp only [push_cast, Nat.reduceAdd, Nat.reduceLeDiff, Nat.reduceBEq, decide_true, ne_eq, eq_self, not_true_eq_false, not_false_eq_true, true_imp_iff, false_imp_iff, Int.reduceNe, Int.reduceEq, Int.reduceLT, Int.reduceLE, Bool.not_true, Bool.not_false]
              refine appendK2 (base := w1.heap.size) [i] (enc := encN) elI_25 (ho4.new hw6) (by rfl) (fun j u hu => by simpa [encN] using hw6.cell hu) (by simp [encN, Value.oneCell']) (by simp only [List.length_cons, List.length_nil]; omega) (by omega) ?_
              intro v' w7 ho7 hg7 hn7
              have hk7 : Kept (fun j => (Value.slice ua (breaksTo p ps i).length uc).ownBlock = some j) w6 w7 := Kept.grown hg7 (fun _ h => h)
              have hb7 : Below w1.heap.size w1 w7 := hbe.trans ((hw6.below.mono sze).trans (hk7.below (by omega) (fun g h => (ho4.block g h).1)))
              simp -dsimp only [push_cast, Nat.reduceAdd, Nat.reduceLeDiff, Nat.reduceBEq, decide_true, ne_eq, eq_self, not_true_eq_false, not_false_eq_true, true_imp_iff, false_imp_iff, Int.reduceNe, Int.reduceEq, Int.reduceLT, Int.reduceLE, Bool.not_true, Bool.not_false]
              rw [← hy] at ho7
              exact ⟨⟨by omega, by omega⟩, ⟨i + 1, _, rfl, rfl, by omega, hnil1, ho7, hb7⟩, by rw [h7]; simp only [intOf]; omega⟩
            | false =>
              simp -dsimp only [push_cast, Nat.reduceAdd, Nat.reduceLeDiff, Nat.reduceBEq, decide_true, ne_eq, eq_self, not_true_eq_false, not_false_eq_true, true_imp_iff, false_imp_iff, Int.reduceNe, Int.reduceEq, Int.reduceLT, Int.reduceLE, Bool.not_true, Bool.not_false, hc0]
              refine ⟨fun hi0 => ⟨fun hil => ?_, fun hil => ?_⟩, fun hi0 => ?_⟩
              · have hy := hyes (.inr (.inr (by omega)))
                refine rowK elI_25 rfl rfl (by omega) ?_
                intro w6 hw6
                have sz6 := hw6.size
                simp -dsimp only [push_cast, Nat.reduceAdd, Nat.reduceLeDiff, Nat.reduceBEq, decide_true, ne_eq, eq_self, not_true_eq_false, not_false_eq_true, true_imp_iff, false_imp_iff, Int.reduceNe, Int.reduceEq, Int.reduceLT, Int.reduceLE, Bool.not_true, Bool.not_false]
                refine appendK2 (base := w1.heap.size) [i] (enc := encN) elI_25 (ho4.new hw6) (by rfl) (fun j u hu => by simpa [encN] using hw6.cell hu) (by simp [encN, Value.oneCell']) (by simp only [List.length_cons, List.length_nil]; omega) (by omega) ?_
                intro v' w7 ho7 hg7 hn7
                have hk7 : Kept (fun j => (Value.slice ua (breaksTo p ps i).length uc).ownBlock = some j) w6 w7 := Kept.grown hg7 (fun _ h => h)
                have hb7 : Below w1.heap.size w1 w7 := hbe.trans ((hw6.below.mono sze).trans (hk7.below (by omega) (fun g h => (ho4.block g h).1)))
                simp -dsimp only [push_cast, Nat.reduceAdd, Nat.reduceLeDiff, Nat.reduceBEq, decide_true, ne_eq, eq_self, not_true_eq_false, not_false_eq_true, true_imp_iff, false_imp_iff, Int.reduceNe, Int.reduceEq, Int.reduceLT, Int.reduceLE, Bool.not_true, Bool.not_false]
                rw [← hy] at ho7
                exact ⟨⟨by omega, by omega⟩, ⟨i + 1, _, rfl, rfl, by omega, hnil1, ho7, hb7⟩, by rw [h7]; simp only [intOf]; omega⟩
              · have hy := hno rfl (by omega) (by omega)
                have ho5 : Vc.Own w1.heap.size 3 1 encN we (.slice ua (breaksTo p ps i).length uc) (breaksTo p ps (i + 1)) := by rw [hy]; exact ho4
                exact ⟨⟨by omega, by omega⟩, ⟨i + 1, _, rfl, rfl, by omega, hnil1, ho5, hbe⟩, by rw [h7]; simp only [intOf]; omega⟩
              · have hy := hyes (.inr (.inl (by omega)))
                refine rowK elI_25 rfl rfl (by omega) ?_
                intro w6 hw6
                have sz6 := hw6.size
                simp -dsimp only [push_cast, Nat.reduceAdd, Nat.reduceLeDiff, Nat.reduceBEq, decide_true, ne_eq, eq_self, not_true_eq_false, not_false_eq_true, true_imp_iff, false_imp_iff, Int.reduceNe, Int.reduceEq, Int.reduceLT, Int.reduceLE, Bool.not_true, Bool.not_false]
                refine appendK2 (base := w1.heap.size) [i] (enc := encN) elI_25 (ho4.new hw6) (by rfl) (fun j u hu => by simpa [encN] using hw6.cell hu) (by simp [encN, Value.oneCell']) (by simp only [List.length_cons, List.length_nil]; omega) (by omega) ?_
                intro v' w7 ho7 hg7 hn7
                have hk7 : Kept (fun j => (Value.slice ua (breaksTo p ps i).length uc).ownBlock = some j) w6 w7 := Kept.grown hg7 (fun _ h => h)
                have hb7 : Below w1.heap.size w1 w7 := hbe.trans ((hw6.below.mono sze).trans (hk7.below (by omega) (fun g h => (ho4.block g h).1)))
                simp -dsimp only [push_cast, Nat.reduceAdd, Nat.reduceLeDiff, Nat.reduceBEq, decide_true, ne_eq, eq_self, not_true_eq_false, not_false_eq_true, true_imp_iff, false_imp_iff, Int.reduceNe, Int.reduceEq, Int.reduceLT, Int.reduceLE, Bool.not_true, Bool.not_false]
                rw [← hy] at ho7
                exact ⟨⟨by omega, by omega⟩, ⟨i + 1, _, rfl, rfl, by omega, hnil1, ho7, hb7⟩, by rw [h7]; simp only [intOf]; omega⟩
          · have hke : p.els = sb := by rw [← hsb, hsk, saysFrom_end p ps i k hge]
            rw [hke] at h9
            simp -dsimp only [push_cast, Nat.reduceAdd, Nat.reduceLeDiff, Nat.reduceBEq, decide_true, ne_eq, eq_self, not_true_eq_false, not_false_eq_true, true_imp_iff, false_imp_iff, Int.reduceNe, Int.reduceEq, Int.reduceLT, Int.reduceLE, Bool.not_true, Bool.not_false, h44, h9]
            refine ⟨fun h => absurd h (by omega), fun _ => ?_⟩
            have ho4 := ho3.below (hby.mono (Nat.le_refl _))
            have hbe := hb1y
            have sze := hbe.size
            cases sb with
            | true =>
              simp -dsimp only [push_cast, Nat.reduceAdd, Nat.reduceLeDiff, Nat.reduceBEq, decide_true, ne_eq, eq_self, not_true_eq_false, not_false_eq_true, true_imp_iff, false_imp_iff, Int.reduceNe, Int.reduceEq, Int.reduceLT, Int.reduceLE, Bool.not_true, Bool.not_false, h44]
              have hy := hyes (.inl rfl)
              refine rowK elI_25 rfl rfl (by omega) ?_
              intro w6 hw6
              have sz6 := hw6.size
              simp -dsimp only [push_cast, Nat.reduceAdd, Nat.reduceLeDiff, Nat.reduceBEq, decide_true, ne_eq, eq_self, not_true_eq_false, not_false_eq_true, true_imp_iff, false_imp_iff, Int.reduceNe, Int.reduceEq, Int.reduceLT, Int.reduceLE, Bool.not_true, Bool.not_false]
              refine appendK2 (base := w1.heap.size) [i] (enc := encN) elI_25 (ho4.new hw6) (by rfl) (fun j u hu => by simpa [encN] using hw6.cell hu) (by simp [encN, Value.oneCell']) (by simp only [List.length_cons, List.length_nil]; omega) (by omega) ?_
              intro v' w7 ho7 hg7 hn7
              have hk7 : Kept (fun j => (Value.slice ua (breaksTo p ps i).length uc).ownBlock = some j) w6 w7 := Kept.grown hg7 (fun _ h => h)
              have hb7 : Below w1.heap.size w1 w7 := hbe.trans ((hw6.below.mono sze).trans (hk7.below (by omega) (fun g h => (ho4.block g h).1)))
              simp -dsimp only [push_cast, Nat.reduceAdd, Nat.reduceLeDiff, Nat.reduceBEq, decide_true, ne_eq, eq_self, not_true_eq_false, not_false_eq_true, true_imp_iff, false_imp_iff, Int.reduceNe, Int.reduceEq, Int.reduceLT, Int.reduceLE, Bool.not_true, Bool.not_false]
              rw [← hy] at ho7
              exact ⟨⟨by omega, by omega⟩, ⟨i + 1, _, rfl, rfl, by omega, hnil1, ho7, hb7⟩, by rw [h7]; simp only [intOf]; omega⟩
            | false =>
              simp -dsimp only [push_cast, Nat.reduceAdd, Nat.reduceLeDiff, Nat.reduceBEq, decide_true, ne_eq, eq_self, not_true_eq_false, not_false_eq_true, true_imp_iff, false_imp_iff, Int.reduceNe, Int.reduceEq, Int.reduceLT, Int.reduceLE, Bool.not_true, Bool.not_false, h44]
              refine ⟨fun hi0 => ⟨fun hil => ?_, fun hil => ?_⟩, fun hi0 => ?_⟩
              · have hy := hyes (.inr (.inr (by omega)))
                refine rowK elI_25 rfl rfl (by omega) ?_
                intro w6 hw6
                have sz6 := hw6.size
                simp -dsimp only [push_cast, Nat.reduceAdd, Nat.reduceLeDiff, Nat.reduceBEq, decide_true, ne_eq, eq_self, not_true_eq_false, not_false_eq_true, true_imp_iff, false_imp_iff, Int.reduceNe, Int.reduceEq, Int.reduceLT, Int.reduceLE, Bool.not_true, Bool.not_false]
                refine appendK2 (base := w1.heap.size) [i] (enc := encN) elI_25 (ho4.new hw6) (by rfl) (fun j u hu => by simpa [encN] using hw6.cell hu) (by simp [encN, Value.oneCell']) (by simp only [List.length_cons, List.length_nil]; omega) (by omega) ?_
                intro v' w7 ho7 hg7 hn7
                have hk7 : Kept (fun j => (Value.slice ua (breaksTo p ps i).length uc).ownBlock = some j) w6 w7 := Kept.grown hg7 (fun _ h => h)
                have hb7 : Below w1.heap.size w1 w7 := hbe.trans ((hw6.below.mono sze).trans (hk7.below (by omega) (fun g h => (ho4.block g h).1)))
                simp -dsimp only [push_cast, Nat.reduceAdd, Nat.reduceLeDiff, Nat.reduceBEq, decide_true, ne_eq, eq_self, not_true_eq_false, not_false_eq_true, true_imp_iff, false_imp_iff, Int.reduceNe, Int.reduceEq, Int.reduceLT, Int.reduceLE, Bool.not_true, Bool.not_false]
                rw [← hy] at ho7
                exact ⟨⟨by omega, by omega⟩, ⟨i + 1, _, rfl, rfl, by omega, hnil1, ho7, hb7⟩, by rw [h7]; simp only [intOf]; omega⟩
              · have hy := hno rfl (by omega) (by omega)
                have ho5 : Vc.Own w1.heap.size 3 1 encN wy (.slice ua (breaksTo p ps i).length uc) (breaksTo p ps (i + 1)) := by rw [hy]; exact ho4
                exact ⟨⟨by omega, by omega⟩, ⟨i + 1, _, rfl, rfl, by omega, hnil1, ho5, hbe⟩, by rw [h7]; simp only [intOf]; omega⟩
              · have hy := hyes (.inr (.inl (by omega)))
                refine rowK elI_25 rfl rfl (by omega) ?_
                intro w6 hw6
                have sz6 := hw6.size
                simp -dsimp only [push_cast, Nat.reduceAdd, Nat.reduceLeDiff, Nat.reduceBEq, decide_true, ne_eq, eq_self, not_true_eq_false, not_false_eq_true, true_imp_iff, false_imp_iff, Int.reduceNe, Int.reduceEq, Int.reduceLT, Int.reduceLE, Bool.not_true, Bool.not_false]
                refine appendK2 (base := w1.heap.size) [i] (enc := encN) elI_25 (ho4.new hw6) (by rfl) (fun j u hu => by simpa [encN] using hw6.cell hu) (by simp [encN, Value.oneCell']) (by simp only [List.length_cons, List.length_nil]; omega) (by omega) ?_
                intro v' w7 ho7 hg7 hn7
                have hk7 : Kept (fun j => (Value.slice ua (breaksTo p ps i).length uc).ownBlock = some j) w6 w7 := Kept.grown hg7 (fun _ h => h)
                have hb7 : Below w1.heap.size w1 w7 := hbe.trans ((hw6.below.mono sze).trans (hk7.below (by omega) (fun g h => (ho4.block g h).1)))
                simp -dsimp only [push_cast, Nat.reduceAdd, Nat.reduceLeDiff, Nat.reduceBEq, decide_true, ne_eq, eq_self, not_true_eq_false, not_false_eq_true, true_imp_iff, false_imp_iff, Int.reduceNe, Int.reduceEq, Int.reduceLT, Int.reduceLE, Bool.not_true, Bool.not_false]
                rw [← hy] at ho7
                exact ⟨⟨by omega, by omega⟩, ⟨i + 1, _, rfl, rfl, by omega, hnil1, ho7, hb7⟩, by rw [h7]; simp only [intOf]; omega⟩
      · have h0 : ps = [] := List.eq_nil_of_length_eq_zero (by omega)
        rw [← hdone (.inl h0)]
        exact ⟨⟨_, rfl, ho.mono (by omega)⟩, hLx⟩
      · rw [← hdone (.inr (by omega))]
        exact ⟨⟨_, rfl, ho.mono (by omega)⟩, hLx⟩
end Go.Proofs.YtiofleijieepgaaGreatDoor
end
section
namespace Go.Proofs.YtiofleijieepgaaGreatDoor
open Go.Vc Go.Proofs Go.RowKit Cae
set_option maxRecDepth 100000
set_option linter.unusedSimpArgs false
set_option linter.unusedVariables false
attribute [local irreducible] wpL callK valK unitK runK Fun Sl Vc.Own vc vcOps opK pureK
set_option maxHeartbeats 8000000
theorem parse_len {s : List UInt8} {p : ProgP} (h : parseA s = .ok p) (hs : s.length ≤ 999990) : ProgLen p := by
  have hL := linesA_len s
  unfold parseA at h
  cases hb : bodyA (linesA s) with
  | error e => rw [hb] at h; cases h
  | ok q =>
    rw [hb] at h
    simp only at h
    split at h
    · split at h
      · simp only [ReadA.ok.injEq] at h
        subst h
        exact fewP_len (bodyA_few hb) (by omega)
      · cases h
    · cases h
theorem written_c (w : World) (hv : Vs w) (hg : 14 ≤ w.heap.size) : Fun Tryz.prog 7 [] w fun r w' => r = .bool true ∧ Below w.heap.size w w' := by
  obtain ⟨p, hp, h1, he, ht, hr⟩ := fact_read
  have hfl : factA.length ≤ 100 := by decide
  have hpl := parse_len hp (by omega)
  refine fun_of_vc Tryz.func7 rfl (by kernel_rfl) [0] rfl ?_
  simp -dsimp (maxSteps := 4000000) only [push_cast, fr0, Tryz.ntmps7, List.length_cons, List.length_nil, Nat.reduceAdd, Nat.reduceSub, Nat.reduceBEq, List.replicate_succ, List.replicate_zero]
  refine callK_of (parseA_c factA (by omega) w hv hg) ?_
  rintro r w1 ⟨hr1, hb1⟩
  have z1 := hb1.size
  unfold ParseA at hr1
  rw [hp] at hr1
  obtain ⟨v, rfl, hpv⟩ := hr1
  obtain ⟨rv, rfl, hrv⟩ := hpv
  have hsh := hrv.shape
  obtain ⟨ra, rc, rfl, hrc⟩ := hsh
  rw [h1] at hrv
  rw [h1, he]
  simp -dsimp only [push_cast, Nat.reduceAdd, Nat.reduceLeDiff, Nat.reduceBEq, decide_true, ne_eq, eq_self, not_true_eq_false, not_false_eq_true, true_imp_iff, false_imp_iff, Int.reduceNe, Int.reduceEq, Int.reduceLT, Int.reduceLE, Bool.not_true, Bool.not_false]
  refine allocK (z := [.slice none 0 0, .bool false]) (by kernel_rfl) ?_
  intro w2 hw2
  have z2 := hw2.size
  simp -dsimp only [push_cast, Nat.reduceAdd, Nat.reduceLeDiff, Nat.reduceBEq, decide_true, ne_eq, eq_self, not_true_eq_false, not_false_eq_true, true_imp_iff, false_imp_iff, Int.reduceNe, Int.reduceEq, Int.reduceLT, Int.reduceLE, Bool.not_true, Bool.not_false]
  refine storeAgg (n := 2) (by kernel_rfl) hw2.blk rfl (by simp) (by simp [Value.oneCell']) ?_
  intro w3 hw3
  have z3 := hw3.size
  have B3 : Blk w3 w1.heap.size 24 [.slice ra 1 rc, .bool true] := hw3.blk
  have hb13 : Below w1.heap.size w1 w3 := hw2.below.trans (hw3.kept.below (by omega) (fun i h => by omega))
  have d0 : w3.cell? ⟨w1.heap.size, 0, none⟩ = some (.slice ra 1 rc) := B3.cell rfl
  have d1 : w3.cell? ⟨w1.heap.size, 1, none⟩ = some (.bool true) := B3.cell rfl
  have d2 : cellsAt w3 ⟨w1.heap.size, 0, none⟩ 0 2 = some [.slice ra 1 rc, .bool true] := B3.cellsAt
  simp -dsimp only [push_cast, Nat.reduceAdd, Nat.reduceLeDiff, Nat.reduceBEq, decide_true, ne_eq, eq_self, not_true_eq_false, not_false_eq_true, true_imp_iff, false_imp_iff, Int.reduceNe, Int.reduceEq, Int.reduceLT, Int.reduceLE, Bool.not_true, Bool.not_false, d0, d1, d2]
  have hbw3 := hb1.trans (hb13.mono z1)
  have hpv3 : ProgV (fun j => j < w.heap.size) w3 (.agg #[.slice ra 1 rc, .bool true]) p := ProgV.below (p := p) ⟨_, by rw [he], hrv⟩ hb13
  have hv3 := hv.below hbw3 hg
  refine ⟨fun _ => ?_, fun h => absurd rfl h⟩
  refine callK_of (asmPrint_c p hpl (fun _ => by rw [ht]; omega) _ _ w3 hpv3 hv3.d hv3.p hv3.n (by omega)) ?_
  rintro _ w4 ⟨rfl, hb4⟩
  rw [if_pos hr, ht]
  simp -dsimp only [push_cast, Nat.reduceAdd, Nat.reduceLeDiff, Nat.reduceBEq, decide_true, ne_eq, eq_self, not_true_eq_false, not_false_eq_true, true_imp_iff, false_imp_iff, Int.reduceNe, Int.reduceEq, Int.reduceLT, Int.reduceLE, Bool.not_true, Bool.not_false]
  exact ⟨rfl, hbw3.trans (hb4.mono (by omega))⟩
theorem asmBack_c (p : ProgP) (s : List UInt8) (ps : List Int) (v pv : Value) (w : World) (hv : Vs w) (hg : 14 ≤ w.heap.size) (hpv : ProgV (fun _ => False) w v p) (hps : Sl (fun _ => False) 1 (En encI) w pv ps) (hap : Arg pv) :
    Fun Tryz.prog 3 [v, str s, pv] w fun r w' => r = .bool true ∧ Below w.heap.size w w' := by
  have hpv0 := hpv
  obtain ⟨rv, rfl, hrv⟩ := hpv
  obtain ⟨a, c, rfl, hc⟩ := hrv.shape
  obtain ⟨la, lc, rfl, hlc⟩ := hps.shape
  refine fun_of_vc Tryz.func3 rfl (by kernel_rfl) [6] rfl ?_
  simp -dsimp (maxSteps := 4000000) only [push_cast, fr0, Tryz.ntmps3, List.length_cons, List.length_nil, Nat.reduceAdd, Nat.reduceSub, Nat.reduceBEq, List.replicate_succ, List.replicate_zero]
  refine boxK_of ?_
  intro w1 hw1
  have hw1 : New w w1 24 [.slice a p.rules.length c, .bool p.els] := hw1
  have z1 := hw1.size
  have B1 := hw1.blk
  have d1 : cellsAt w1 ⟨w.heap.size, 0, none⟩ 0 2 = some [.slice a p.rules.length c, .bool p.els] := B1.cellsAt
  simp -dsimp only [push_cast, Nat.reduceAdd, Nat.reduceLeDiff, Nat.reduceBEq, decide_true, ne_eq, eq_self, not_true_eq_false, not_false_eq_true, true_imp_iff, false_imp_iff, Int.reduceNe, Int.reduceEq, Int.reduceLT, Int.reduceLE, Bool.not_true, Bool.not_false, d1]
  refine callK_of (smallProgram_c p (fun _ => False) _ w1 (hpv0.below hw1.below)) ?_
  rintro _ w2 ⟨rfl, hb2⟩
  have z2 := hb2.size
  have hbw2 := hw1.below.trans (hb2.mono (by omega))
  have B2 := B1.below hb2 B1.lt
  cases hsm : smallProgP p with
  | false =>
    simp -dsimp only [push_cast, Nat.reduceAdd, Nat.reduceLeDiff, Nat.reduceBEq, decide_true, ne_eq, eq_self, not_true_eq_false, not_false_eq_true, true_imp_iff, false_imp_iff, Int.reduceNe, Int.reduceEq, Int.reduceLT, Int.reduceLE, Bool.not_true, Bool.not_false]
    exact hbw2
  | true =>
    have hpl := smallProg_len hsm
    simp -dsimp only [push_cast, Nat.reduceAdd, Nat.reduceLeDiff, Nat.reduceBEq, decide_true, ne_eq, eq_self, not_true_eq_false, not_false_eq_true, true_imp_iff, false_imp_iff, Int.reduceNe, Int.reduceEq, Int.reduceLT, Int.reduceLE, Bool.not_true, Bool.not_false]
    have hv2 := hv.below hbw2 hg
    refine ⟨fun h1 => ⟨fun _ => hbw2, fun h2 => ?_⟩, fun h1 => hbw2⟩
    refine callK_of (written_c w2 hv2 (by omega)) ?_
    rintro _ w3 ⟨rfl, hb3⟩
    have z3 := hb3.size
    have hbw3 := hbw2.trans (hb3.mono (by omega))
    have hv3 := hv.below hbw3 hg
    have B3 := B2.below hb3 B2.lt
    simp -dsimp only [push_cast, Nat.reduceAdd, Nat.reduceLeDiff, Nat.reduceBEq, decide_true, ne_eq, eq_self, not_true_eq_false, not_false_eq_true, true_imp_iff, false_imp_iff, Int.reduceNe, Int.reduceEq, Int.reduceLT, Int.reduceLE, Bool.not_true, Bool.not_false]
    refine callK_of (parseA_c s (by omega) w3 hv3 (by omega)) ?_
    rintro r4 w4 ⟨hr4, hb4⟩
    have z4 := hb4.size
    have hbw4 := hbw3.trans (hb4.mono (by omega))
    have B4 := B3.below hb4 B3.lt
    unfold ParseA at hr4
    cases hps4 : parseA s with
    | ok q0 =>
      rw [hps4] at hr4
      obtain ⟨qv, rfl, hqv⟩ := hr4
      obtain ⟨rq, rfl, hrq⟩ := hqv
      have hsh := hrq.shape
      obtain ⟨qa0, qc0, rfl, hqc⟩ := hsh
      have hrd := asm_read hps4
      have hql0 := parse_len hps4 (by omega)
      simp -dsimp only [push_cast, Nat.reduceAdd, Nat.reduceLeDiff, Nat.reduceBEq, decide_true, ne_eq, eq_self, not_true_eq_false, not_false_eq_true, true_imp_iff, false_imp_iff, Int.reduceNe, Int.reduceEq, Int.reduceLT, Int.reduceLE, Bool.not_true, Bool.not_false]
      refine allocK (z := [.slice none 0 0, .bool false]) (by kernel_rfl) ?_
      intro w5 hw5
      have z5 := hw5.size
      simp -dsimp only [push_cast, Nat.reduceAdd, Nat.reduceLeDiff, Nat.reduceBEq, decide_true, ne_eq, eq_self, not_true_eq_false, not_false_eq_true, true_imp_iff, false_imp_iff, Int.reduceNe, Int.reduceEq, Int.reduceLT, Int.reduceLE, Bool.not_true, Bool.not_false]
      refine storeAgg (n := 2) (by kernel_rfl) hw5.blk rfl (by simp) (by simp [Value.oneCell']) ?_
      intro w6 hw6
      have z6 := hw6.size
      have hb46 : Below w4.heap.size w4 w6 := hw5.below.trans (hw6.kept.below (by omega) (fun i h => by omega))
      have hbw6 := hbw4.trans (hb46.mono (by omega))
      have Q6 : Blk w6 w4.heap.size 24 [.slice qa0 q0.rules.length qc0, .bool q0.els] := hw6.blk
      have B6 := B4.below hb46 B4.lt
      have q6 : cellsAt w6 ⟨w4.heap.size, 0, none⟩ 0 2 = some [.slice qa0 q0.rules.length qc0, .bool q0.els] := Q6.cellsAt
      have hq6 : ProgV (fun j => j < w3.heap.size) w6 (.agg #[.slice qa0 q0.rules.length qc0, .bool q0.els]) q0 := ProgV.below (p := q0) ⟨_, rfl, hrq⟩ hb46
      have hv6 := hv.below hbw6 hg
      simp -dsimp only [push_cast, Nat.reduceAdd, Nat.reduceLeDiff, Nat.reduceBEq, decide_true, ne_eq, eq_self, not_true_eq_false, not_false_eq_true, true_imp_iff, false_imp_iff, Int.reduceNe, Int.reduceEq, Int.reduceLT, Int.reduceLE, Bool.not_true, Bool.not_false, q6]
      refine callK_of (asmPrint_c q0 hql0 (fun _ => by rw [hrd.1]; omega) _ _ w6 hq6 hv6.d hv6.p hv6.n (by omega)) ?_
      rintro _ w7 ⟨rfl, hb7⟩
      have z7 := hb7.size
      have hbw7 := hbw6.trans (hb7.mono (by omega))
      have B7 := B6.below hb7 B6.lt
      rw [if_pos hrd.2, hrd.1]
      simp -dsimp only [push_cast, Nat.reduceAdd, Nat.reduceLeDiff, Nat.reduceBEq, decide_true, ne_eq, eq_self, not_true_eq_false, not_false_eq_true, true_imp_iff, false_imp_iff, Int.reduceNe, Int.reduceEq, Int.reduceLT, Int.reduceLE, Bool.not_true, Bool.not_false]
      -- w7: the world; hbw7: Below w.heap.size w w7
      have hb9 := hbw7
      have z9 := hb9.size
      have B9 : Blk (w7) w.heap.size 24 [.slice a p.rules.length c, .bool p.els] := B7
      have d9 : cellsAt (w7) ⟨w.heap.size, 0, none⟩ 0 2 = some [.slice a p.rules.length c, .bool p.els] := B9.cellsAt
      have hv9 := hv.below hb9 hg
      have hp9 := hpv0.below hb9
      simp -dsimp only [push_cast, Nat.reduceAdd, Nat.reduceLeDiff, Nat.reduceBEq, decide_true, ne_eq, eq_self, not_true_eq_false, not_false_eq_true, true_imp_iff, false_imp_iff, Int.reduceNe, Int.reduceEq, Int.reduceLT, Int.reduceLE, Bool.not_true, Bool.not_false, d9]
      refine callK_of (asmPrint_c p hpl (fun hR => by have := smallProg_text hsm hR; omega) _ _ (w7) hp9 hv9.d hv9.p hv9.n (by omega)) ?_
      rintro _ wa ⟨rfl, hba⟩
      have za := hba.size
      have hbwa := hb9.trans (hba.mono z9)
      have Ba := B9.below hba B9.lt
      cases hR : progRight p with
      | false =>
        have da : cellsAt wa ⟨w.heap.size, 0, none⟩ 0 2 = some [.slice a p.rules.length c, .bool p.els] := Ba.cellsAt
        simp -dsimp only [push_cast, Nat.reduceAdd, Nat.reduceLeDiff, Nat.reduceBEq, decide_true, ne_eq, eq_self, not_true_eq_false, not_false_eq_true, true_imp_iff, false_imp_iff, Int.reduceNe, Int.reduceEq, Int.reduceLT, Int.reduceLE, Bool.not_true, Bool.not_false, Bool.false_eq_true, if_false, da]
        refine callK_of (rightProgram_c p hpl _ _ wa (hpv0.below hbwa)) ?_
        rintro _ wb ⟨rfl, hbb⟩
        rw [hR]
        simp -dsimp only [push_cast, Nat.reduceAdd, Nat.reduceLeDiff, Nat.reduceBEq, decide_true, ne_eq, eq_self, not_true_eq_false, not_false_eq_true, true_imp_iff, false_imp_iff, Int.reduceNe, Int.reduceEq, Int.reduceLT, Int.reduceLE, Bool.not_true, Bool.not_false]
        exact hbwa.trans (hbb.mono (by omega))
      | true =>
        have hback := asm_back hR
        obtain ⟨q, hq1, hq2, hq3, hq4, hq5⟩ := hback
        have htl := smallProg_text hsm hR
        have hql := parse_len hq1 (by omega)
        simp -dsimp only [push_cast, Nat.reduceAdd, Nat.reduceLeDiff, Nat.reduceBEq, decide_true, ne_eq, eq_self, not_true_eq_false, not_false_eq_true, true_imp_iff, false_imp_iff, Int.reduceNe, Int.reduceEq, Int.reduceLT, Int.reduceLE, Bool.not_true, Bool.not_false, if_true]
        refine callK_of (parseA_c (progT p) (by omega) wa (hv.below hbwa hg) (by omega)) ?_
        rintro rb wb ⟨hrb, hbb⟩
        have zb := hbb.size
        have hbwb := hbwa.trans (hbb.mono (by omega))
        have Bb := Ba.below hbb Ba.lt
        unfold ParseA at hrb
        rw [hq1] at hrb
        obtain ⟨qv, rfl, hqv⟩ := hrb
        obtain ⟨rq, rfl, hrq⟩ := hqv
        have hsh := hrq.shape
        obtain ⟨qa, qc, rfl, hqc⟩ := hsh
        simp -dsimp only [push_cast, Nat.reduceAdd, Nat.reduceLeDiff, Nat.reduceBEq, decide_true, ne_eq, eq_self, not_true_eq_false, not_false_eq_true, true_imp_iff, false_imp_iff, Int.reduceNe, Int.reduceEq, Int.reduceLT, Int.reduceLE, Bool.not_true, Bool.not_false]
        refine allocK (z := [.slice none 0 0, .bool false]) (by kernel_rfl) ?_
        intro wc hwc
        have zc := hwc.size
        simp -dsimp only [push_cast, Nat.reduceAdd, Nat.reduceLeDiff, Nat.reduceBEq, decide_true, ne_eq, eq_self, not_true_eq_false, not_false_eq_true, true_imp_iff, false_imp_iff, Int.reduceNe, Int.reduceEq, Int.reduceLT, Int.reduceLE, Bool.not_true, Bool.not_false]
        refine storeAgg (n := 2) (by kernel_rfl) hwc.blk rfl (by simp) (by simp [Value.oneCell']) ?_
        intro wd hwd
        have zd := hwd.size
        have hbbd : Below wb.heap.size wb wd := hwc.below.trans (hwd.kept.below (by omega) (fun i h => by omega))
        have hbwd := hbwb.trans (hbbd.mono (by omega))
        have Qd : Blk wd wb.heap.size 24 [.slice qa q.rules.length qc, .bool q.els] := hwd.blk
        have Bd := Bb.below hbbd Bb.lt
        have qd : cellsAt wd ⟨wb.heap.size, 0, none⟩ 0 2 = some [.slice qa q.rules.length qc, .bool q.els] := Qd.cellsAt
        have hqd : ProgV (fun j => j < wa.heap.size) wd (.agg #[.slice qa q.rules.length qc, .bool q.els]) q := ProgV.below (p := q) ⟨_, rfl, hrq⟩ hbbd
        have hvd := hv.below hbwd hg
        simp -dsimp only [push_cast, Nat.reduceAdd, Nat.reduceLeDiff, Nat.reduceBEq, decide_true, ne_eq, eq_self, not_true_eq_false, not_false_eq_true, true_imp_iff, false_imp_iff, Int.reduceNe, Int.reduceEq, Int.reduceLT, Int.reduceLE, Bool.not_true, Bool.not_false, qd]
        refine callK_of (asmPrint_c q hql (fun _ => by rw [hq2]; omega) _ _ wd hqd hvd.d hvd.p hvd.n (by omega)) ?_
        rintro _ we ⟨rfl, hbe⟩
        have ze := hbe.size
        have hbwe := hbwd.trans (hbe.mono (by omega))
        have Be := Bd.below hbe Bd.lt
        have Qe := Qd.below hbe Qd.lt
        rw [if_pos hq3, hq2]
        have de : cellsAt we ⟨w.heap.size, 0, none⟩ 0 2 = some [.slice a p.rules.length c, .bool p.els] := Be.cellsAt
        simp -dsimp only [push_cast, Nat.reduceAdd, Nat.reduceLeDiff, Nat.reduceBEq, decide_true, ne_eq, eq_self, not_true_eq_false, not_false_eq_true, true_imp_iff, false_imp_iff, Int.reduceNe, Int.reduceEq, Int.reduceLT, Int.reduceLE, Bool.not_true, Bool.not_false, de]
        refine callK_of (breaks_c p ps hpl (by omega) _ _ _ _ we (hpv0.below hbwe) (hps.below hbwe) hap) ?_
        rintro rf wf ⟨hrf, hbf⟩
        rw [hR, if_pos rfl] at hrf
        obtain ⟨uf, rfl, hof⟩ := hrf
        have zf := hbf.size
        have hbwf := hbwe.trans (hbf.mono (by omega))
        have Qf := Qe.below hbf Qe.lt
        have qf : cellsAt wf ⟨wb.heap.size, 0, none⟩ 0 2 = some [.slice qa q.rules.length qc, .bool q.els] := Qf.cellsAt
        simp -dsimp only [push_cast, Nat.reduceAdd, Nat.reduceLeDiff, Nat.reduceBEq, decide_true, ne_eq, eq_self, not_true_eq_false, not_false_eq_true, true_imp_iff, false_imp_iff, Int.reduceNe, Int.reduceEq, Int.reduceLT, Int.reduceLE, Bool.not_true, Bool.not_false, qf]
        refine callK_of (breaks_c q ps hql (by omega) _ _ _ _ wf ((hqd.below hbe).below hbf) (hps.below hbwf) hap) ?_
        rintro rg wg ⟨hrg, hbg⟩
        rw [hq3, if_pos rfl, hq4 ps] at hrg
        obtain ⟨ug, rfl, hog⟩ := hrg
        have zg := hbg.size
        have hbwg := hbwf.trans (hbg.mono (by omega))
        have hbl : (breaksP p ps).length ≤ ps.length + 1 := by
          unfold breaksP
          split
          · simp
          · exact breaksTo_len p ps _
        simp -dsimp only [push_cast, Nat.reduceAdd, Nat.reduceLeDiff, Nat.reduceBEq, decide_true, ne_eq, eq_self, not_true_eq_false, not_false_eq_true, true_imp_iff, false_imp_iff, Int.reduceNe, Int.reduceEq, Int.reduceLT, Int.reduceLE, Bool.not_true, Bool.not_false]
        refine callK_of (equalN_c (breaksP p ps) (breaksP p ps) (by omega) _ _ _ _ wg (hof.sl.below hbg) hog.sl) ?_
        rintro _ wh ⟨rfl, hbh⟩
        rw [decide_eq_true rfl]
        simp -dsimp only [push_cast, Nat.reduceAdd, Nat.reduceLeDiff, Nat.reduceBEq, decide_true, ne_eq, eq_self, not_true_eq_false, not_false_eq_true, true_imp_iff, false_imp_iff, Int.reduceNe, Int.reduceEq, Int.reduceLT, Int.reduceLE, Bool.not_true, Bool.not_false]
        exact hbwg.trans (hbh.mono (by omega))
    | form n =>
      rw [hps4] at hr4
      obtain ⟨fb, hfb, rfl, hfB⟩ := hr4
      simp -dsimp only [push_cast, Nat.reduceAdd, Nat.reduceLeDiff, Nat.reduceBEq, decide_true, ne_eq, eq_self, not_true_eq_false, not_false_eq_true, true_imp_iff, false_imp_iff, Int.reduceNe, Int.reduceEq, Int.reduceLT, Int.reduceLE, Bool.not_true, Bool.not_false]
      refine allocK (z := [.slice none 0 0, .bool false]) (by kernel_rfl) ?_
      intro w5 hw5
      have z5 := hw5.size
      simp -dsimp only [push_cast, Nat.reduceAdd, Nat.reduceLeDiff, Nat.reduceBEq, decide_true, ne_eq, eq_self, not_true_eq_false, not_false_eq_true, true_imp_iff, false_imp_iff, Int.reduceNe, Int.reduceEq, Int.reduceLT, Int.reduceLE, Bool.not_true, Bool.not_false]
      refine storeAgg (n := 2) (by kernel_rfl) hw5.blk rfl (by simp) (by simp [Value.oneCell']) ?_
      intro w6 hw6
      have z6 := hw6.size
      have hb46 : Below w4.heap.size w4 w6 := hw5.below.trans (hw6.kept.below (by omega) (fun i h => by omega))
      have hbw6 := hbw4.trans (hb46.mono (by omega))
      have B6 := B4.below hb46 B4.lt
      simp -dsimp only [push_cast, Nat.reduceAdd, Nat.reduceLeDiff, Nat.reduceBEq, decide_true, ne_eq, eq_self, not_true_eq_false, not_false_eq_true, true_imp_iff, false_imp_iff, Int.reduceNe, Int.reduceEq, Int.reduceLT, Int.reduceLE, Bool.not_true, Bool.not_false]
      -- w6: the world; hbw6: Below w.heap.size w w6
      have hb9 := hbw6
      have z9 := hb9.size
      have B9 : Blk (w6) w.heap.size 24 [.slice a p.rules.length c, .bool p.els] := B6
      have d9 : cellsAt (w6) ⟨w.heap.size, 0, none⟩ 0 2 = some [.slice a p.rules.length c, .bool p.els] := B9.cellsAt
      have hv9 := hv.below hb9 hg
      have hp9 := hpv0.below hb9
      simp -dsimp only [push_cast, Nat.reduceAdd, Nat.reduceLeDiff, Nat.reduceBEq, decide_true, ne_eq, eq_self, not_true_eq_false, not_false_eq_true, true_imp_iff, false_imp_iff, Int.reduceNe, Int.reduceEq, Int.reduceLT, Int.reduceLE, Bool.not_true, Bool.not_false, d9]
      refine callK_of (asmPrint_c p hpl (fun hR => by have := smallProg_text hsm hR; omega) _ _ (w6) hp9 hv9.d hv9.p hv9.n (by omega)) ?_
      rintro _ wa ⟨rfl, hba⟩
      have za := hba.size
      have hbwa := hb9.trans (hba.mono z9)
      have Ba := B9.below hba B9.lt
      cases hR : progRight p with
      | false =>
        have da : cellsAt wa ⟨w.heap.size, 0, none⟩ 0 2 = some [.slice a p.rules.length c, .bool p.els] := Ba.cellsAt
        simp -dsimp only [push_cast, Nat.reduceAdd, Nat.reduceLeDiff, Nat.reduceBEq, decide_true, ne_eq, eq_self, not_true_eq_false, not_false_eq_true, true_imp_iff, false_imp_iff, Int.reduceNe, Int.reduceEq, Int.reduceLT, Int.reduceLE, Bool.not_true, Bool.not_false, Bool.false_eq_true, if_false, da]
        refine callK_of (rightProgram_c p hpl _ _ wa (hpv0.below hbwa)) ?_
        rintro _ wb ⟨rfl, hbb⟩
        rw [hR]
        simp -dsimp only [push_cast, Nat.reduceAdd, Nat.reduceLeDiff, Nat.reduceBEq, decide_true, ne_eq, eq_self, not_true_eq_false, not_false_eq_true, true_imp_iff, false_imp_iff, Int.reduceNe, Int.reduceEq, Int.reduceLT, Int.reduceLE, Bool.not_true, Bool.not_false]
        exact hbwa.trans (hbb.mono (by omega))
      | true =>
        have hback := asm_back hR
        obtain ⟨q, hq1, hq2, hq3, hq4, hq5⟩ := hback
        have htl := smallProg_text hsm hR
        have hql := parse_len hq1 (by omega)
        simp -dsimp only [push_cast, Nat.reduceAdd, Nat.reduceLeDiff, Nat.reduceBEq, decide_true, ne_eq, eq_self, not_true_eq_false, not_false_eq_true, true_imp_iff, false_imp_iff, Int.reduceNe, Int.reduceEq, Int.reduceLT, Int.reduceLE, Bool.not_true, Bool.not_false, if_true]
        refine callK_of (parseA_c (progT p) (by omega) wa (hv.below hbwa hg) (by omega)) ?_
        rintro rb wb ⟨hrb, hbb⟩
        have zb := hbb.size
        have hbwb := hbwa.trans (hbb.mono (by omega))
        have Bb := Ba.below hbb Ba.lt
        unfold ParseA at hrb
        rw [hq1] at hrb
        obtain ⟨qv, rfl, hqv⟩ := hrb
        obtain ⟨rq, rfl, hrq⟩ := hqv
        have hsh := hrq.shape
        obtain ⟨qa, qc, rfl, hqc⟩ := hsh
        simp -dsimp only [push_cast, Nat.reduceAdd, Nat.reduceLeDiff, Nat.reduceBEq, decide_true, ne_eq, eq_self, not_true_eq_false, not_false_eq_true, true_imp_iff, false_imp_iff, Int.reduceNe, Int.reduceEq, Int.reduceLT, Int.reduceLE, Bool.not_true, Bool.not_false]
        refine allocK (z := [.slice none 0 0, .bool false]) (by kernel_rfl) ?_
        intro wc hwc
        have zc := hwc.size
        simp -dsimp only [push_cast, Nat.reduceAdd, Nat.reduceLeDiff, Nat.reduceBEq, decide_true, ne_eq, eq_self, not_true_eq_false, not_false_eq_true, true_imp_iff, false_imp_iff, Int.reduceNe, Int.reduceEq, Int.reduceLT, Int.reduceLE, Bool.not_true, Bool.not_false]
        refine storeAgg (n := 2) (by kernel_rfl) hwc.blk rfl (by simp) (by simp [Value.oneCell']) ?_
        intro wd hwd
        have zd := hwd.size
        have hbbd : Below wb.heap.size wb wd := hwc.below.trans (hwd.kept.below (by omega) (fun i h => by omega))
        have hbwd := hbwb.trans (hbbd.mono (by omega))
        have Qd : Blk wd wb.heap.size 24 [.slice qa q.rules.length qc, .bool q.els] := hwd.blk
        have Bd := Bb.below hbbd Bb.lt
        have qd : cellsAt wd ⟨wb.heap.size, 0, none⟩ 0 2 = some [.slice qa q.rules.length qc, .bool q.els] := Qd.cellsAt
        have hqd : ProgV (fun j => j < wa.heap.size) wd (.agg #[.slice qa q.rules.length qc, .bool q.els]) q := ProgV.below (p := q) ⟨_, rfl, hrq⟩ hbbd
        have hvd := hv.below hbwd hg
        simp -dsimp only [push_cast, Nat.reduceAdd, Nat.reduceLeDiff, Nat.reduceBEq, decide_true, ne_eq, eq_self, not_true_eq_false, not_false_eq_true, true_imp_iff, false_imp_iff, Int.reduceNe, Int.reduceEq, Int.reduceLT, Int.reduceLE, Bool.not_true, Bool.not_false, qd]
        refine callK_of (asmPrint_c q hql (fun _ => by rw [hq2]; omega) _ _ wd hqd hvd.d hvd.p hvd.n (by omega)) ?_
        rintro _ we ⟨rfl, hbe⟩
        have ze := hbe.size
        have hbwe := hbwd.trans (hbe.mono (by omega))
        have Be := Bd.below hbe Bd.lt
        have Qe := Qd.below hbe Qd.lt
        rw [if_pos hq3, hq2]
        have de : cellsAt we ⟨w.heap.size, 0, none⟩ 0 2 = some [.slice a p.rules.length c, .bool p.els] := Be.cellsAt
        simp -dsimp only [push_cast, Nat.reduceAdd, Nat.reduceLeDiff, Nat.reduceBEq, decide_true, ne_eq, eq_self, not_true_eq_false, not_false_eq_true, true_imp_iff, false_imp_iff, Int.reduceNe, Int.reduceEq, Int.reduceLT, Int.reduceLE, Bool.not_true, Bool.not_false, de]
        refine callK_of (breaks_c p ps hpl (by omega) _ _ _ _ we (hpv0.below hbwe) (hps.below hbwe) hap) ?_
        rintro rf wf ⟨hrf, hbf⟩
        rw [hR, if_pos rfl] at hrf
        obtain ⟨uf, rfl, hof⟩ := hrf
        have zf := hbf.size
        have hbwf := hbwe.trans (hbf.mono (by omega))
        have Qf := Qe.below hbf Qe.lt
        have qf : cellsAt wf ⟨wb.heap.size, 0, none⟩ 0 2 = some [.slice qa q.rules.length qc, .bool q.els] := Qf.cellsAt
        simp -dsimp only [push_cast, Nat.reduceAdd, Nat.reduceLeDiff, Nat.reduceBEq, decide_true, ne_eq, eq_self, not_true_eq_false, not_false_eq_true, true_imp_iff, false_imp_iff, Int.reduceNe, Int.reduceEq, Int.reduceLT, Int.reduceLE, Bool.not_true, Bool.not_false, qf]
        refine callK_of (breaks_c q ps hql (by omega) _ _ _ _ wf ((hqd.below hbe).below hbf) (hps.below hbwf) hap) ?_
        rintro rg wg ⟨hrg, hbg⟩
        rw [hq3, if_pos rfl, hq4 ps] at hrg
        obtain ⟨ug, rfl, hog⟩ := hrg
        have zg := hbg.size
        have hbwg := hbwf.trans (hbg.mono (by omega))
        have hbl : (breaksP p ps).length ≤ ps.length + 1 := by
          unfold breaksP
          split
          · simp
          · exact breaksTo_len p ps _
        simp -dsimp only [push_cast, Nat.reduceAdd, Nat.reduceLeDiff, Nat.reduceBEq, decide_true, ne_eq, eq_self, not_true_eq_false, not_false_eq_true, true_imp_iff, false_imp_iff, Int.reduceNe, Int.reduceEq, Int.reduceLT, Int.reduceLE, Bool.not_true, Bool.not_false]
        refine callK_of (equalN_c (breaksP p ps) (breaksP p ps) (by omega) _ _ _ _ wg (hof.sl.below hbg) hog.sl) ?_
        rintro _ wh ⟨rfl, hbh⟩
        rw [decide_eq_true rfl]
        simp -dsimp only [push_cast, Nat.reduceAdd, Nat.reduceLeDiff, Nat.reduceBEq, decide_true, ne_eq, eq_self, not_true_eq_false, not_false_eq_true, true_imp_iff, false_imp_iff, Int.reduceNe, Int.reduceEq, Int.reduceLT, Int.reduceLE, Bool.not_true, Bool.not_false]
        exact hbwg.trans (hbh.mono (by omega))
    | arg =>
      rw [hps4] at hr4
      subst hr4
      simp -dsimp only [push_cast, Nat.reduceAdd, Nat.reduceLeDiff, Nat.reduceBEq, decide_true, ne_eq, eq_self, not_true_eq_false, not_false_eq_true, true_imp_iff, false_imp_iff, Int.reduceNe, Int.reduceEq, Int.reduceLT, Int.reduceLE, Bool.not_true, Bool.not_false]
      refine allocK (z := [.slice none 0 0, .bool false]) (by kernel_rfl) ?_
      intro w5 hw5
      have z5 := hw5.size
      simp -dsimp only [push_cast, Nat.reduceAdd, Nat.reduceLeDiff, Nat.reduceBEq, decide_true, ne_eq, eq_self, not_true_eq_false, not_false_eq_true, true_imp_iff, false_imp_iff, Int.reduceNe, Int.reduceEq, Int.reduceLT, Int.reduceLE, Bool.not_true, Bool.not_false]
      refine storeAgg (n := 2) (by kernel_rfl) hw5.blk rfl (by simp) (by simp [Value.oneCell']) ?_
      intro w6 hw6
      have z6 := hw6.size
      have hb46 : Below w4.heap.size w4 w6 := hw5.below.trans (hw6.kept.below (by omega) (fun i h => by omega))
      have hbw6 := hbw4.trans (hb46.mono (by omega))
      have B6 := B4.below hb46 B4.lt
      simp -dsimp only [push_cast, Nat.reduceAdd, Nat.reduceLeDiff, Nat.reduceBEq, decide_true, ne_eq, eq_self, not_true_eq_false, not_false_eq_true, true_imp_iff, false_imp_iff, Int.reduceNe, Int.reduceEq, Int.reduceLT, Int.reduceLE, Bool.not_true, Bool.not_false]
      -- w6: the world; hbw6: Below w.heap.size w w6
      have hb9 := hbw6
      have z9 := hb9.size
      have B9 : Blk (w6) w.heap.size 24 [.slice a p.rules.length c, .bool p.els] := B6
      have d9 : cellsAt (w6) ⟨w.heap.size, 0, none⟩ 0 2 = some [.slice a p.rules.length c, .bool p.els] := B9.cellsAt
      have hv9 := hv.below hb9 hg
      have hp9 := hpv0.below hb9
      simp -dsimp only [push_cast, Nat.reduceAdd, Nat.reduceLeDiff, Nat.reduceBEq, decide_true, ne_eq, eq_self, not_true_eq_false, not_false_eq_true, true_imp_iff, false_imp_iff, Int.reduceNe, Int.reduceEq, Int.reduceLT, Int.reduceLE, Bool.not_true, Bool.not_false, d9]
      refine callK_of (asmPrint_c p hpl (fun hR => by have := smallProg_text hsm hR; omega) _ _ (w6) hp9 hv9.d hv9.p hv9.n (by omega)) ?_
      rintro _ wa ⟨rfl, hba⟩
      have za := hba.size
      have hbwa := hb9.trans (hba.mono z9)
      have Ba := B9.below hba B9.lt
      cases hR : progRight p with
      | false =>
        have da : cellsAt wa ⟨w.heap.size, 0, none⟩ 0 2 = some [.slice a p.rules.length c, .bool p.els] := Ba.cellsAt
        simp -dsimp only [push_cast, Nat.reduceAdd, Nat.reduceLeDiff, Nat.reduceBEq, decide_true, ne_eq, eq_self, not_true_eq_false, not_false_eq_true, true_imp_iff, false_imp_iff, Int.reduceNe, Int.reduceEq, Int.reduceLT, Int.reduceLE, Bool.not_true, Bool.not_false, Bool.false_eq_true, if_false, da]
        refine callK_of (rightProgram_c p hpl _ _ wa (hpv0.below hbwa)) ?_
        rintro _ wb ⟨rfl, hbb⟩
        rw [hR]
        simp -dsimp only [push_cast, Nat.reduceAdd, Nat.reduceLeDiff, Nat.reduceBEq, decide_true, ne_eq, eq_self, not_true_eq_false, not_false_eq_true, true_imp_iff, false_imp_iff, Int.reduceNe, Int.reduceEq, Int.reduceLT, Int.reduceLE, Bool.not_true, Bool.not_false]
        exact hbwa.trans (hbb.mono (by omega))
      | true =>
        have hback := asm_back hR
        obtain ⟨q, hq1, hq2, hq3, hq4, hq5⟩ := hback
        have htl := smallProg_text hsm hR
        have hql := parse_len hq1 (by omega)
        simp -dsimp only [push_cast, Nat.reduceAdd, Nat.reduceLeDiff, Nat.reduceBEq, decide_true, ne_eq, eq_self, not_true_eq_false, not_false_eq_true, true_imp_iff, false_imp_iff, Int.reduceNe, Int.reduceEq, Int.reduceLT, Int.reduceLE, Bool.not_true, Bool.not_false, if_true]
        refine callK_of (parseA_c (progT p) (by omega) wa (hv.below hbwa hg) (by omega)) ?_
        rintro rb wb ⟨hrb, hbb⟩
        have zb := hbb.size
        have hbwb := hbwa.trans (hbb.mono (by omega))
        have Bb := Ba.below hbb Ba.lt
        unfold ParseA at hrb
        rw [hq1] at hrb
        obtain ⟨qv, rfl, hqv⟩ := hrb
        obtain ⟨rq, rfl, hrq⟩ := hqv
        have hsh := hrq.shape
        obtain ⟨qa, qc, rfl, hqc⟩ := hsh
        simp -dsimp only [push_cast, Nat.reduceAdd, Nat.reduceLeDiff, Nat.reduceBEq, decide_true, ne_eq, eq_self, not_true_eq_false, not_false_eq_true, true_imp_iff, false_imp_iff, Int.reduceNe, Int.reduceEq, Int.reduceLT, Int.reduceLE, Bool.not_true, Bool.not_false]
        refine allocK (z := [.slice none 0 0, .bool false]) (by kernel_rfl) ?_
        intro wc hwc
        have zc := hwc.size
        simp -dsimp only [push_cast, Nat.reduceAdd, Nat.reduceLeDiff, Nat.reduceBEq, decide_true, ne_eq, eq_self, not_true_eq_false, not_false_eq_true, true_imp_iff, false_imp_iff, Int.reduceNe, Int.reduceEq, Int.reduceLT, Int.reduceLE, Bool.not_true, Bool.not_false]
        refine storeAgg (n := 2) (by kernel_rfl) hwc.blk rfl (by simp) (by simp [Value.oneCell']) ?_
        intro wd hwd
        have zd := hwd.size
        have hbbd : Below wb.heap.size wb wd := hwc.below.trans (hwd.kept.below (by omega) (fun i h => by omega))
        have hbwd := hbwb.trans (hbbd.mono (by omega))
        have Qd : Blk wd wb.heap.size 24 [.slice qa q.rules.length qc, .bool q.els] := hwd.blk
        have Bd := Bb.below hbbd Bb.lt
        have qd : cellsAt wd ⟨wb.heap.size, 0, none⟩ 0 2 = some [.slice qa q.rules.length qc, .bool q.els] := Qd.cellsAt
        have hqd : ProgV (fun j => j < wa.heap.size) wd (.agg #[.slice qa q.rules.length qc, .bool q.els]) q := ProgV.below (p := q) ⟨_, rfl, hrq⟩ hbbd
        have hvd := hv.below hbwd hg
        simp -dsimp only [push_cast, Nat.reduceAdd, Nat.reduceLeDiff, Nat.reduceBEq, decide_true, ne_eq, eq_self, not_true_eq_false, not_false_eq_true, true_imp_iff, false_imp_iff, Int.reduceNe, Int.reduceEq, Int.reduceLT, Int.reduceLE, Bool.not_true, Bool.not_false, qd]
        refine callK_of (asmPrint_c q hql (fun _ => by rw [hq2]; omega) _ _ wd hqd hvd.d hvd.p hvd.n (by omega)) ?_
        rintro _ we ⟨rfl, hbe⟩
        have ze := hbe.size
        have hbwe := hbwd.trans (hbe.mono (by omega))
        have Be := Bd.below hbe Bd.lt
        have Qe := Qd.below hbe Qd.lt
        rw [if_pos hq3, hq2]
        have de : cellsAt we ⟨w.heap.size, 0, none⟩ 0 2 = some [.slice a p.rules.length c, .bool p.els] := Be.cellsAt
        simp -dsimp only [push_cast, Nat.reduceAdd, Nat.reduceLeDiff, Nat.reduceBEq, decide_true, ne_eq, eq_self, not_true_eq_false, not_false_eq_true, true_imp_iff, false_imp_iff, Int.reduceNe, Int.reduceEq, Int.reduceLT, Int.reduceLE, Bool.not_true, Bool.not_false, de]
        refine callK_of (breaks_c p ps hpl (by omega) _ _ _ _ we (hpv0.below hbwe) (hps.below hbwe) hap) ?_
        rintro rf wf ⟨hrf, hbf⟩
        rw [hR, if_pos rfl] at hrf
        obtain ⟨uf, rfl, hof⟩ := hrf
        have zf := hbf.size
        have hbwf := hbwe.trans (hbf.mono (by omega))
        have Qf := Qe.below hbf Qe.lt
        have qf : cellsAt wf ⟨wb.heap.size, 0, none⟩ 0 2 = some [.slice qa q.rules.length qc, .bool q.els] := Qf.cellsAt
        simp -dsimp only [push_cast, Nat.reduceAdd, Nat.reduceLeDiff, Nat.reduceBEq, decide_true, ne_eq, eq_self, not_true_eq_false, not_false_eq_true, true_imp_iff, false_imp_iff, Int.reduceNe, Int.reduceEq, Int.reduceLT, Int.reduceLE, Bool.not_true, Bool.not_false, qf]
        refine callK_of (breaks_c q ps hql (by omega) _ _ _ _ wf ((hqd.below hbe).below hbf) (hps.below hbwf) hap) ?_
        rintro rg wg ⟨hrg, hbg⟩
        rw [hq3, if_pos rfl, hq4 ps] at hrg
        obtain ⟨ug, rfl, hog⟩ := hrg
        have zg := hbg.size
        have hbwg := hbwf.trans (hbg.mono (by omega))
        have hbl : (breaksP p ps).length ≤ ps.length + 1 := by
          unfold breaksP
          split
          · simp
          · exact breaksTo_len p ps _
        simp -dsimp only [push_cast, Nat.reduceAdd, Nat.reduceLeDiff, Nat.reduceBEq, decide_true, ne_eq, eq_self, not_true_eq_false, not_false_eq_true, true_imp_iff, false_imp_iff, Int.reduceNe, Int.reduceEq, Int.reduceLT, Int.reduceLE, Bool.not_true, Bool.not_false]
        refine callK_of (equalN_c (breaksP p ps) (breaksP p ps) (by omega) _ _ _ _ wg (hof.sl.below hbg) hog.sl) ?_
        rintro _ wh ⟨rfl, hbh⟩
        rw [decide_eq_true rfl]
        simp -dsimp only [push_cast, Nat.reduceAdd, Nat.reduceLeDiff, Nat.reduceBEq, decide_true, ne_eq, eq_self, not_true_eq_false, not_false_eq_true, true_imp_iff, false_imp_iff, Int.reduceNe, Int.reduceEq, Int.reduceLT, Int.reduceLE, Bool.not_true, Bool.not_false]
        exact hbwg.trans (hbh.mono (by omega))
end Go.Proofs.YtiofleijieepgaaGreatDoor
end
section
namespace Go.Proofs.YtiofleijieepgaaGreatDoor
open Go.Deep Go.ChangeShapes Go.WideShapes Go.ChangeAt Go.RowKit Go.Vc Cae
set_option maxRecDepth 100000
set_option linter.unusedSimpArgs false
set_option linter.unusedVariables false
theorem own : ownKnob Tryz.prog.godebug = none := by kernel_rfl
theorem laidOut : laidOutB Tryz.prog = true := by kernel_rfl

def dbTab : List Int := [0, 1, 56, 2, 57, 49, 28, 3, 61, 58, 42, 50, 38, 29, 17, 4, 62, 47, 59, 36, 45, 43, 51, 22, 53, 39, 33, 30, 24, 18, 12, 5, 63, 55, 48, 27, 60, 41, 37, 16, 46, 35, 44, 21, 52, 32, 23, 11, 54, 26, 40, 15, 34, 20, 31, 10, 25, 14, 19, 9, 13, 8, 7, 6]
/-- The table of trailing zeros, as the row's condition gives it. -/
theorem db_of {W : World} {l : List (String × DataW Unit)} (hl : (l.filter fun x => x.1 == "math/bits.deBruijn64tab") = [("math/bits.deBruijn64tab", Rows.laid_math_bits_deBruijn64tab)]) (h : laidMetH Tryz.prog l W) : Db W := by
  have h := h.filter (fun x => x.1 == "math/bits.deBruijn64tab")
  rw [hl, MakeChecks.laidMetH_plain _ _ _ (by kernel_rfl)] at h
  have hg : Tryz.prog.globalNamed "math/bits.deBruijn64tab" = some 12 := by kernel_rfl
  have ht : Lib.TabIs Tryz.prog W "math/bits.deBruijn64tab" .u8 dbTab := Lib.tabIs_of_head (n := 64) (t := 252) (e := 5) hg (by kernel_rfl) (by kernel_rfl) (by kernel_rfl) (by kernel_rfl) (by kernel_rfl) h
  exact ht.cell hg 15 (by decide)

theorem errs_of {W : World} {l : List (String × DataW Unit)} (h1 : (l.filter fun x => x.1 == "strconv.ErrSyntax") = [("strconv.ErrSyntax", Rows.laid_strconv_ErrSyntax)]) (h2 : (l.filter fun x => x.1 == "strconv.ErrRange") = [("strconv.ErrRange", Rows.laid_strconv_ErrRange)]) (h : laidMetH Tryz.prog l W) : SErrs W := by
  constructor
  · have h := h.filter (fun x => x.1 == "strconv.ErrSyntax")
    rw [h1, MakeChecks.laidMetH_plain _ _ _ (by kernel_rfl)] at h
    obtain ⟨ps, ⟨g, t, cs, fuel, p, q, hg, ht, hv, hd, _, _⟩, _, _⟩ := h
    obtain rfl := Option.some.inj ((show Tryz.prog.globalNamed "strconv.ErrSyntax" = some 6 by kernel_rfl).symm.trans hg)
    obtain rfl := Option.some.inj ((show (Tryz.prog.globals[6]?).map (·.type) = some 29 by kernel_rfl).symm.trans ht)
    obtain ⟨_, u, v, hcs, _, _⟩ := iface_of_trod Tryz.underlying29 hd
    obtain ⟨lc⟩ := cs
    have hcs' : lc = [.iface u v] := hcs
    subst hcs'
    exact ⟨u, v, by simpa using World.var?_cell hg hv 0⟩
  · have h := h.filter (fun x => x.1 == "strconv.ErrRange")
    rw [h2, MakeChecks.laidMetH_plain _ _ _ (by kernel_rfl)] at h
    obtain ⟨ps, ⟨g, t, cs, fuel, p, q, hg, ht, hv, hd, _, _⟩, _, _⟩ := h
    obtain rfl := Option.some.inj ((show Tryz.prog.globalNamed "strconv.ErrRange" = some 7 by kernel_rfl).symm.trans hg)
    obtain rfl := Option.some.inj ((show (Tryz.prog.globals[7]?).map (·.type) = some 29 by kernel_rfl).symm.trans ht)
    obtain ⟨_, u, v, hcs, _, _⟩ := iface_of_trod Tryz.underlying29 hd
    obtain ⟨lc⟩ := cs
    have hcs' : lc = [.iface u v] := hcs
    subst hcs'
    exact ⟨u, v, by simpa using World.var?_cell hg hv 0⟩

/-- The wrap, the world's shape kept, and a premise of the row's own. -/
theorem handed_and {H : Type} {enc : TypeId × Value → H} {a : Assume} {C : Checked} {os : Os} {f : FuncId} {fn : Func} {s : ChangeSpec} {conds : List PathCond} {apart fresh handsOn again : Bool} {X : World → Array Value → Prop}
    (hX : ∀ (w w' : World) (args : Array Value), w.heap = w'.heap → X w args → X w' args)
    (own : ownKnob C.prog.godebug = none) (started : os.Started) (noInit : C.prog.inits.idxOf? f = none) (hfn : C.prog.funcs[f]? = some fn)
    (witness : ∃ (w : World) (tape : Tape) (i : Input), w.os = os ∧ (w.forCall tape i).Shaped C.prog ∧ i.vars = [] ∧ Input.okWide C.prog (w.forCall tape i) .any w.heap.size f i ∧
      ((s.pre enc C.prog fn conds apart (w.forCall tape i).memory i.args ∧ X (w.forCall tape i).memory i.args) ∧ sizedMet enc C.prog fn (OpenSpec.ofChange s) apart (w.forCall tape i).memory i.args) ∧ a.holds C.prog (lone (Frame.enter C.prog f i.args .normal) [] (w.forCall tape i)))
    (contract : ∀ (W : World) (base : Nat) (args : Array Value) (ds gs : List (DataW H)) (before : List MemPlace),
      (∀ (j : Nat) t v, fn.params[j]? = some t → args[j]? = some v → Value.okWide C.prog W .any base t v) →
      DataW.Whole enc C.prog fn.params.toList s.vars apart W args.toList ds gs before →
      (DataW.weightsEach C.prog (fn.params.toList ++ s.plain.varTypes C.prog) (ds ++ gs)).all (· ≤ reachBytes) = true → X W args → W.ShapedOpen C.prog →
      Calls C.prog f args W fun e W' => ∃ v, e = .returned v ∧ s.post enc C.prog fn apart fresh handsOn again W args v W') :
    ReturnsInHanded a C os f .any (fun w args => (s.pre enc C.prog fn conds apart w args ∧ X w args) ∧ sizedMet enc C.prog fn (OpenSpec.ofChange s) apart w args) (s.post enc C.prog fn apart fresh handsOn again) := by
  refine returnsInHanded_of_calls own started noInit witness ?_
  intro w tape i _ hsh _ hok hpre hholds
  obtain ⟨_, _, _, fn', hfn', _, _, _, _, hval⟩ := hok
  have e : fn' = fn := Option.some.inj (hfn'.symm.trans hfn)
  subst e
  obtain ⟨⟨⟨ds, gs, before, hw, hc⟩, hx⟩, hz⟩ := hpre
  have hw' := DataW.Whole.of_heap (w' := w.forCall tape i) (by rfl) hw
  refine (contract (w.forCall tape i) w.heap.size i.args ds gs before hval hw' (hz.weights hw) (hX _ _ _ (by rfl) hx) hsh).mono fun e W' ⟨v, he, hp⟩ => ?_
  subst he
  exact ChangeSpec.post_blind hp
theorem mx_of {W : World} (h : W.ShapedOpen Tryz.prog) : Mx W :=
  cell_of_shapedOpen_int (g := 2) (zero := #[.int .i64 0]) h (by decide +kernel) (by kernel_rfl) (by kernel_rfl) (by kernel_rfl) (by kernel_rfl) Tryz.underlying3

theorem arg_of {H : Type} {enc : TypeId × Value → H} {W : World} {b0 : Nat} {t e : TypeId} {v : Value} {d : DataW H} {p : List MemPlace} {sp : Nat → Bool} {hd : Bool} (ht : Tryz.prog.underlying t = some (.slice e)) (h : DataW.Trod enc Tryz.prog W b0 sp hd t v d p) (hv : ∃ a n c, v = .slice a n c) : Arg v := by
  obtain ⟨a0, n', c', rfl⟩ := hv
  obtain ⟨f, h⟩ := h
  rcases DataW.trod_slice ht h with ⟨hcs, _⟩ | ⟨a, len, cap, elems, rest, n, _, hcs, _⟩
  · have : Value.slice a0 n' c' = .slice none 0 0 := by simpa [Value.cells] using hcs
    intro n c h; rw [this] at h; cases h; exact ⟨rfl, rfl⟩
  · have : Value.slice a0 n' c' = .slice (some a) len cap := by simpa [Value.cells] using hcs
    intro n c h; rw [this] at h; cases h
theorem arg_ints {H : Type} {enc : TypeId × Value → H} {W : World} {base b0 : Nat} {v : Value} {d : DataW H} {p : List MemPlace} {sp : Nat → Bool} {hd : Bool} (hval : Value.okWide Tryz.prog W .any base 25 v)
    (h : DataW.Trod enc Tryz.prog W b0 sp hd 25 v d p) : ∃ l, Sl (fun _ => False) 1 (En encI) W v l ∧ Arg v := by
  obtain ⟨a, len, cap, rfl⟩ := okWide_slice Tryz.underlying25 hval
  have h0 := arg_of Tryz.underlying25 h ⟨a, len, cap, rfl⟩
  obtain ⟨n, h⟩ := h
  obtain ⟨v, ps, hcs, hs⟩ := open_ints h
  have : v = .slice a len cap := by simpa [Value.cells] using hcs.symm
  exact ⟨ps, this ▸ hs, h0⟩
theorem ng_of {W : World} (h : W.ShapedOpen Tryz.prog) : 14 ≤ W.heap.size := by
  obtain ⟨o, o0, h1, _⟩ := h.2 14 (of_decide_eq_true (by kernel_rfl)) (of_decide_eq_true (by kernel_rfl))
  have := (Array.getElem?_eq_some_iff.1 h1).1
  omega
/-- The table of powers of ten. -/
theorem pw_of {W : World} {l : List (String × DataW Unit)} (hl : (l.filter fun x => x.1 == "internal/strconv.uint64pow10") = [("internal/strconv.uint64pow10", Rows.laid_internal_strconv_uint64pow10)]) (h : laidMetH Tryz.prog l W) : Pw W := by
  have h := h.filter (fun x => x.1 == "internal/strconv.uint64pow10")
  rw [hl, MakeChecks.laidMetH_plain _ _ _ (by kernel_rfl)] at h
  have hg : Tryz.prog.globalNamed "internal/strconv.uint64pow10" = some 10 := by kernel_rfl
  exact Lib.tabIs_of_head (n := 20) (t := 229) (e := 194) hg (by kernel_rfl) (by kernel_rfl) (by kernel_rfl) (by kernel_rfl) (by kernel_rfl) h
theorem nms_of {W : World} {l : List (String × DataW Unit)} (hl : (l.filter fun x => x.1 == "caesura/asm.names") = [("caesura/asm.names", Rows.laid_caesura_asm_names)]) (h : laidMetH Tryz.prog l W) : Nms W := by
  have h := h.filter (fun x => x.1 == "caesura/asm.names")
  rw [hl, MakeChecks.laidMetH_plain _ _ _ (by kernel_rfl)] at h
  obtain ⟨ps, ⟨g, t, cs, fuel, p, q, hg, ht, hv, hd, _, _⟩, _, _⟩ := h
  obtain rfl := Option.some.inj ((show Tryz.prog.globalNamed "caesura/asm.names" = some 1 by kernel_rfl).symm.trans hg)
  obtain rfl := Option.some.inj ((show (Tryz.prog.globals[1]?).map (·.type) = some 105 by kernel_rfl).symm.trans ht)
  obtain ⟨xs, m, _, hx, hcl, hxl, he⟩ := DataW.trod_array (n := 6) (e := 9) (by kernel_rfl) hd
  have hc1 : Tryz.prog.cellsOf 9 = 1 := by kernel_rfl
  rw [hc1] at he
  have hxs : ([DataW.lit (.string []), .lit (.string [116, 97, 107, 101]), .lit (.string [115, 112, 108, 105, 116]), .lit (.string [106, 117, 109, 112]), .lit (.string [101, 110, 100]), .lit (.string [121, 101, 115])] : List (DataW Unit)) = xs.map (·.1) := by
    have := congrArg Prod.fst hx
    simpa [Rows.laid_caesura_asm_names] using this
  have key : ∀ (i : Nat) (s : List UInt8), i < 6 → (xs.map (·.1))[i]? = some (DataW.lit (.string s)) → W.cell? ⟨1, i, none⟩ = some (str s) := fun i s hi hs => by
    have h1 := he i hi
    rw [List.getElem?_eq_getElem (by omega)] at h1
    obtain ⟨b, hb, hb2, _⟩ := DataW.trod_string Tryz.underlying9 h1
    rw [List.getElem?_map, List.getElem?_eq_getElem (by omega)] at hs
    simp only [Option.map_some, Option.some.injEq] at hs
    rw [hb2] at hs
    simp only [DataW.lit.injEq, Lit.string.injEq] at hs
    have hcell : cs.toList[i]? = some (.string b) := by
      have := congrArg (·[0]?) hb
      simpa [List.getElem?_take, List.getElem?_drop] using this
    have hw := World.var?_cell hg hv i
    rw [hw]
    have h2 : cs[i]? = some (.string b) := by simpa using hcell
    rw [h2]
    subst hs
    simp [str]
  intro i hi
  rw [← hxs] at key
  match i, hi with
  | 0, _ => exact key 0 _ (by omega) rfl
  | 1, _ => exact key 1 _ (by omega) rfl
  | 2, _ => exact key 2 _ (by omega) rfl
  | 3, _ => exact key 3 _ (by omega) rfl
  | 4, _ => exact key 4 _ (by omega) rfl
  | 5, _ => exact key 5 _ (by omega) rfl
end Go.Proofs.YtiofleijieepgaaGreatDoor
end
section
namespace Go.Proofs.YtiofleijieepgaaGreatDoor
open Go.Vc Go.Proofs Go.RowKit Cae
/-- Pairs that are read, with their cells. -/
theorem PairsV.values {X : Nat → Prop} {w : World} {v : Value} {l : List PairP} (h : Sl X 5 (PairR X w) w v l) : ∃ us : List PV, us.length = l.length ∧ Sl X 5 (En encPV) w v us ∧ ∀ (i : Nat) (s : PairP), l[i]? = some s → ∃ u, us[i]? = some u ∧ PairR X w (encPV u) s := by
  obtain ⟨a, c, rfl, hc⟩ := h.shape
  have hall : ∀ i : Nat, ∃ u : PV, ∀ s, l[i]? = some s → PairR X w (encPV u) s ∧ ∃ b o, a = some ⟨b, o, none⟩ ∧ ¬ X b ∧ ∀ (j : Nat) (x : Value), (encPV u)[j]? = some x → w.cell? ⟨b, o + i * 5 + j, none⟩ = some x := fun i => by
    cases hs : l[i]? with
    | none => exact ⟨⟨false, ⟨none, 0, 0⟩, ⟨none, 0, 0⟩, ⟨none, 0, 0⟩, ⟨none, 0, 0⟩⟩, fun s h => by cases h⟩
    | some s =>
      obtain ⟨b, o, cs, e, hX, hcs, hcell, hr⟩ := h.getR hs
      have hr0 := hr
      obtain ⟨s1, i1, s2, i2, rfl, ⟨_, _, e1, h1, h2⟩, ⟨_, _, e2, h3, h4⟩⟩ := hr
      cases e1; cases e2
      obtain ⟨a1, c1, rfl, _⟩ := h1.shape
      obtain ⟨a2, c2, rfl, _⟩ := h2.shape
      obtain ⟨a3, c3, rfl, _⟩ := h3.shape
      obtain ⟨a4, c4, rfl, _⟩ := h4.shape
      exact ⟨⟨s.brk, ⟨a1, _, c1⟩, ⟨a2, _, c2⟩, ⟨a3, _, c3⟩, ⟨a4, _, c4⟩⟩, fun s' h' => by cases h'; exact ⟨hr0, b, o, e, hX, fun j x hx => hcell j x hx⟩⟩
  obtain ⟨f, hf⟩ := Classical.axiomOfChoice hall
  have hget : ∀ i, i < l.length → ((List.range l.length).map f)[i]? = some (f i) := fun i hi => by simp [hi]
  refine ⟨(List.range l.length).map f, by simp, ⟨a, c, by simp, by simpa using hc, fun i u hu => ?_⟩, fun i s hs => ?_⟩
  · have hi : i < l.length := by have := (List.getElem?_eq_some_iff.1 hu).1; simpa using this
    rw [hget i hi] at hu
    cases hu
    obtain ⟨_, b, o, e, hX, hcell⟩ := hf i _ (List.getElem?_eq_getElem hi)
    exact ⟨b, o, encPV (f i), e, hX, rfl, fun j x hx => hcell j x hx, rfl⟩
  · have hi := (List.getElem?_eq_some_iff.1 hs).1
    exact ⟨f i, hget i hi, (hf i s hs).1⟩
theorem own_blk {α : Type} {w : World} {base b k : Nat} {e e' : TypeId} {enc : α → List Value} {v : Value} {l : List α} {cs : List Value} (h : Vc.Own base e k enc w v l) (hB : Blk w b e' cs) (hne : e ≠ e') : v.ownBlock ≠ some b := fun hg => by
  rcases h.1.2 with ⟨rfl, _⟩ | ⟨g, cap, cr, rfl, _, hgg, _⟩
  · cases hg
  · simp only [Value.ownBlock, Option.some.injEq] at hg
    subst hg
    have hB' : w.heap[g]? = some (.cells cs.toArray e' (0, 0)) := hB
    rw [hgg] at hB'
    simp only [Option.some.injEq] at hB'
    injection hB' with h1 h2
    exact hne h2
end Go.Proofs.YtiofleijieepgaaGreatDoor
namespace Go.Proofs.YtiofleijieepgaaGreatDoor
open Go.Vc Go.Proofs Go.RowKit Cae
set_option maxRecDepth 100000
set_option linter.unusedSimpArgs false
set_option linter.unusedVariables false
attribute [local irreducible] wpL callK valK unitK runK Fun Sl Vc.Own vc vcOps opK pureK
set_option maxHeartbeats 8000000
theorem clonePairs_c (us : List PV) (hl : us.length < 1000000000) (X : Nat → Prop) (v : Value) (w : World) (hv : Sl X 5 (En encPV) w v us) (ha : Arg v) :
    Fun Tryz.prog 14 [v] w fun r w' => Vc.Own w.heap.size 45 5 encPV w' r us ∧ Below w.heap.size w w' := by
  obtain ⟨a, c, rfl, hc⟩ := hv.shape
  refine fun_of_vc Tryz.func14 rfl (by kernel_rfl) [2] rfl ?_
  simp -dsimp (maxSteps := 4000000) only [push_cast, fr0, Tryz.ntmps14, List.length_cons, List.length_nil, Nat.reduceAdd, Nat.reduceSub, Nat.reduceBEq, List.replicate_succ, List.replicate_zero]
  cases a with
  | none =>
    obtain ⟨h0, rfl⟩ := ha _ _ rfl
    have : us = [] := List.eq_nil_of_length_eq_zero h0
    subst this
    simp -dsimp only [push_cast, Nat.reduceAdd, Nat.reduceLeDiff, Nat.reduceBEq, decide_true, ne_eq, eq_self, not_true_eq_false, not_false_eq_true, true_imp_iff, false_imp_iff, Int.reduceNe, Int.reduceEq, Int.reduceLT, Int.reduceLE, Bool.not_true, Bool.not_false, eq_3n]
    exact ⟨Vc.Own.nil (enc := encPV) _ _ (fun _ => rfl) _, Below.refl _ _⟩
  | some ad =>
    simp -dsimp only [push_cast, Nat.reduceAdd, Nat.reduceLeDiff, Nat.reduceBEq, decide_true, ne_eq, eq_self, not_true_eq_false, not_false_eq_true, true_imp_iff, false_imp_iff, Int.reduceNe, Int.reduceEq, Int.reduceLT, Int.reduceLE, Bool.not_true, Bool.not_false, eq_3s]
    refine rowK elI_22 rfl rfl (by omega) ?_
    intro w1 hw1
    have ho1 := hw1.own (base := w.heap.size) (k := 5) (n := 0) (enc := encPV) (l := []) rfl rfl (fun _ => rfl) (Nat.le_refl _) (by omega)
    have sz1 := hw1.size
    simp -dsimp only [push_cast, Nat.reduceAdd, Nat.reduceLeDiff, Nat.reduceBEq, decide_true, ne_eq, eq_self, not_true_eq_false, not_false_eq_true, true_imp_iff, false_imp_iff, Int.reduceNe, Int.reduceEq, Int.reduceLT, Int.reduceLE, Bool.not_true, Bool.not_false]
    refine appendAny (base := w.heap.size) (enc := encPV) (ys := us) elI_22 ho1 (hv.below hw1.below) (fun n c h => by cases h) encPV_one (by simp only [List.length_nil]; omega) (by omega) ?_
    intro v' w2 ho2 hg2 hb2
    rw [List.nil_append] at ho2
    simp -dsimp only [push_cast, Nat.reduceAdd, Nat.reduceLeDiff, Nat.reduceBEq, decide_true, ne_eq, eq_self, not_true_eq_false, not_false_eq_true, true_imp_iff, false_imp_iff, Int.reduceNe, Int.reduceEq, Int.reduceLT, Int.reduceLE, Bool.not_true, Bool.not_false]
    exact ⟨ho2, hw1.below.trans hb2⟩
def lastR_ren : Go.Shelf.Ren := ⟨fun | 148 => 13 | 222 => 40 | 223 => 41 | 269 => 73 | n => n, fun | 9 => 9 | 3 => 3 | 4 => 4 | 5 => 5 | 146 => 119 | 51 => 118 | 46 => 148 | n => n, fun | n => n⟩
theorem lastR : Go.Proofs.Lays.n148 Tryz.prog lastR_ren := {
  mixed := by kernel_rfl
  f148 := Tryz.func13.trans (congrArg some (by kernel_rfl))
  f222 := Tryz.func40.trans (congrArg some (by kernel_rfl))
  f223 := Tryz.func41.trans (congrArg some (by kernel_rfl))
  f269 := Tryz.func73.trans (congrArg some (by kernel_rfl))
  t3 := Tryz.underlying3
  a3 := Tryz.isAgg3
  z3 := Tryz.sizeOf3
  v3 := Tryz.zeroValue3
  t4 := Tryz.underlying4
  a4 := Tryz.isAgg4
  z4 := Tryz.sizeOf4
  v4 := Tryz.zeroValue4
  t5 := Tryz.underlying5
  a5 := Tryz.isAgg5
  z5 := Tryz.sizeOf5
  v5 := Tryz.zeroValue5
  t9 := Tryz.underlying9
  a9 := Tryz.isAgg9
  z9 := Tryz.sizeOf9
  v9 := Tryz.zeroValue9
  t46 := Tryz.underlying148
  a46 := Tryz.isAgg148
  z46 := Tryz.sizeOf148
  v46 := Tryz.zeroValue148
  t51 := Tryz.underlying118
  a51 := Tryz.isAgg118
  z51 := Tryz.sizeOf118
  v51 := Tryz.zeroValue118
  t146 := Tryz.underlying119
  a146 := Tryz.isAgg119
  z146 := Tryz.sizeOf119
  v146 := Tryz.zeroValue119 }

theorem lastIdx_c (s p : List UInt8) (hs : s.length ≤ 1000000000) (w : World) : Fun Tryz.prog 13 [str s, str p] w fun r w' => r = .int .i64 (Lib.lastIndex s p) ∧ w' = w := by
  refine fun_of_calls Tryz.func13 (by kernel_rfl) (by kernel_rfl) ?_
  refine Calls.mono (Any.strings_LastIndex lastR ⟨s.toArray⟩ ⟨p.toArray⟩ (by show s.length < _; omega) w) ?_
  rintro e w' ⟨rfl, rfl⟩
  exact ⟨_, rfl, rfl, rfl⟩
theorem both_small {p q : ProgP} (hp : smallProgP p = true) (hq : smallProgP q = true) (hn : p.rules.length + q.rules.length ≤ 20) : smallProgP (both p q) = true := by
  have h1 := (smallProg_spec hp).2
  have h2 := (smallProg_spec hq).2
  unfold smallProgP both
  simp only [Bool.and_eq_true, decide_eq_true_eq, List.all_eq_true]
  refine ⟨by rw [List.length_append]; omega, fun r hr => ?_⟩
  rcases List.mem_append.1 hr with hr | hr
  · exact h1 r hr
  · exact h2 r hr
theorem asmJoins_c (p q : ProgP) (ps : List Int) (v v' pv : Value) (w : World) (hv : Vs w) (hg : 14 ≤ w.heap.size) (hpv : ProgV (fun _ => False) w v p) (hqv : ProgV (fun _ => False) w v' q) (har : ∀ sv e, v = .agg #[sv, e] → Arg sv) (haq : ∀ sv e, v' = .agg #[sv, e] → Arg sv)
    (hps : Sl (fun _ => False) 1 (En encI) w pv ps) (hap : Arg pv) : Fun Tryz.prog 4 [v, v', pv] w fun r w' => r = .bool true ∧ Below w.heap.size w w' := by
  have hpv0 := hpv
  have hqv0 := hqv
  obtain ⟨rv, rfl, hrv⟩ := hpv
  obtain ⟨rq, rfl, hrq⟩ := hqv
  have har := har _ _ rfl
  have haq := haq _ _ rfl
  obtain ⟨a, c, rfl, hc⟩ := hrv.shape
  obtain ⟨aq, cq, rfl, hcq⟩ := hrq.shape
  obtain ⟨la, lc, rfl, hlc⟩ := hps.shape
  refine fun_of_vc Tryz.func4 rfl (by kernel_rfl) [6] rfl ?_
  simp -dsimp (maxSteps := 4000000) only [push_cast, fr0, Tryz.ntmps4, List.length_cons, List.length_nil, Nat.reduceAdd, Nat.reduceSub, Nat.reduceBEq, List.replicate_succ, List.replicate_zero]
  refine boxK_of ?_
  intro w1 hw1
  have hw1 : New w w1 24 [.slice a p.rules.length c, .bool p.els] := hw1
  have z1 := hw1.size
  simp -dsimp only [push_cast, Nat.reduceAdd, Nat.reduceLeDiff, Nat.reduceBEq, decide_true, ne_eq, eq_self, not_true_eq_false, not_false_eq_true, true_imp_iff, false_imp_iff, Int.reduceNe, Int.reduceEq, Int.reduceLT, Int.reduceLE, Bool.not_true, Bool.not_false]
  refine boxK_of ?_
  intro w2 hw2
  have hw2 : New w1 w2 24 [.slice aq q.rules.length cq, .bool q.els] := hw2
  have z2 := hw2.size
  have hbw2 := hw1.below.trans (hw2.below.mono (by omega))
  have A2 := hw1.blk.below hw2.below hw1.blk.lt
  have Q2 := hw2.blk
  have d1 : cellsAt w2 ⟨w.heap.size, 0, none⟩ 0 2 = some [.slice a p.rules.length c, .bool p.els] := A2.cellsAt
  simp -dsimp only [push_cast, Nat.reduceAdd, Nat.reduceLeDiff, Nat.reduceBEq, decide_true, ne_eq, eq_self, not_true_eq_false, not_false_eq_true, true_imp_iff, false_imp_iff, Int.reduceNe, Int.reduceEq, Int.reduceLT, Int.reduceLE, Bool.not_true, Bool.not_false, d1]
  refine callK_of (smallProgram_c p (fun _ => False) _ w2 (hpv0.below hbw2)) ?_
  rintro _ w3 ⟨rfl, hb3⟩
  have z3 := hb3.size
  have hbw3 := hbw2.trans (hb3.mono (by omega))
  have A3 := A2.below hb3 A2.lt
  have Q3 := Q2.below hb3 Q2.lt
  cases hs1 : smallProgP p with
  | false =>
    simp -dsimp only [push_cast, Nat.reduceAdd, Nat.reduceLeDiff, Nat.reduceBEq, decide_true, ne_eq, eq_self, not_true_eq_false, not_false_eq_true, true_imp_iff, false_imp_iff, Int.reduceNe, Int.reduceEq, Int.reduceLT, Int.reduceLE, Bool.not_true, Bool.not_false]
    exact hbw3
  | true =>
    have e1 : cellsAt w3 ⟨w1.heap.size, 0, none⟩ 0 2 = some [.slice aq q.rules.length cq, .bool q.els] := Q3.cellsAt
    simp -dsimp only [push_cast, Nat.reduceAdd, Nat.reduceLeDiff, Nat.reduceBEq, decide_true, ne_eq, eq_self, not_true_eq_false, not_false_eq_true, true_imp_iff, false_imp_iff, Int.reduceNe, Int.reduceEq, Int.reduceLT, Int.reduceLE, Bool.not_true, Bool.not_false, e1]
    refine callK_of (smallProgram_c q (fun _ => False) _ w3 (hqv0.below hbw3)) ?_
    rintro _ w4 ⟨rfl, hb4⟩
    have z4 := hb4.size
    have hbw4 := hbw3.trans (hb4.mono (by omega))
    have A4 := A3.below hb4 A3.lt
    have Q4 := Q3.below hb4 Q3.lt
    cases hs2 : smallProgP q with
    | false =>
      simp -dsimp only [push_cast, Nat.reduceAdd, Nat.reduceLeDiff, Nat.reduceBEq, decide_true, ne_eq, eq_self, not_true_eq_false, not_false_eq_true, true_imp_iff, false_imp_iff, Int.reduceNe, Int.reduceEq, Int.reduceLT, Int.reduceLE, Bool.not_true, Bool.not_false]
      exact hbw4
    | true =>
      have hpl := smallProg_len hs1
      have hql := smallProg_len hs2
      simp -dsimp only [push_cast, Nat.reduceAdd, Nat.reduceLeDiff, Nat.reduceBEq, decide_true, ne_eq, eq_self, not_true_eq_false, not_false_eq_true, true_imp_iff, false_imp_iff, Int.reduceNe, Int.reduceEq, Int.reduceLT, Int.reduceLE, Bool.not_true, Bool.not_false]
      refine ⟨fun h20 => hbw4, fun h20 => ?_⟩
      refine callK_of (written_c w4 (hv.below hbw4 hg) (by omega)) ?_
      rintro _ w5 ⟨rfl, hb5⟩
      have z5 := hb5.size
      have hbw5 := hbw4.trans (hb5.mono (by omega))
      have A5 := A4.below hb5 A4.lt
      have Q5 := Q4.below hb5 Q4.lt
      have hv5 := hv.below hbw5 hg
      have f1 : cellsAt w5 ⟨w.heap.size, 0, none⟩ 0 2 = some [.slice a p.rules.length c, .bool p.els] := A5.cellsAt
      simp -dsimp only [push_cast, Nat.reduceAdd, Nat.reduceLeDiff, Nat.reduceBEq, decide_true, ne_eq, eq_self, not_true_eq_false, not_false_eq_true, true_imp_iff, false_imp_iff, Int.reduceNe, Int.reduceEq, Int.reduceLT, Int.reduceLE, Bool.not_true, Bool.not_false, f1]
      refine callK_of (asmPrint_c p hpl (fun hR => by have := smallProg_text hs1 hR; omega) _ _ w5 (hpv0.below hbw5) hv5.d hv5.p hv5.n (by omega)) ?_
      rintro _ w6 ⟨rfl, hb6⟩
      have z6 := hb6.size
      have hbw6 := hbw5.trans (hb6.mono (by omega))
      have A6 := A5.below hb6 A5.lt
      have Q6 := Q5.below hb6 Q5.lt
      have hv6 := hv.below hbw6 hg
      have f2 : cellsAt w6 ⟨w1.heap.size, 0, none⟩ 0 2 = some [.slice aq q.rules.length cq, .bool q.els] := Q6.cellsAt
      cases hR1 : progRight p with
      | false =>
        simp -dsimp only [push_cast, Nat.reduceAdd, Nat.reduceLeDiff, Nat.reduceBEq, decide_true, ne_eq, eq_self, not_true_eq_false, not_false_eq_true, true_imp_iff, false_imp_iff, Int.reduceNe, Int.reduceEq, Int.reduceLT, Int.reduceLE, Bool.not_true, Bool.not_false, Bool.false_eq_true, if_false, f2]
        refine callK_of (asmPrint_c q hql (fun hR => by have := smallProg_text hs2 hR; omega) _ _ w6 (hqv0.below hbw6) hv6.d hv6.p hv6.n (by omega)) ?_
        rintro _ w7 ⟨rfl, hb7⟩
        have hbw7 := hbw6.trans (hb7.mono (by omega))
        cases hR2 : progRight q with
        | false =>
          simp -dsimp only [push_cast, Nat.reduceAdd, Nat.reduceLeDiff, Nat.reduceBEq, decide_true, ne_eq, eq_self, not_true_eq_false, not_false_eq_true, true_imp_iff, false_imp_iff, Int.reduceNe, Int.reduceEq, Int.reduceLT, Int.reduceLE, Bool.not_true, Bool.not_false, Bool.false_eq_true, if_false]
          exact hbw7
        | true =>
          simp -dsimp only [push_cast, Nat.reduceAdd, Nat.reduceLeDiff, Nat.reduceBEq, decide_true, ne_eq, eq_self, not_true_eq_false, not_false_eq_true, true_imp_iff, false_imp_iff, Int.reduceNe, Int.reduceEq, Int.reduceLT, Int.reduceLE, Bool.not_true, Bool.not_false, if_true]
          exact hbw7
      | true =>
        simp -dsimp only [push_cast, Nat.reduceAdd, Nat.reduceLeDiff, Nat.reduceBEq, decide_true, ne_eq, eq_self, not_true_eq_false, not_false_eq_true, true_imp_iff, false_imp_iff, Int.reduceNe, Int.reduceEq, Int.reduceLT, Int.reduceLE, Bool.not_true, Bool.not_false, if_true, f2]
        refine callK_of (asmPrint_c q hql (fun hR => by have := smallProg_text hs2 hR; omega) _ _ w6 (hqv0.below hbw6) hv6.d hv6.p hv6.n (by omega)) ?_
        rintro _ w7 ⟨rfl, hb7⟩
        have z7 := hb7.size
        have hbw7 := hbw6.trans (hb7.mono (by omega))
        have A7 := A6.below hb7 A6.lt
        have Q7 := Q6.below hb7 Q6.lt
        cases hR2 : progRight q with
        | false =>
          simp -dsimp only [push_cast, Nat.reduceAdd, Nat.reduceLeDiff, Nat.reduceBEq, decide_true, ne_eq, eq_self, not_true_eq_false, not_false_eq_true, true_imp_iff, false_imp_iff, Int.reduceNe, Int.reduceEq, Int.reduceLT, Int.reduceLE, Bool.not_true, Bool.not_false, Bool.false_eq_true, if_false]
          exact hbw7
        | true =>
          have g1 : w7.cell? ⟨w.heap.size, 0, none⟩ = some (.slice a p.rules.length c) := A7.cell rfl
          have g2 : w7.cell? ⟨w1.heap.size, 0, none⟩ = some (.slice aq q.rules.length cq) := Q7.cell rfl
          have n1 := (smallProg_spec hs1).1
          have n2 := (smallProg_spec hs2).1
          simp -dsimp only [push_cast, Nat.reduceAdd, Nat.reduceLeDiff, Nat.reduceBEq, decide_true, ne_eq, eq_self, not_true_eq_false, not_false_eq_true, true_imp_iff, false_imp_iff, Int.reduceNe, Int.reduceEq, Int.reduceLT, Int.reduceLE, Bool.not_true, Bool.not_false, if_true, g1, g2]
          refine ⟨by omega, fun hbig => hbw7, fun hfit => ?_⟩
          have hn : p.rules.length + q.rules.length ≤ 20 := by omega
          have hbs := both_small hs1 hs2 hn
          have hbr := both_right hR1 hR2 hn
          have htx := smallProg_text hbs hbr
          have htp := smallProg_text hs1 hR1
          have htq := smallProg_text hs2 hR2
          refine callK_of (lastIdx_c (progT p) [101, 108, 115, 101, 32] (by omega) w7) ?_
          rintro _ w7' ⟨rfl, hw7e⟩
          obtain rfl : w7 = w7' := hw7e.symm
          have hle : Lib.lastIndex (progT p) [101, 108, 115, 101, 32] = (rulesT p).length := last_else p
          rw [hle]
          simp -dsimp only [push_cast, Nat.reduceAdd, Nat.reduceLeDiff, Nat.reduceBEq, decide_true, ne_eq, eq_self, not_true_eq_false, not_false_eq_true, true_imp_iff, false_imp_iff, Int.reduceNe, Int.reduceEq, Int.reduceLT, Int.reduceLE, Bool.not_true, Bool.not_false]
          have hpe := progT_eq p
          have hcut : (progT p).take (rulesT p).length = rulesT p := by rw [hpe, List.take_left']; rfl
          have hlr : (rulesT p).length ≤ (progT p).length := by rw [hpe, List.length_append]; omega
          rw [hcut, ← both_text]
          have hlb : (rulesT p).length + (progT q).length = (progT (both p q)).length := by rw [both_text, List.length_append]
          refine ⟨⟨by omega, by omega⟩, by omega, ?_⟩
          have hback := asm_back hbr
          obtain ⟨x, hx1, hx2, hx3, hx4, hx5⟩ := hback
          have hxl := parse_len hx1 (by omega)
          refine callK_of (parseA_c (progT (both p q)) (by omega) w7 (hv.below hbw7 hg) (by omega)) ?_
          rintro rb wb ⟨hrb, hbb⟩
          have zb := hbb.size
          have hbwb := hbw7.trans (hbb.mono (by omega))
          have Ab := A7.below hbb A7.lt
          have Qb := Q7.below hbb Q7.lt
          unfold ParseA at hrb
          rw [hx1] at hrb
          obtain ⟨xv, rfl, hxv⟩ := hrb
          obtain ⟨rx, rfl, hrx⟩ := hxv
          have hsh := hrx.shape
          obtain ⟨xa0, xc0, rfl, hxc⟩ := hsh
          simp -dsimp only [push_cast, Nat.reduceAdd, Nat.reduceLeDiff, Nat.reduceBEq, decide_true, ne_eq, eq_self, not_true_eq_false, not_false_eq_true, true_imp_iff, false_imp_iff, Int.reduceNe, Int.reduceEq, Int.reduceLT, Int.reduceLE, Bool.not_true, Bool.not_false]
          refine allocK (z := [.slice none 0 0, .bool false]) (by kernel_rfl) ?_
          intro wc hwc
          have zc := hwc.size
          simp -dsimp only [push_cast, Nat.reduceAdd, Nat.reduceLeDiff, Nat.reduceBEq, decide_true, ne_eq, eq_self, not_true_eq_false, not_false_eq_true, true_imp_iff, false_imp_iff, Int.reduceNe, Int.reduceEq, Int.reduceLT, Int.reduceLE, Bool.not_true, Bool.not_false]
          refine storeAgg (n := 2) (by kernel_rfl) hwc.blk rfl (by simp) (by simp [Value.oneCell']) ?_
          intro wd hwd
          have zd := hwd.size
          have hbbd : Below wb.heap.size wb wd := hwc.below.trans (hwd.kept.below (by omega) (fun i h => by omega))
          have hbwd := hbwb.trans (hbbd.mono (by omega))
          have Xd : Blk wd wb.heap.size 24 [.slice xa0 x.rules.length xc0, .bool x.els] := hwd.blk
          have Ad := Ab.below hbbd Ab.lt
          have Qd := Qb.below hbbd Qb.lt
          have hxd : ProgV (fun j => j < w7.heap.size) wd (.agg #[.slice xa0 x.rules.length xc0, .bool x.els]) x := ProgV.below (p := x) ⟨_, rfl, hrx⟩ hbbd
          have hval1 := PairsV.values hrv
          obtain ⟨us1, hul1, hus1, hue1⟩ := hval1
          have hval2 := PairsV.values hrq
          obtain ⟨us2, hul2, hus2, hue2⟩ := hval2
          simp -dsimp only [push_cast, Nat.reduceAdd, Nat.reduceLeDiff, Nat.reduceBEq, decide_true, ne_eq, eq_self, not_true_eq_false, not_false_eq_true, true_imp_iff, false_imp_iff, Int.reduceNe, Int.reduceEq, Int.reduceLT, Int.reduceLE, Bool.not_true, Bool.not_false]
          refine wpL_cut [13, 73, 74, 75, 76, 77, 78, 79, 80, 81] (fun z w' => ∃ (b : Nat) (x0 : Option Addr) (n0 c0 : Nat), z 13 = .pointer (some ⟨b, 0, none⟩) ∧ wd.heap.size ≤ b ∧ Blk w' b 24 [.slice x0 n0 c0, .bool q.els] ∧ ProgV (fun _ => False) w' (.agg #[.slice x0 n0 c0, .bool q.els]) (both p q) ∧ Below wd.heap.size wd w') ?_ ?_
          · have a1 : wd.cell? ⟨w.heap.size, 0, none⟩ = some (.slice a p.rules.length c) := Ad.cell rfl
            have a2 : wd.cell? ⟨w1.heap.size, 0, none⟩ = some (.slice aq q.rules.length cq) := Qd.cell rfl
            have a3 : wd.cell? ⟨w1.heap.size, 1, none⟩ = some (.bool q.els) := Qd.cell rfl
            have a1d : wd.drew.cell? ⟨w.heap.size, 0, none⟩ = some (.slice a p.rules.length c) := a1
            have a2d : wd.drew.cell? ⟨w1.heap.size, 0, none⟩ = some (.slice aq q.rules.length cq) := a2
            have a3d : wd.drew.cell? ⟨w1.heap.size, 1, none⟩ = some (.bool q.els) := a3
            have keepC : ∀ y, Below wd.heap.size wd y → y.cell? ⟨w.heap.size, 0, none⟩ = some (.slice a p.rules.length c) ∧ y.cell? ⟨w1.heap.size, 0, none⟩ = some (.slice aq q.rules.length cq) ∧ y.cell? ⟨w1.heap.size, 1, none⟩ = some (.bool q.els) := fun y hy => ⟨(hy.cell (by show w.heap.size < _; omega)).trans a1, (hy.cell (by show w1.heap.size < _; omega)).trans a2, (hy.cell (by show w1.heap.size < _; omega)).trans a3⟩
            have hdd : Below wd.heap.size wd wd.drew := below_drewA wd
            have hwd0 : Below w.heap.size w wd.drew := hbwd.drew
            have zdr : wd.drew.heap.size = wd.heap.size := rfl
            refine wpL_tree (.one 0 (.one 1 (.one 3 (.one 4 (.one 6 (.one 7 (.two 2 (.two 5 (.one 8 (.one 9 (.one 10 .done))) 9 (.one 5 (.one 8 (.one 10 .done)))) 9 (.one 2 (.one 5 (.one 8 (.one 10 .done)))))))))))  (fun y => y.cell? ⟨w.heap.size, 0, none⟩ = some (.slice a p.rules.length c) ∧ y.cell? ⟨w1.heap.size, 0, none⟩ = some (.slice aq q.rules.length cq) ∧ y.cell? ⟨w1.heap.size, 1, none⟩ = some (.bool q.els)) mixed (by kernel_rfl) (keepC _ hdd) ?_
            simp -dsimp only [push_cast, Nat.reduceAdd, Nat.reduceLeDiff, Nat.reduceBEq, decide_true, ne_eq, eq_self, not_true_eq_false, not_false_eq_true, true_imp_iff, false_imp_iff, Int.reduceNe, Int.reduceEq, Int.reduceLT, Int.reduceLE, Bool.not_true, Bool.not_false, a1d, a2d, a3d]
            have m20 : us1.length + us2.length ≤ 20 := by omega
            refine ⟨fun w'' h => by rw [h.1]; exact rfl, fun w'' h => by rw [h.2.1]; exact rfl, fun w'' h => by rw [h.2.2]; exact rfl, ?_, ?_⟩
            · refine callK_of (clonePairs_c us1 (by omega) _ (.slice a p.rules.length c) wd.drew (hus1.below hwd0) har) ?_
              rintro vx y1 ⟨hox, hbx⟩
              have zx := hbx.size
              have hd1 : Below wd.heap.size wd y1 := hdd.trans hbx
              have hw1 := hbwd.trans (hd1.mono (by omega))
              refine ⟨keepC _ hd1, ?_⟩
              simp -dsimp only [push_cast, Nat.reduceAdd, Nat.reduceLeDiff, Nat.reduceBEq, decide_true, ne_eq, eq_self, not_true_eq_false, not_false_eq_true, true_imp_iff, false_imp_iff, Int.reduceNe, Int.reduceEq, Int.reduceLT, Int.reduceLE, Bool.not_true, Bool.not_false]
              constructor
              · refine appendAny (base := wd.heap.size) (enc := encPV) (ys := us2) elI_22 hox (hus2.below hw1) haq encPV_one (by omega) (by omega) ?_
                intro vy y2 hoy hgy hby
                have zy := hby.size
                have hd2 := hd1.trans hby
                refine ⟨keepC _ hd2, ?_⟩
                have hsh := hoy.slice
                obtain ⟨xa, xc, rfl⟩ := hsh
                simp -dsimp only [push_cast, Nat.reduceAdd, Nat.reduceLeDiff, Nat.reduceBEq, decide_true, ne_eq, eq_self, not_true_eq_false, not_false_eq_true, true_imp_iff, false_imp_iff, Int.reduceNe, Int.reduceEq, Int.reduceLT, Int.reduceLE, Bool.not_true, Bool.not_false]
                refine allocK (z := [.slice none 0 0, .bool false]) (by kernel_rfl) ?_
                intro y3 hn3
                have z3' := hn3.size
                have hd3 := hd2.trans (hn3.below.mono (by omega))
                refine ⟨keepC _ hd3, ?_⟩
                simp -dsimp only [push_cast, Nat.reduceAdd, Nat.reduceLeDiff, Nat.reduceBEq, decide_true, ne_eq, eq_self, not_true_eq_false, not_false_eq_true, true_imp_iff, false_imp_iff, Int.reduceNe, Int.reduceEq, Int.reduceLT, Int.reduceLE, Bool.not_true, Bool.not_false]
                -- y3: the world; (hoy.new hn3): Own; hn3.blk: Blk of the box; hd3: Below wd y3; (hbwd.trans (hd3.mono (by omega))): Below w y3; y2.heap.size: the box
                have hO9 := (hoy.new hn3)
                have hB9 := hn3.blk
                have hd9 := hd3
                have hw9 := (hbwd.trans (hd3.mono (by omega)))
                have hlu : (us1 ++ us2).length = (p.rules ++ q.rules).length := by rw [List.length_append, List.length_append, hul1, hul2]
                refine storeAgg (n := 2) (by kernel_rfl) hB9 rfl (by simp) (by simp [Value.oneCell']) ?_
                intro yz hyz
                have zyz := hyz.size
                have hkz := hyz.kept
                have hdz := hd9.trans (hkz.below (by omega) (fun i h => by omega))
                have hwz := hw9.trans (hkz.below (by omega) (fun i h => by omega))
                have hOz := hO9.keptX hkz (fun g hg hh => own_blk hO9 hB9 (by decide) (by rw [hg, hh]))
                have hBz : Blk yz y2.heap.size 24 [.slice xa (us1 ++ us2).length xc, .bool q.els] := hyz.blk
                have hpz : ProgV (fun _ => False) yz (.agg #[.slice xa (us1 ++ us2).length xc, .bool q.els]) (both p q) := ⟨_, rfl, (ownRead (R := PairR (fun _ => False) yz) hOz hlu (fun i s hs => by
                  by_cases hi : i < p.rules.length
                  · rw [List.getElem?_append_left hi] at hs
                    obtain ⟨u, hu, hpr⟩ := hue1 i s hs
                    exact ⟨u, by rw [List.getElem?_append_left (by omega)]; exact hu, hpr.below hwz⟩
                  · rw [List.getElem?_append_right (by omega)] at hs
                    obtain ⟨u, hu, hpr⟩ := hue2 _ s hs
                    exact ⟨u, by rw [List.getElem?_append_right (by omega), hul1]; exact hu, hpr.below hwz⟩)).weaken (fun _ h => h.elim)⟩
                refine ⟨keepC _ hdz, ?_⟩
                simp -dsimp only [push_cast, Nat.reduceAdd, Nat.reduceLeDiff, Nat.reduceBEq, decide_true, ne_eq, eq_self, not_true_eq_false, not_false_eq_true, true_imp_iff, false_imp_iff, Int.reduceNe, Int.reduceEq, Int.reduceLT, Int.reduceLE, Bool.not_true, Bool.not_false]
                exact ⟨y2.heap.size, xa, _, xc, rfl, by omega, hBz, hpz, hdz⟩
              · refine allocK (z := [.slice none 0 0, .bool false]) (by kernel_rfl) ?_
                intro y2 hn2
                have z2' := hn2.size
                have hd2 := hd1.trans (hn2.below.mono (by omega))
                refine ⟨keepC _ hd2, ?_⟩
                simp -dsimp only [push_cast, Nat.reduceAdd, Nat.reduceLeDiff, Nat.reduceBEq, decide_true, ne_eq, eq_self, not_true_eq_false, not_false_eq_true, true_imp_iff, false_imp_iff, Int.reduceNe, Int.reduceEq, Int.reduceLT, Int.reduceLE, Bool.not_true, Bool.not_false]
                refine appendAny (base := wd.heap.size) (enc := encPV) (ys := us2) elI_22 (hox.new hn2) (hus2.below (hbwd.trans (hd2.mono (by omega)))) haq encPV_one (by omega) (by omega) ?_
                intro vy y3 hoy hgy hby
                have zy := hby.size
                have hd3 := hd2.trans hby
                refine ⟨keepC _ hd3, ?_⟩
                have hsh := hoy.slice
                obtain ⟨xa, xc, rfl⟩ := hsh
                have hB3 := hn2.blk.kept (Kept.grown hgy (X := fun j => vx.ownBlock = some j) (fun _ h => h)) (fun hh => by have := hox.block _ hh; omega)
                simp -dsimp only [push_cast, Nat.reduceAdd, Nat.reduceLeDiff, Nat.reduceBEq, decide_true, ne_eq, eq_self, not_true_eq_false, not_false_eq_true, true_imp_iff, false_imp_iff, Int.reduceNe, Int.reduceEq, Int.reduceLT, Int.reduceLE, Bool.not_true, Bool.not_false]
                -- y3: the world; hoy: Own; hB3: Blk of the box; hd3: Below wd y3; (hbwd.trans (hd3.mono (by omega))): Below w y3; y1.heap.size: the box
                have hO9 := hoy
                have hB9 := hB3
                have hd9 := hd3
                have hw9 := (hbwd.trans (hd3.mono (by omega)))
                have hlu : (us1 ++ us2).length = (p.rules ++ q.rules).length := by rw [List.length_append, List.length_append, hul1, hul2]
                refine storeAgg (n := 2) (by kernel_rfl) hB9 rfl (by simp) (by simp [Value.oneCell']) ?_
                intro yz hyz
                have zyz := hyz.size
                have hkz := hyz.kept
                have hdz := hd9.trans (hkz.below (by omega) (fun i h => by omega))
                have hwz := hw9.trans (hkz.below (by omega) (fun i h => by omega))
                have hOz := hO9.keptX hkz (fun g hg hh => own_blk hO9 hB9 (by decide) (by rw [hg, hh]))
                have hBz : Blk yz y1.heap.size 24 [.slice xa (us1 ++ us2).length xc, .bool q.els] := hyz.blk
                have hpz : ProgV (fun _ => False) yz (.agg #[.slice xa (us1 ++ us2).length xc, .bool q.els]) (both p q) := ⟨_, rfl, (ownRead (R := PairR (fun _ => False) yz) hOz hlu (fun i s hs => by
                  by_cases hi : i < p.rules.length
                  · rw [List.getElem?_append_left hi] at hs
                    obtain ⟨u, hu, hpr⟩ := hue1 i s hs
                    exact ⟨u, by rw [List.getElem?_append_left (by omega)]; exact hu, hpr.below hwz⟩
                  · rw [List.getElem?_append_right (by omega)] at hs
                    obtain ⟨u, hu, hpr⟩ := hue2 _ s hs
                    exact ⟨u, by rw [List.getElem?_append_right (by omega), hul1]; exact hu, hpr.below hwz⟩)).weaken (fun _ h => h.elim)⟩
                refine ⟨keepC _ hdz, ?_⟩
                simp -dsimp only [push_cast, Nat.reduceAdd, Nat.reduceLeDiff, Nat.reduceBEq, decide_true, ne_eq, eq_self, not_true_eq_false, not_false_eq_true, true_imp_iff, false_imp_iff, Int.reduceNe, Int.reduceEq, Int.reduceLT, Int.reduceLE, Bool.not_true, Bool.not_false]
                exact ⟨y1.heap.size, xa, _, xc, rfl, by omega, hBz, hpz, hdz⟩
            · refine allocK (z := [.slice none 0 0, .bool false]) (by kernel_rfl) ?_
              intro y1 hn1
              have z1' : y1.heap.size = wd.heap.size + 1 := hn1.size
              have hd1 : Below wd.heap.size wd y1 := hdd.trans hn1.below
              refine ⟨keepC _ hd1, ?_⟩
              simp -dsimp only [push_cast, Nat.reduceAdd, Nat.reduceLeDiff, Nat.reduceBEq, decide_true, ne_eq, eq_self, not_true_eq_false, not_false_eq_true, true_imp_iff, false_imp_iff, Int.reduceNe, Int.reduceEq, Int.reduceLT, Int.reduceLE, Bool.not_true, Bool.not_false]
              refine callK_of (clonePairs_c us1 (by omega) _ (.slice a p.rules.length c) y1 (hus1.below (hbwd.trans (hd1.mono (by omega)))) har) ?_
              rintro vx y2 ⟨hox, hbx⟩
              have zx := hbx.size
              have hd2 := hd1.trans (hbx.mono (by omega))
              refine ⟨keepC _ hd2, ?_⟩
              simp -dsimp only [push_cast, Nat.reduceAdd, Nat.reduceLeDiff, Nat.reduceBEq, decide_true, ne_eq, eq_self, not_true_eq_false, not_false_eq_true, true_imp_iff, false_imp_iff, Int.reduceNe, Int.reduceEq, Int.reduceLT, Int.reduceLE, Bool.not_true, Bool.not_false]
              refine appendAny (base := y1.heap.size) (enc := encPV) (ys := us2) elI_22 hox (hus2.below (hbwd.trans (hd2.mono (by omega)))) haq encPV_one (by omega) (by omega) ?_
              intro vy y3 hoy hgy hby
              have zy := hby.size
              have hd3 := hd2.trans (hby.mono (by omega))
              refine ⟨keepC _ hd3, ?_⟩
              have hsh := hoy.slice
              obtain ⟨xa, xc, rfl⟩ := hsh
              have hB3 := (hn1.blk.below hbx (by show wd.heap.size < _; omega)).below hby (by show wd.heap.size < _; omega)
              simp -dsimp only [push_cast, Nat.reduceAdd, Nat.reduceLeDiff, Nat.reduceBEq, decide_true, ne_eq, eq_self, not_true_eq_false, not_false_eq_true, true_imp_iff, false_imp_iff, Int.reduceNe, Int.reduceEq, Int.reduceLT, Int.reduceLE, Bool.not_true, Bool.not_false]
              -- y3: the world; hoy: Own; hB3: Blk of the box; hd3: Below wd y3; (hbwd.trans (hd3.mono (by omega))): Below w y3; wd.heap.size: the box
              have hO9 := hoy
              have hB9 := hB3
              have hd9 := hd3
              have hw9 := (hbwd.trans (hd3.mono (by omega)))
              have hlu : (us1 ++ us2).length = (p.rules ++ q.rules).length := by rw [List.length_append, List.length_append, hul1, hul2]
              refine storeAgg (n := 2) (by kernel_rfl) hB9 rfl (by simp) (by simp [Value.oneCell']) ?_
              intro yz hyz
              have zyz := hyz.size
              have hkz := hyz.kept
              have hdz := hd9.trans (hkz.below (by omega) (fun i h => by omega))
              have hwz := hw9.trans (hkz.below (by omega) (fun i h => by omega))
              have hOz := hO9.keptX hkz (fun g hg hh => own_blk hO9 hB9 (by decide) (by rw [hg, hh]))
              have hBz : Blk yz wd.heap.size 24 [.slice xa (us1 ++ us2).length xc, .bool q.els] := hyz.blk
              have hpz : ProgV (fun _ => False) yz (.agg #[.slice xa (us1 ++ us2).length xc, .bool q.els]) (both p q) := ⟨_, rfl, (ownRead (R := PairR (fun _ => False) yz) hOz hlu (fun i s hs => by
                by_cases hi : i < p.rules.length
                · rw [List.getElem?_append_left hi] at hs
                  obtain ⟨u, hu, hpr⟩ := hue1 i s hs
                  exact ⟨u, by rw [List.getElem?_append_left (by omega)]; exact hu, hpr.below hwz⟩
                · rw [List.getElem?_append_right (by omega)] at hs
                  obtain ⟨u, hu, hpr⟩ := hue2 _ s hs
                  exact ⟨u, by rw [List.getElem?_append_right (by omega), hul1]; exact hu, hpr.below hwz⟩)).weaken (fun _ h => h.elim)⟩
              refine ⟨keepC _ hdz, ?_⟩
              simp -dsimp only [push_cast, Nat.reduceAdd, Nat.reduceLeDiff, Nat.reduceBEq, decide_true, ne_eq, eq_self, not_true_eq_false, not_false_eq_true, true_imp_iff, false_imp_iff, Int.reduceNe, Int.reduceEq, Int.reduceLT, Int.reduceLE, Bool.not_true, Bool.not_false]
              exact ⟨wd.heap.size, xa, _, xc, rfl, by omega, hBz, hpz, hdz⟩
          · intro z we hJ
            obtain ⟨b, x0, n0, c0, hz, hbge, hBb, hPb, hbe⟩ := hJ
            have zbe := hbe.size
            have hbwe := hbwd.trans (hbe.mono (by omega))
            have Xe := Xd.below hbe Xd.lt
            have x1 : cellsAt we ⟨wb.heap.size, 0, none⟩ 0 2 = some [.slice xa0 x.rules.length xc0, .bool x.els] := Xe.cellsAt
            simp -dsimp only [push_cast, Nat.reduceAdd, Nat.reduceLeDiff, Nat.reduceBEq, decide_true, ne_eq, eq_self, not_true_eq_false, not_false_eq_true, true_imp_iff, false_imp_iff, Int.reduceNe, Int.reduceEq, Int.reduceLT, Int.reduceLE, Bool.not_true, Bool.not_false, hz, x1]
            refine callK_of (breaks_c x ps hxl (by omega) _ _ _ _ we (hxd.below hbe) (hps.below hbwe) hap) ?_
            rintro rf wf ⟨hrf, hbf⟩
            rw [hx3, if_pos rfl, hx4 ps] at hrf
            obtain ⟨uf, rfl, hof⟩ := hrf
            have zf := hbf.size
            have hbwf := hbwe.trans (hbf.mono (by omega))
            have Bf := hBb.below hbf hBb.lt
            have Xf := Xe.below hbf Xe.lt
            have hPf := hPb.below hbf
            have x2 : cellsAt wf ⟨b, 0, none⟩ 0 2 = some [.slice x0 n0 c0, .bool q.els] := Bf.cellsAt
            have hbl0 := smallProg_len hbs
            simp -dsimp only [push_cast, Nat.reduceAdd, Nat.reduceLeDiff, Nat.reduceBEq, decide_true, ne_eq, eq_self, not_true_eq_false, not_false_eq_true, true_imp_iff, false_imp_iff, Int.reduceNe, Int.reduceEq, Int.reduceLT, Int.reduceLE, Bool.not_true, Bool.not_false, hz, x2]
            refine callK_of (breaks_c (both p q) ps hbl0 (by omega) _ _ _ _ wf hPf (hps.below hbwf) hap) ?_
            rintro rg wg ⟨hrg, hbg⟩
            rw [hbr, if_pos rfl] at hrg
            obtain ⟨ug, rfl, hog⟩ := hrg
            have zg := hbg.size
            have hbwg := hbwf.trans (hbg.mono (by omega))
            have Bg := Bf.below hbg Bf.lt
            have Xg := Xf.below hbg Xf.lt
            have hPg := hPf.below hbg
            have x3 : cellsAt wg ⟨b, 0, none⟩ 0 2 = some [.slice x0 n0 c0, .bool q.els] := Bg.cellsAt
            have hvg := hv.below hbwg hg
            simp -dsimp only [push_cast, Nat.reduceAdd, Nat.reduceLeDiff, Nat.reduceBEq, decide_true, ne_eq, eq_self, not_true_eq_false, not_false_eq_true, true_imp_iff, false_imp_iff, Int.reduceNe, Int.reduceEq, Int.reduceLT, Int.reduceLE, Bool.not_true, Bool.not_false, hz, x3]
            refine callK_of (asmPrint_c (both p q) hbl0 (fun hR => by omega) _ _ wg hPg hvg.d hvg.p hvg.n (by omega)) ?_
            rintro _ wh ⟨rfl, hbh⟩
            have zh := hbh.size
            have hbwh := hbwg.trans (hbh.mono (by omega))
            have Xh := Xg.below hbh Xg.lt
            have x4 : cellsAt wh ⟨wb.heap.size, 0, none⟩ 0 2 = some [.slice xa0 x.rules.length xc0, .bool x.els] := Xh.cellsAt
            have hvh := hv.below hbwh hg
            rw [if_pos hbr]
            simp -dsimp only [push_cast, Nat.reduceAdd, Nat.reduceLeDiff, Nat.reduceBEq, decide_true, ne_eq, eq_self, not_true_eq_false, not_false_eq_true, true_imp_iff, false_imp_iff, Int.reduceNe, Int.reduceEq, Int.reduceLT, Int.reduceLE, Bool.not_true, Bool.not_false, hz, x4]
            refine callK_of (asmPrint_c x hxl (fun _ => by rw [hx2]; omega) _ _ wh ((((hxd.below hbe).below hbf).below hbg).below hbh) hvh.d hvh.p hvh.n (by omega)) ?_
            rintro _ wi ⟨rfl, hbi⟩
            have hbwi := hbwh.trans (hbi.mono (by omega))
            rw [if_pos hx3, hx2]
            have hbln : (breaksP (both p q) ps).length ≤ ps.length + 1 := by
              unfold breaksP
              split
              · simp
              · exact breaksTo_len (both p q) ps _
            simp -dsimp only [push_cast, Nat.reduceAdd, Nat.reduceLeDiff, Nat.reduceBEq, decide_true, ne_eq, eq_self, not_true_eq_false, not_false_eq_true, true_imp_iff, false_imp_iff, Int.reduceNe, Int.reduceEq, Int.reduceLT, Int.reduceLE, Bool.not_true, Bool.not_false, hz]
            refine callK_of (equalN_c (breaksP (both p q) ps) (breaksP (both p q) ps) (by omega) _ _ _ _ wi (((hof.sl.below hbg).below hbh).below hbi) ((hog.sl.below hbh).below hbi)) ?_
            rintro _ wj ⟨rfl, hbj⟩
            rw [decide_eq_true rfl]
            simp -dsimp only [push_cast, Nat.reduceAdd, Nat.reduceLeDiff, Nat.reduceBEq, decide_true, ne_eq, eq_self, not_true_eq_false, not_false_eq_true, true_imp_iff, false_imp_iff, Int.reduceNe, Int.reduceEq, Int.reduceLT, Int.reduceLE, Bool.not_true, Bool.not_false]
            exact hbwi.trans (hbj.mono (hbwi.size))
end Go.Proofs.YtiofleijieepgaaGreatDoor
end
