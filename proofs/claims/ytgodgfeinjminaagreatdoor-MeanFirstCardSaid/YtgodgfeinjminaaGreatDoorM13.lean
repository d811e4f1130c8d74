/- Texts of this claim, merged: MnG. -/
import Derived.Test.YtgodgfeinjminaaGreatDoorM12
import Derived.Test.YtgodgfeinjminaaGreatDoorM11
section
namespace Go.Vc
open Go.RowKit
section
variable {P : Program} {t : Fr} {w : World} {K : VK} {Q : EP}
/-- Appending to a row that lies somewhere what any slice reads as. -/
theorem appendRow {α : Type} {bt ty e : TypeId} {k bytes base n0 c0 : Nat} {enc : α → List Value} {X : Nat → Prop} {ad : Addr} {x : Value} {l ys : List α} {p} (hE : elI P bt = some (e, k, bytes)) (hown : Vc.Own base e k enc w (.slice (some ad) n0 c0) l) (hx : Sl X k (En enc) w x ys)
    (h1 : ∀ x, ∀ u ∈ enc x, u.oneCell' = true) (hm : (l.length + ys.length) * bytes ≤ 140737488355328) (hbase : base ≤ w.heap.size)
    (kk : ∀ v' w', Vc.Own base e k enc w' v' (l ++ ys) → w.grownBy w' (Value.slice (some ad) n0 c0).ownBlock → Below base w w' → (∀ g, v'.ownBlock = some g → (Value.slice (some ad) n0 c0).ownBlock = some g ∨ w.heap.size ≤ g) → K v' w') : valK P (Builtin.append_ #[bt, bt] ty [.slice (some ad) n0 c0, x].toArray) t w K Q p := by
  have hs := hx.shape
  obtain ⟨a, c, rfl, hc⟩ := hs
  cases a with
  | some q => exact appendAny2 hE hown hx (fun n c h => by cases h) h1 hm hbase kk
  | none =>
    have hnil : ys = [] := by
      cases ys with
      | nil => rfl
      | cons y ys => obtain ⟨b, o, h, _⟩ := hx.get (i := 0) (x := y) rfl; cases h
    subst hnil
    obtain ⟨hu, i, z, hi, hz, rfl, rfl, hzs, hk, hby⟩ := elI_spec hE
    have hr : (Builtin.append_ #[bt, bt] ty [.slice (some ad) n0 c0, .slice none 0 c].toArray).run P w = .ok (.slice (some ad) n0 c0) w := by
      rcases hown.1.2 with ⟨h, _⟩ | ⟨g, cap, cur, h, _, _, hnc, _⟩
      · cases h
      · cases h
        simp [Builtin.append_, run_underlying hu, sizeOf, typeInfo, hi, Builtin.lenOf, Builtin.firstCells, hnc, storeCells]
    exact valK_of (w' := w) (v := .slice (some ad) n0 c0) hr (kk _ w (by rw [List.append_nil]; exact hown) ⟨rfl, rfl, rfl, Nat.le_refl _, fun _ _ _ => rfl⟩ (Below.refl _ _) (fun g hg => .inl hg))
end
end Go.Vc
namespace Cae
theorem sub_rise {l : List Nat} (h : l.Pairwise (· < ·)) {i a b : Nat} (ha : l[i]? = some a) (hb : l[i + 1]? = some b) : a < b := by
  obtain ⟨h1, rfl⟩ := List.getElem?_eq_some_iff.1 ha
  obtain ⟨h2, rfl⟩ := List.getElem?_eq_some_iff.1 hb
  exact List.pairwise_iff_getElem.1 h i (i + 1) h1 h2 (by omega)
end Cae
namespace Go.Proofs.YtgodgfeinjminaaGreatDoor
open Go.Vc Go.Proofs Go.RowKit Cae
set_option maxRecDepth 100000
set_option linter.unusedSimpArgs false
set_option linter.unusedVariables false
attribute [local irreducible] wpL callK valK unitK runK Fun Sl Vc.Own vc vcOps opK pureK
set_option maxHeartbeats 8000000
theorem rulesS_always {nm : NamesP} (is : Bool) (l : List RuleP) : rulesS nm (alwaysM is :: l) = rulesS nm l := by
  rw [rulesS]
  rfl
theorem rulesS_twice {nm : NamesP} {r : RuleP} {l : List RuleP} (h : rulesS nm (r :: l) = none) : rulesS nm (r :: r :: l) = none := by
  rw [rulesS]
  rw [rulesS] at h
  cases hr : ruleS nm r with
  | some e => rw [hr] at h; cases h
  | none => rw [hr] at h; dsimp only; rw [rulesS, hr]; exact h
/-- A file with one more rule ahead. -/
def aheadF (r : RuleP) (f : FileP) : FileP := ⟨f.classes, r :: f.rules, f.els⟩
theorem chk_ahead {f : FileP} {r : RuleP} (hc : chkS f = none) (h : ∀ nm, rulesS nm f.rules = none → rulesS nm (r :: f.rules) = none) : chkS (aheadF r f) = none := by
  unfold chkS at hc ⊢
  show (match namesS [] f.classes with | .error e => _ | .ok nm => (rulesS nm (r :: f.rules)).map _) = _
  cases hn : namesS [] f.classes with
  | error e => rw [hn] at hc; cases hc
  | ok nm =>
    rw [hn] at hc
    dsimp only at hc ⊢
    have : rulesS nm f.rules = none := by
      cases hr : rulesS nm f.rules with
      | none => rfl
      | some e => rw [hr] at hc; cases hc
    rw [h nm this]
    rfl
theorem meanFirst_c (s t : List UInt8) (is : Bool) (w : World) (hv : Vm w) : Fun Tryz.prog 3 [str s, str t, .bool is] w fun r w' => r = .bool true ∧ Below w.heap.size w w' := by
  refine fun_of_vc Tryz.func3 rfl (by kernel_rfl) [6] rfl ?_
  simp -dsimp (maxSteps := 4000000) only [push_cast, fr0, Tryz.ntmps3, List.length_cons, List.length_nil, Nat.reduceAdd, Nat.reduceSub, Nat.reduceBEq, List.replicate_succ, List.replicate_zero]
  -- the beginning of each law: Below.refl _ _ what to do where the text is long
  refine ⟨fun hlong => Below.refl _ _, fun hshort => ?_⟩
  refine callK_of (meant_c w hv.d hv.e hv.v hv.l hv.g) ?_
  rintro _ w1 ⟨rfl, hb1⟩
  have z1 := hb1.size
  have hv1 := hv.below hb1
  simp -dsimp only [push_cast, Nat.reduceAdd, Nat.reduceLeDiff, Nat.reduceBEq, Int.reduceNe, Int.reduceEq, Int.reduceLT, Int.reduceLE]
  refine callK_of (rightF_c s w1 hv1.d hv1.e hv1.g) ?_
  rintro _ w2 ⟨⟨a1, n1, k1, a2, n2, k2, e, b, rfl, hright⟩, hb2⟩
  have z2 := hb2.size
  have hbw2 := hb1.trans (hb2.mono z1)
  simp -dsimp only [push_cast, Nat.reduceAdd, Nat.reduceLeDiff, Nat.reduceBEq, Int.reduceNe, Int.reduceEq, Int.reduceLT, Int.reduceLE]
  refine allocK (z := [.slice none 0 0, .slice none 0 0, .bool false]) (by kernel_rfl) ?_
  intro w3 hw3
  have z3 := hw3.size
  simp -dsimp only [push_cast, Nat.reduceAdd, Nat.reduceLeDiff, Nat.reduceBEq, Int.reduceNe, Int.reduceEq, Int.reduceLT, Int.reduceLE]
  refine storeAgg (n := 3) (by kernel_rfl) hw3.blk rfl (by simp) cells3 ?_
  intro w4 hw4
  have z4 := hw4.size
  have B4 : Blk w4 w2.heap.size 26 [.slice a1 n1 k1, .slice a2 n2 k2, .bool e] := hw4.blk
  have hb24 : Below w2.heap.size w2 w4 := hw3.below.trans (hw4.kept.below (by omega) (fun i h => by omega))
  have hbw4 := hbw2.trans (hb24.mono (by omega))
  have hv4 := hv.below hbw4
  have d4 : cellsAt w4 ⟨w2.heap.size, 0, none⟩ 0 3 = some [.slice a1 n1 k1, .slice a2 n2 k2, .bool e] := B4.cellsAt
  have e4 : w4.cell? ⟨w2.heap.size, 1, none⟩ = some (.slice a2 n2 k2) := B4.cell rfl
  cases b with
  | false =>
    simp -dsimp only [push_cast, Nat.reduceAdd, Nat.reduceLeDiff, Nat.reduceBEq, Int.reduceNe, Int.reduceEq, Int.reduceLT, Int.reduceLE]
    exact hbw4
  | true =>
    obtain ⟨hs5, f, hpar, hchk, hV⟩ := hright rfl
    have hpo := parse_ok (by omega) hpar
    have hpp := parse_pn hpar (by omega)
    have hV4 := hV.below hb24
    obtain ⟨cv, rv, cs, rs, hag, S1, S2, A1, A2⟩ := hV
    have hsh1 := S1.shape
    obtain ⟨_, _, rfl, hcc⟩ := hsh1
    have hsh2 := S2.shape
    obtain ⟨_, _, rfl, hrc⟩ := hsh2
    simp only [Value.agg.injEq, Array.mk.injEq, List.cons.injEq, Value.slice.injEq, Value.bool.injEq, and_true] at hag
    obtain ⟨⟨rfl, rfl, rfl⟩, ⟨rfl, rfl, rfl⟩, rfl⟩ := hag
    have hrl := All2.len A2
    simp -dsimp only [push_cast, Nat.reduceAdd, Nat.reduceLeDiff, Nat.reduceBEq, Int.reduceNe, Int.reduceEq, Int.reduceLT, Int.reduceLE, e4]
    refine ⟨fun h20 => hbw4, fun h20 => ?_⟩
    have hul := udec_length t.length t 0 rfl
    refine callK_of (decode_c t (by omega) w4 hv4.l) ?_
    rintro uv w5 ⟨hU, hb5⟩
    have z5 := hb5.size
    have hb25 := hb24.trans (hb5.mono (by omega))
    have hbw5 := hbw4.trans (hb5.mono (by omega))
    obtain ⟨ua, uc, rfl⟩ := hU.slice
    have F5 := B4.below hb5 (by omega)
    have d5 : cellsAt w5 ⟨w2.heap.size, 0, none⟩ 0 3 = some [.slice a1 cs.length k1, .slice a2 rs.length k2, .bool f.els] := F5.cellsAt
    have hV5 : FileV (fun _ => False) w5 (.agg #[.slice a1 cs.length k1, .slice a2 rs.length k2, .bool f.els]) f := (hV4.below hb5).mono (Kept.refl (fun _ => False) _) (fun _ h => h.elim) (fun _ h => h.elim)
    simp -dsimp only [push_cast, Nat.reduceAdd, Nat.reduceLeDiff, Nat.reduceBEq, Int.reduceNe, Int.reduceEq, Int.reduceLT, Int.reduceLE, d5]
    refine callK_of (breaks_c f hpo.1 hpp (by omega) (by omega) (udec 0 t) (by omega) (fun _ => False) _ _ w5 hV5 (hU.sl.weaken (fun _ h => h.elim))) ?_
    rintro _ w6 ⟨hA, hb6⟩
    have z6 := hb6.size
    have hb26 := hb25.trans (hb6.mono (by omega))
    have hbw6 := hbw5.trans (hb6.mono (by omega))
    unfold BrkR at hA
    rw [hchk] at hA
    obtain ⟨nm, av, hnm, rfl, hAO⟩ := hA
    obtain ⟨aa, ac, rfl⟩ := hAO.slice
    have hU6 := hU.below hb6
    have hlA : (breaksM (hasN nm) (ptsU (udec 0 t)) f.rules f.els).length ≤ 100000 := by have := breaksM_len (has := hasN nm) (pts := ptsU (udec 0 t)) f.rules f.els; rw [ptsU_len] at this; omega
    have hrise := breaksM_rise (has := hasN nm) (pts := ptsU (udec 0 t)) f.rules f.els
    have hpl := ptsU_len (udec 0 t)
    simp -dsimp only [push_cast, Nat.reduceAdd, Nat.reduceLeDiff, Nat.reduceBEq, Int.reduceNe, Int.reduceEq, Int.reduceLT, Int.reduceLE]
    refine ⟨fun h0 => ?_, fun h0 => ?_⟩
    · have hn0 : ptsU (udec 0 t) = [] := List.eq_nil_of_length_eq_zero (by omega)
      have hl0 : (breaksM (hasN nm) (ptsU (udec 0 t)) f.rules f.els).length = 0 := by unfold breaksM; rw [if_pos hn0]; rfl
      rw [hl0]
      simp -dsimp only [push_cast, Nat.reduceAdd, Nat.reduceLeDiff, Nat.reduceBEq, Int.reduceNe, Int.reduceEq, Int.reduceLT, Int.reduceLE]
      exact hbw6
    · have hne : ptsU (udec 0 t) ≠ [] := fun h => h0 (by rw [h] at hpl; simp only [List.length_nil] at hpl; omega)
      obtain ⟨mid, hmid⟩ := breaksM_ends (has := hasN nm) f.rules f.els hne
      have hfst : (breaksM (hasN nm) (ptsU (udec 0 t)) f.rules f.els)[0]? = some 0 := by rw [hmid]; rfl
      have hlst : (breaksM (hasN nm) (ptsU (udec 0 t)) f.rules f.els)[(breaksM (hasN nm) (ptsU (udec 0 t)) f.rules f.els).length - 1]? = some (udec 0 t).length := by
        rw [hmid, ← hpl, ← List.cons_append, List.length_append, List.getElem?_append_right (by simp)]
        simp
      have hL : ∃ L, L = breaksM (hasN nm) (ptsU (udec 0 t)) f.rules f.els := ⟨_, rfl⟩
      obtain ⟨L, hL⟩ := hL
      rw [← hL] at hfst hlst hrise hlA hAO
      rw [← hL]
      have hL1 := (List.getElem?_eq_some_iff.1 hfst).1
      have S6 := hAO.sl
      obtain ⟨ab, ao, rfl, hXa, hc0⟩ := S6.get hfst
      obtain ⟨ab', ao', hae, _, hc1⟩ := S6.get hlst
      cases hae
      have g0 : w6.cell? ⟨ab, ao + 0 * 1, none⟩ = some (.int .i64 ((0 : Nat) : Int)) := by simpa using hc0 0 _ rfl
      have g1 : w6.cell? ⟨ab, ao + (L.length - 1) * 1, none⟩ = some (.int .i64 ((udec 0 t).length : Int)) := by simpa using hc1 0 _ rfl
      have hge : ∀ i, i < L.length → ∃ x, L[i]? = some x ∧ w6.cell? ⟨ab, ao + i, none⟩ = some (.int .i64 (x : Int)) := fun i hi => by
        obtain ⟨x, hx, _⟩ := lt_get hi
        obtain ⟨b', o', e', _, hc⟩ := S6.get hx
        cases e'
        exact ⟨x, hx, by simpa [encN] using hc 0 _ rfl⟩
      have g0' : w6.cell? ⟨ab, ao, none⟩ = some (.int .i64 ((0 : Nat) : Int)) := by simpa using g0
      have g1' : w6.cell? ⟨ab, ao + (L.length - 1), none⟩ = some (.int .i64 ((udec 0 t).length : Int)) := by simpa using g1
      have ej : ((L.length : Int) - 1) = ((L.length - 1 : Nat) : Int) := by omega
      simp -dsimp only [push_cast, Nat.reduceAdd, Nat.reduceLeDiff, Nat.reduceBEq, Int.reduceNe, Int.reduceEq, Int.reduceLT, Int.reduceLE, g0', g1']
      refine ⟨by omega, ⟨by omega, by omega⟩, ⟨by omega, by omega⟩, ?_⟩
      rw [ej]
      simp -dsimp only [push_cast, Nat.reduceAdd, Nat.reduceLeDiff, Nat.reduceBEq, Int.reduceNe, Int.reduceEq, Int.reduceLT, Int.reduceLE, g1']
      refine wpL_loop [6, 12, 72, 73, 74, 75, 76, 77, 78, 79, 80, 81, 82, 83, 84, 85, 86, 87] (fun z wx => ∃ (i : Nat), z 12 = .int .i64 i ∧ 1 ≤ i ∧ Below w6.heap.size w6 wx) (fun z _ => L.length - (intOf (z 12)).toNat) ?_ ?_
      · exact ⟨1, rfl, Nat.le_refl _, Below.refl _ _⟩
      · intro z wx hI
        obtain ⟨i, h12, hi1, hbx⟩ := hI
        have zx := hbx.size
        have hb2x := hb26.trans (hbx.mono (by omega))
        have hbwx := hbw6.trans (hbx.mono (by omega))
        simp -dsimp only [push_cast, Nat.reduceAdd, Nat.reduceLeDiff, Nat.reduceBEq, Int.reduceNe, Int.reduceEq, Int.reduceLT, Int.reduceLE, h12]
        refine ⟨fun hlt => ?_, fun hge => ?_⟩
        · obtain ⟨x, hx, cx⟩ := hge i (by omega)
          obtain ⟨y, hy, cy⟩ := hge (i - 1) (by omega)
          have hlxy : y < x := sub_rise hrise hy (by rw [show i - 1 + 1 = i by omega]; exact hx)
          have cx' : wx.drew.cell? ⟨ab, ao + i, none⟩ = some (.int .i64 (x : Int)) := (hbx.cell (World.block_lt_of_cell? w6 _ cx)).trans cx
          have cy' : wx.drew.cell? ⟨ab, ao + (i - 1), none⟩ = some (.int .i64 (y : Int)) := (hbx.cell (World.block_lt_of_cell? w6 _ cy)).trans cy
          refine wpL_draw (fun w' => ∀ a, w'.cell? a = wx.drew.cell? a) mixed (by kernel_rfl) (fun _ => rfl) ?_
          have ek : ((i : Int) - 1) = ((i - 1 : Nat) : Int) := by omega
          simp -dsimp only [push_cast, Nat.reduceAdd, Nat.reduceLeDiff, Nat.reduceBEq, Int.reduceNe, Int.reduceEq, Int.reduceLT, Int.reduceLE, cx']
          refine ⟨⟨by omega, by omega⟩, fun w'' hC => by rw [hC, cx']; exact rfl, ⟨by omega, by omega⟩, ⟨by omega, by omega⟩, ?_⟩
          rw [ek]
          simp -dsimp only [push_cast, Nat.reduceAdd, Nat.reduceLeDiff, Nat.reduceBEq, Int.reduceNe, Int.reduceEq, Int.reduceLT, Int.reduceLE, cy']
          refine ⟨fun w'' hC => by rw [hC, cy']; exact rfl, fun hle => by omega, fun hle => ?_⟩
          exact ⟨⟨by omega, by omega⟩, ⟨i + 1, rfl, by omega, hbx.drew⟩, by rw [h12]; simp only [intOf]; omega⟩
        · refine boxK_of ?_
          intro w7 hw7
          have hw7 : New wx w7 40 [.int .i64 4, .pointer none, .slice none 0 0, .int .i64 0, .int .i64 0] := hw7
          have z7 := hw7.size
          simp -dsimp only [push_cast, Nat.reduceAdd, Nat.reduceLeDiff, Nat.reduceBEq, Int.reduceNe, Int.reduceEq, Int.reduceLT, Int.reduceLE]
          refine boxK_of ?_
          intro w8 hw8
          have hw8 : New w7 w8 40 [.int .i64 4, .pointer none, .slice none 0 0, .int .i64 0, .int .i64 0] := hw8
          have z8 := hw8.size
          simp -dsimp only [push_cast, Nat.reduceAdd, Nat.reduceLeDiff, Nat.reduceBEq, Int.reduceNe, Int.reduceEq, Int.reduceLT, Int.reduceLE]
          refine allocK (z := [.int .i64 0, .bool false, .pointer none, .pointer none]) (by kernel_rfl) ?_
          intro w9 hw9
          have z9 := hw9.size
          simp -dsimp only [push_cast, Nat.reduceAdd, Nat.reduceLeDiff, Nat.reduceBEq, Int.reduceNe, Int.reduceEq, Int.reduceLT, Int.reduceLE]
          refine storeAgg (n := 4) (by kernel_rfl) hw9.blk rfl (by simp) (by simp [Value.oneCell']) ?_
          intro wa hwa
          have za := hwa.size
          have Ra : Blk wa w8.heap.size 42 [.int .i64 0, .bool is, .pointer (some ⟨wx.heap.size, 0, none⟩), .pointer (some ⟨w7.heap.size, 0, none⟩)] := hwa.blk
          have hbxa : Below wx.heap.size wx wa := hw7.below.trans ((hw8.below.mono (by omega)).trans ((hw9.below.mono (by omega)).trans (hwa.kept.below (by omega) (fun i h => by omega))))
          have hb8a : Below w8.heap.size w8 wa := hw9.below.trans (hwa.kept.below (by omega) (fun i h => by omega))
          have hb7a : Below w7.heap.size w7 wa := hw8.below.trans (hb8a.mono (by omega))
          have P1 : Blk wa wx.heap.size 40 [.int .i64 4, .pointer none, .slice none 0 0, .int .i64 0, .int .i64 0] := hw7.blk.below hb7a (by omega)
          have P2 : Blk wa w7.heap.size 40 [.int .i64 4, .pointer none, .slice none 0 0, .int .i64 0, .int .i64 0] := hw8.blk.below hb8a (by omega)
          have hb2a := hb2x.trans (hbxa.mono (by omega))
          have hb46 : Below w4.heap.size w4 w6 := hb5.trans (hb6.mono z5)
          have hb4a : Below w4.heap.size w4 wa := hb46.trans ((hbx.mono (by omega)).trans (hbxa.mono (by omega)))
          have hbwa := hbwx.trans (hbxa.mono (by omega))
          have Fa := B4.below hb4a (by omega)
          have dFa : cellsAt wa ⟨w2.heap.size, 0, none⟩ 0 3 = some [.slice a1 cs.length k1, .slice a2 rs.length k2, .bool f.els] := Fa.cellsAt
          simp -dsimp only [push_cast, Nat.reduceAdd, Nat.reduceLeDiff, Nat.reduceBEq, Int.reduceNe, Int.reduceEq, Int.reduceLT, Int.reduceLE, dFa]
          refine allocK (z := [.slice none 0 0, .slice none 0 0, .bool false]) (by kernel_rfl) ?_
          intro wb hwb
          have zb := hwb.size
          simp -dsimp only [push_cast, Nat.reduceAdd, Nat.reduceLeDiff, Nat.reduceBEq, Int.reduceNe, Int.reduceEq, Int.reduceLT, Int.reduceLE]
          refine storeAgg (n := 3) (by kernel_rfl) hwb.blk rfl (by simp) cells3 ?_
          intro wc hwc
          have zc := hwc.size
          have Gc : Blk wc wa.heap.size 26 [.slice a1 cs.length k1, .slice a2 rs.length k2, .bool f.els] := hwc.blk
          have hbac : Below wa.heap.size wa wc := hwb.below.trans (hwc.kept.below (by omega) (fun i h => by omega))
          have Rc := Ra.below hbac (by omega)
          have dRc : cellsAt wc ⟨w8.heap.size, 0, none⟩ 0 4 = some [.int .i64 0, .bool is, .pointer (some ⟨wx.heap.size, 0, none⟩), .pointer (some ⟨w7.heap.size, 0, none⟩)] := Rc.cellsAt
          have Fc := Fa.below hbac (by omega)
          have fc1 : wc.cell? ⟨w2.heap.size, 1, none⟩ = some (.slice a2 rs.length k2) := Fc.cell rfl
          simp -dsimp only [push_cast, Nat.reduceAdd, Nat.reduceLeDiff, Nat.reduceBEq, Int.reduceNe, Int.reduceEq, Int.reduceLT, Int.reduceLE, dRc]
          refine rowK elI_24 rfl rfl (by omega) ?_
          intro wd hwd
          have zd := hwd.size
          have hOd : Vc.Own wc.heap.size 42 4 encRu wd (.slice (some ⟨wc.heap.size, 0, none⟩) 1 1) [(0, is, wx.heap.size, w7.heap.size)] := hwd.own (by rfl) rfl (fun _ => rfl) (by omega) (by omega)
          have hb4d : Below w4.heap.size w4 wd := hb4a.trans ((hbac.mono (by omega)).trans (hwd.below.mono (by omega)))
          have Fd := Fc.below hwd.below (by omega)
          have fd1 : wd.cell? ⟨w2.heap.size, 1, none⟩ = some (.slice a2 rs.length k2) := Fd.cell rfl
          have S2d := (S2.below hb24).below hb4d
          simp -dsimp only [push_cast, Nat.reduceAdd, Nat.reduceLeDiff, Nat.reduceBEq, Int.reduceNe, Int.reduceEq, Int.reduceLT, Int.reduceLE, fd1]
          refine appendRow (base := wc.heap.size) (enc := encRu) (ys := rs) elI_24 hOd S2d encRu_one (by simp only [List.length_cons, List.length_nil]; omega) (by omega) ?_
          intro ve we hOe hge' hbe hne'
          have ze := hbe.size
          have hkde : Kept (fun j => wc.heap.size = j) wd we := Kept.grown hge' (fun j h => by cases h; rfl)
          have hobe := hOe.block
          obtain ⟨ea, ec, rfl⟩ := hOe.slice
          have hbce : Below wc.heap.size wc we := hwd.below.trans (hkde.below (by omega) (fun i h => by omega))
          have Ge := Gc.below hbce (by omega)
          simp -dsimp only [push_cast, Nat.reduceAdd, Nat.reduceLeDiff, Nat.reduceBEq, Int.reduceNe, Int.reduceEq, Int.reduceLT, Int.reduceLE]
          refine storeK_of Ge (by simp) rfl ?_
          intro wf hwf
          have zf := hwf.size
          have Gf : Blk wf wa.heap.size 26 [.slice a1 cs.length k1, .slice ea ([(0, is, wx.heap.size, w7.heap.size)] ++ rs).length ec, .bool f.els] := hwf.blk
          have hOf := hOe.keptX hwf.kept (fun g hg h => by have := hobe g hg; have h' : g = wa.heap.size := h; omega)
          have hbaf : Below wa.heap.size wa wf := hbac.trans ((hbce.mono (by omega)).trans (hwf.kept.below (by omega) (fun i h => by omega)))
          have hb4f := hb4a.trans (hbaf.mono (by omega))
          have hb6f : Below w6.heap.size w6 wf := hbx.trans ((hbxa.mono (by omega)).trans (hbaf.mono (by omega)))
          have dGf : cellsAt wf ⟨wa.heap.size, 0, none⟩ 0 3 = some [.slice a1 cs.length k1, .slice ea ([(0, is, wx.heap.size, w7.heap.size)] ++ rs).length ec, .bool f.els] := Gf.cellsAt
          have A1f : All2 (ClsR (fun _ => False) wf) cs f.classes := A1.imp fun a c h => ClsR.mono (Kept.refl (fun _ => False) _) (fun _ h => h.elim) (fun _ h => h.elim) ⟨h.1, h.2.1, (h.2.2.below hb24).below hb4f⟩
          have A2f : All2 (RulR (fun _ => False) wf) rs f.rules := A2.imp fun a c h => ⟨h.1, h.2.1, PatV.weak ((h.2.2.1.below hb24).below hb4f) (fun _ h => h.elim), PatV.weak ((h.2.2.2.below hb24).below hb4f) (fun _ h => h.elim)⟩
          have P1f := P1.below hbaf (by omega)
          have P2f := P2.below hbaf (by omega)
          have hVf : FileV (fun _ => False) wf (.agg #[.slice a1 cs.length k1, .slice ea ([(0, is, wx.heap.size, w7.heap.size)] ++ rs).length ec, .bool f.els]) (aheadF (alwaysM is) f) :=
            ⟨_, _, cs, [(0, is, wx.heap.size, w7.heap.size)] ++ rs, rfl, ((S1.below hb24).below hb4f).weaken (fun _ h => h.elim), hOf.sl.weaken (fun _ h => h.elim), A1f, .cons ⟨rfl, rfl, by
              simp only [alwaysM, PatV]
              exact ⟨_, _, [], rfl, fun h => h, P1f, Sl.nil _ _ _ _ _ _, by simp only [PatsV]⟩, by
              simp only [alwaysM, PatV]
              exact ⟨_, _, [], rfl, fun h => h, P2f, Sl.nil _ _ _ _ _ _, by simp only [PatsV]⟩⟩ A2f⟩
          have hokf : FileOk (aheadF (alwaysM is) f) := ⟨hpo.1.1, fun r hr => by
            rcases List.mem_cons.1 hr with rfl | hr
            · exact ⟨by simp only [alwaysM, PatOk, PatsOk], by simp only [alwaysM, PatOk, PatsOk]⟩
            · exact hpo.1.2 r hr⟩
          have hppf : PnOk (aheadF (alwaysM is) f) := fun r hr => by
            rcases List.mem_cons.1 hr with rfl | hr
            · exact ⟨Nat.le_trans (wd_pn (.cat [])) (by decide), Nat.le_trans (wd_pn (.cat [])) (by decide)⟩
            · exact hpp r hr
          have hU6f := hU6.below hb6f
          have hchA := chk_ahead (r := alwaysM is) hchk (fun nm h => by rw [rulesS_always]; exact h)
          simp -dsimp only [push_cast, Nat.reduceAdd, Nat.reduceLeDiff, Nat.reduceBEq, Int.reduceNe, Int.reduceEq, Int.reduceLT, Int.reduceLE, dGf]
          refine callK_of (breaks_c (aheadF (alwaysM is) f) hokf hppf (by show f.classes.length ≤ 1000000; omega) (by show f.rules.length + 1 ≤ 1000000; omega) (udec 0 t) (by omega) (fun _ => False) _ _ wf hVf (hU6f.sl.weaken (fun _ h => h.elim))) ?_
          rintro _ wg ⟨hBg, hbg⟩
          have zg := hbg.size
          unfold BrkR at hBg
          rw [hchA] at hBg
          obtain ⟨nm', bv, hnm', rfl, hBO⟩ := hBg
          have hlb : (breaksM (hasN nm') (ptsU (udec 0 t)) (aheadF (alwaysM is) f).rules (aheadF (alwaysM is) f).els).length = if is then (udec 0 t).length + 1 else 2 := by
            have := first_len (has := hasN nm') (r := alwaysM is) (fun i => always_met is i) f.rules f.els hne
            rw [hpl] at this
            exact this
          have hLb : ∃ Lb, Lb = breaksM (hasN nm') (ptsU (udec 0 t)) (aheadF (alwaysM is) f).rules (aheadF (alwaysM is) f).els := ⟨_, rfl⟩
          obtain ⟨Lb, hLb⟩ := hLb
          rw [← hLb] at hBO hlb
          obtain ⟨ba, bc, rfl⟩ := hBO.slice
          have hb4g := hb4f.trans (hbg.mono (by omega))
          have hbwg := hbwa.trans ((hbaf.mono (by omega)).trans (hbg.mono (by omega)))
          have Fg := (B4.below hb4f (by omega)).below hbg (by omega)
          have fg1 : wg.cell? ⟨w2.heap.size, 1, none⟩ = some (.slice a2 rs.length k2) := Fg.cell rfl
          have Gg := Gf.below hbg (by omega)
          cases is with
          | false =>
            simp only [Bool.false_eq_true, if_false] at hlb
            rw [hlb]
            simp -dsimp only [push_cast, Nat.reduceAdd, Nat.reduceLeDiff, Nat.reduceBEq, Int.reduceNe, Int.reduceEq, Int.reduceLT, Int.reduceLE, fg1]
            refine ⟨fun h => absurd rfl h, fun _ => ⟨fun h0 => hbwg, fun hr0 => ?_⟩⟩
            have hr0' : 0 < rs.length := by omega
            obtain ⟨x0, hx0, hxm0, _, _⟩ := lt_get (l := rs) (i := 0) hr0'
            obtain ⟨c0, hc0, hcm0, _, _⟩ := lt_get (l := f.rules) (i := 0) (by omega)
            have hfr : ∃ rest, f.rules = c0 :: rest := by
              cases hr : f.rules with
              | nil => rw [hr] at hc0; cases hc0
              | cons r l => rw [hr] at hc0; cases hc0; exact ⟨l, rfl⟩
            obtain ⟨rest, hfr⟩ := hfr
            obtain ⟨x0', hx0', hR0⟩ := all2_nth A2 hc0
            obtain rfl : x0' = x0 := by rw [hx0] at hx0'; exact (Option.some.inj hx0').symm
            have S2g := (S2.below hb24).below hb4g
            obtain ⟨b1, o, rfl, hnb, hcell⟩ := S2g.get hx0
            obtain ⟨xp, xb, x1, x2⟩ := x0'
            have hcell' : ∀ (j : Nat) (u : Value), [Value.int .i64 xp, .bool xb, .pointer (some ⟨x1, 0, none⟩), .pointer (some ⟨x2, 0, none⟩)][j]? = some u → wg.drew.cell? ⟨b1, o + j, none⟩ = some u := fun j u hu => by
              have := hcell j u (by simpa [encRu, ptrP] using hu)
              rw [Nat.zero_mul, Nat.add_zero] at this
              exact this
            have hb1l : b1 < wg.heap.size := World.block_lt_of_cell? wg.drew _ (hcell' 0 _ rfl)
            refine wpL_lastN (fun w' => Blk w' w2.heap.size 26 [.slice a1 cs.length k1, .slice (some ⟨b1, o, none⟩) rs.length k2, .bool f.els] ∧ ∀ (j : Nat) (u : Value), [Value.int .i64 xp, .bool xb, .pointer (some ⟨x1, 0, none⟩), .pointer (some ⟨x2, 0, none⟩)][j]? = some u → w'.cell? ⟨b1, o + j, none⟩ = some u) mixed (by kernel_rfl) (by simp) ⟨Fg.drew, hcell'⟩ ?_
            have hc4 : ∀ w', (∀ (j : Nat) (u : Value), [Value.int .i64 xp, .bool xb, .pointer (some ⟨x1, 0, none⟩), .pointer (some ⟨x2, 0, none⟩)][j]? = some u → w'.cell? ⟨b1, o + j, none⟩ = some u) → cellsAt w' ⟨b1, o, none⟩ 0 4 = some [.int .i64 xp, .bool xb, .pointer (some ⟨x1, 0, none⟩), .pointer (some ⟨x2, 0, none⟩)] := fun w' h => cellsAt_of [Value.int .i64 xp, .bool xb, .pointer (some ⟨x1, 0, none⟩), .pointer (some ⟨x2, 0, none⟩)] 0 (fun j u hu => by simpa using h j u hu)
            have c4 : cellsAt wg.drew ⟨b1, o + 0 * 4, none⟩ 0 4 = some [.int .i64 xp, .bool xb, .pointer (some ⟨x1, 0, none⟩), .pointer (some ⟨x2, 0, none⟩)] := hc4 _ hcell'
            have fgd : wg.drew.cell? ⟨w2.heap.size, 1, none⟩ = some (.slice (some ⟨b1, o, none⟩) rs.length k2) := fg1
            simp -dsimp only [push_cast, Nat.reduceAdd, Nat.reduceLeDiff, Nat.reduceBEq, Int.reduceNe, Int.reduceEq, Int.reduceLT, Int.reduceLE, fgd, c4]
            refine ⟨fun w'' h => by rw [h.1.cell (o := 1) rfl]; exact rfl, by omega, fun w'' h => by have e : cellsAt w'' ⟨b1, o + 0 * 4, none⟩ 0 4 = some _ := hc4 w'' h.2; rw [e]; exact rfl, ?_⟩
            refine rowK elI_24 rfl rfl (by omega) ?_
            intro wh hwh
            have zh : wh.heap.size = wg.heap.size + 1 := hwh.size
            have hbd := below_drew wg
            have hbgh : Below wg.heap.size wg wh := hbd.trans (hwh.below.mono (Nat.le_refl _))
            have Fh := Fg.below hbgh (by omega)
            have hch : ∀ (j : Nat) (u : Value), [Value.int .i64 xp, .bool xb, .pointer (some ⟨x1, 0, none⟩), .pointer (some ⟨x2, 0, none⟩)][j]? = some u → wh.cell? ⟨b1, o + j, none⟩ = some u := fun j u hu => (hwh.below.cell (p := ⟨b1, o + j, none⟩) hb1l).trans (hcell' j u hu)
            refine ⟨⟨Fh, hch⟩, ?_⟩
            have hOh : Vc.Own wg.heap.size 42 4 encRu wh (.slice (some ⟨wg.drew.heap.size, 0, none⟩) 1 1) [(xp, xb, x1, x2)] := hwh.own (by rfl) rfl (fun _ => rfl) (by show wg.heap.size ≤ wg.heap.size; omega) (by omega)
            have fh1 : wh.cell? ⟨w2.heap.size, 1, none⟩ = some (.slice (some ⟨b1, o, none⟩) rs.length k2) := Fh.cell rfl
            have S2h := S2g.below hbgh
            simp -dsimp only [push_cast, Nat.reduceAdd, Nat.reduceLeDiff, Nat.reduceBEq, Int.reduceNe, Int.reduceEq, Int.reduceLT, Int.reduceLE, fh1]
            refine ⟨fun w'' h => by rw [h.1.cell (o := 1) rfl]; exact rfl, ?_⟩
            refine appendRow (base := wg.heap.size) (enc := encRu) (ys := rs) elI_24 hOh S2h encRu_one (by simp only [List.length_cons, List.length_nil]; omega) (by omega) ?_
            intro vi wi hOi hgi hbi hni
            have zi := hbi.size
            have hkhi : Kept (fun j => wg.heap.size = j) wh wi := Kept.grown hgi (fun j h => by cases h; rfl)
            have hobi := hOi.block
            obtain ⟨ia, ic, rfl⟩ := hOi.slice
            have Fi := Fh.kept hkhi (fun h => by omega)
            have hci : ∀ (j : Nat) (u : Value), [Value.int .i64 xp, .bool xb, .pointer (some ⟨x1, 0, none⟩), .pointer (some ⟨x2, 0, none⟩)][j]? = some u → wi.cell? ⟨b1, o + j, none⟩ = some u := fun j u hu => hkhi.cell (hch j u hu) (fun h => by have h' : wg.heap.size = b1 := h; omega)
            refine ⟨⟨Fi, hci⟩, ?_⟩
            have hbgi : Below wg.heap.size wg wi := hbgh.trans (hkhi.below (by omega) (fun i h => by omega))
            have Gi := Gg.below hbgi (by omega)
            simp -dsimp only [push_cast, Nat.reduceAdd, Nat.reduceLeDiff, Nat.reduceBEq, Int.reduceNe, Int.reduceEq, Int.reduceLT, Int.reduceLE]
            refine storeK_of Gi (by simp) rfl ?_
            intro wj hwj
            have zj := hwj.size
            have Gj : Blk wj wa.heap.size 26 [.slice a1 cs.length k1, .slice ia ([(xp, xb, x1, x2)] ++ rs).length ic, .bool f.els] := hwj.blk
            have hOj := hOi.keptX hwj.kept (fun g hg h => by have := hobi g hg; have h' : g = wa.heap.size := h; omega)
            have hb4j : Below w4.heap.size w4 wj := hb4g.trans ((hbgi.mono (by omega)).trans (hwj.kept.below (by omega) (fun i h => by omega)))
            have hb6j : Below w6.heap.size w6 wj := hb6f.trans ((hbg.mono (by omega)).trans ((hbgi.mono (by omega)).trans (hwj.kept.below (by omega) (fun i h => by omega))))
            have hbwj : Below w.heap.size w wj := hbwg.trans ((hbgi.mono (by omega)).trans (hwj.kept.below (by omega) (fun i h => by omega)))
            have dGj : cellsAt wj ⟨wa.heap.size, 0, none⟩ 0 3 = some [.slice a1 cs.length k1, .slice ia ([(xp, xb, x1, x2)] ++ rs).length ic, .bool f.els] := Gj.cellsAt
            have A1j : All2 (ClsR (fun _ => False) wj) cs f.classes := A1.imp fun a c h => ClsR.mono (Kept.refl (fun _ => False) _) (fun _ h => h.elim) (fun _ h => h.elim) ⟨h.1, h.2.1, (h.2.2.below hb24).below hb4j⟩
            have hRj : ∀ a c, RulR (· < w1.heap.size) w2 a c → RulR (fun _ => False) wj a c := fun a c h => ⟨h.1, h.2.1, PatV.weak ((h.2.2.1.below hb24).below hb4j) (fun _ h => h.elim), PatV.weak ((h.2.2.2.below hb24).below hb4j) (fun _ h => h.elim)⟩
            have hVj : FileV (fun _ => False) wj (.agg #[.slice a1 cs.length k1, .slice ia ([(xp, xb, x1, x2)] ++ rs).length ic, .bool f.els]) (aheadF c0 f) :=
              ⟨_, _, cs, [(xp, xb, x1, x2)] ++ rs, rfl, ((S1.below hb24).below hb4j).weaken (fun _ h => h.elim), hOj.sl.weaken (fun _ h => h.elim), A1j, .cons (hRj _ _ hR0) (A2.imp hRj)⟩
            have hokj : FileOk (aheadF c0 f) := ⟨hpo.1.1, fun r hr => by
              rcases List.mem_cons.1 hr with rfl | hr
              · exact hpo.1.2 _ hcm0
              · exact hpo.1.2 r hr⟩
            have hppj : PnOk (aheadF c0 f) := fun r hr => by
              rcases List.mem_cons.1 hr with rfl | hr
              · exact hpp _ hcm0
              · exact hpp r hr
            have hchT : chkS (aheadF c0 f) = none := chk_ahead (r := c0) hchk (fun nm h => by rw [hfr] at h ⊢; exact rulesS_twice h)
            have hU6j := hU6.below hb6j
            refine ⟨trivial, ?_⟩
            simp -dsimp only [push_cast, Nat.reduceAdd, Nat.reduceLeDiff, Nat.reduceBEq, Int.reduceNe, Int.reduceEq, Int.reduceLT, Int.reduceLE, dGj]
            refine callK_of (breaks_c (aheadF c0 f) hokj hppj (by show f.classes.length ≤ 1000000; omega) (by show f.rules.length + 1 ≤ 1000000; omega) (udec 0 t) (by omega) (fun _ => False) _ _ wj hVj (hU6j.sl.weaken (fun _ h => h.elim))) ?_
            rintro _ wk ⟨hBk, hbk⟩
            have zk := hbk.size
            unfold BrkR at hBk
            rw [hchT] at hBk
            obtain ⟨nmk, kv, hnmk, rfl, hKO⟩ := hBk
            have hnn : nmk = nm := by
              have h1 : namesS [] f.classes = .ok nmk := hnmk
              rw [hnm] at h1
              cases h1
              rfl
            subst hnn
            have hsame : breaksM (hasN nmk) (ptsU (udec 0 t)) (aheadF c0 f).rules (aheadF c0 f).els = L := by
              rw [hL]
              refine says_same fun i => ?_
              show saysM _ _ f.els i (c0 :: f.rules) = saysM _ _ f.els i f.rules
              rw [hfr]
              exact twice_says c0 rest f.els i
            rw [hsame] at hKO
            obtain ⟨ka, kc, rfl⟩ := hKO.slice
            simp -dsimp only [push_cast, Nat.reduceAdd, Nat.reduceLeDiff, Nat.reduceBEq, Int.reduceNe, Int.reduceEq, Int.reduceLT, Int.reduceLE]
            refine callK_of (equalN_c L L (by omega) _ _ _ _ wk hKO.sl ((hAO.below hb6j).below hbk).sl) ?_
            rintro _ wl ⟨rfl, hbl⟩
            simp -dsimp only [push_cast, Nat.reduceAdd, Nat.reduceLeDiff, Nat.reduceBEq, Int.reduceNe, Int.reduceEq, Int.reduceLT, Int.reduceLE]
            exact hbwj.trans ((hbk.mono (by omega)).trans (hbl.mono (by omega)))
          | true =>
            simp only [if_true] at hlb
            rw [hlb]
            simp -dsimp only [push_cast, Nat.reduceAdd, Nat.reduceLeDiff, Nat.reduceBEq, Int.reduceNe, Int.reduceEq, Int.reduceLT, Int.reduceLE, fg1]
            refine ⟨⟨by omega, by omega⟩, fun h0 => hbwg, fun hr0 => ?_⟩
            have hr0' : 0 < rs.length := by omega
            obtain ⟨x0, hx0, hxm0, _, _⟩ := lt_get (l := rs) (i := 0) hr0'
            obtain ⟨c0, hc0, hcm0, _, _⟩ := lt_get (l := f.rules) (i := 0) (by omega)
            have hfr : ∃ rest, f.rules = c0 :: rest := by
              cases hr : f.rules with
              | nil => rw [hr] at hc0; cases hc0
              | cons r l => rw [hr] at hc0; cases hc0; exact ⟨l, rfl⟩
            obtain ⟨rest, hfr⟩ := hfr
            obtain ⟨x0', hx0', hR0⟩ := all2_nth A2 hc0
            obtain rfl : x0' = x0 := by rw [hx0] at hx0'; exact (Option.some.inj hx0').symm
            have S2g := (S2.below hb24).below hb4g
            obtain ⟨b1, o, rfl, hnb, hcell⟩ := S2g.get hx0
            obtain ⟨xp, xb, x1, x2⟩ := x0'
            have hcell' : ∀ (j : Nat) (u : Value), [Value.int .i64 xp, .bool xb, .pointer (some ⟨x1, 0, none⟩), .pointer (some ⟨x2, 0, none⟩)][j]? = some u → wg.drew.cell? ⟨b1, o + j, none⟩ = some u := fun j u hu => by
              have := hcell j u (by simpa [encRu, ptrP] using hu)
              rw [Nat.zero_mul, Nat.add_zero] at this
              exact this
            have hb1l : b1 < wg.heap.size := World.block_lt_of_cell? wg.drew _ (hcell' 0 _ rfl)
            refine wpL_lastN (fun w' => Blk w' w2.heap.size 26 [.slice a1 cs.length k1, .slice (some ⟨b1, o, none⟩) rs.length k2, .bool f.els] ∧ ∀ (j : Nat) (u : Value), [Value.int .i64 xp, .bool xb, .pointer (some ⟨x1, 0, none⟩), .pointer (some ⟨x2, 0, none⟩)][j]? = some u → w'.cell? ⟨b1, o + j, none⟩ = some u) mixed (by kernel_rfl) (by simp) ⟨Fg.drew, hcell'⟩ ?_
            have hc4 : ∀ w', (∀ (j : Nat) (u : Value), [Value.int .i64 xp, .bool xb, .pointer (some ⟨x1, 0, none⟩), .pointer (some ⟨x2, 0, none⟩)][j]? = some u → w'.cell? ⟨b1, o + j, none⟩ = some u) → cellsAt w' ⟨b1, o, none⟩ 0 4 = some [.int .i64 xp, .bool xb, .pointer (some ⟨x1, 0, none⟩), .pointer (some ⟨x2, 0, none⟩)] := fun w' h => cellsAt_of [Value.int .i64 xp, .bool xb, .pointer (some ⟨x1, 0, none⟩), .pointer (some ⟨x2, 0, none⟩)] 0 (fun j u hu => by simpa using h j u hu)
            have c4 : cellsAt wg.drew ⟨b1, o + 0 * 4, none⟩ 0 4 = some [.int .i64 xp, .bool xb, .pointer (some ⟨x1, 0, none⟩), .pointer (some ⟨x2, 0, none⟩)] := hc4 _ hcell'
            have fgd : wg.drew.cell? ⟨w2.heap.size, 1, none⟩ = some (.slice (some ⟨b1, o, none⟩) rs.length k2) := fg1
            simp -dsimp only [push_cast, Nat.reduceAdd, Nat.reduceLeDiff, Nat.reduceBEq, Int.reduceNe, Int.reduceEq, Int.reduceLT, Int.reduceLE, fgd, c4]
            refine ⟨fun w'' h => by rw [h.1.cell (o := 1) rfl]; exact rfl, by omega, fun w'' h => by have e : cellsAt w'' ⟨b1, o + 0 * 4, none⟩ 0 4 = some _ := hc4 w'' h.2; rw [e]; exact rfl, ?_⟩
            refine rowK elI_24 rfl rfl (by omega) ?_
            intro wh hwh
            have zh : wh.heap.size = wg.heap.size + 1 := hwh.size
            have hbd := below_drew wg
            have hbgh : Below wg.heap.size wg wh := hbd.trans (hwh.below.mono (Nat.le_refl _))
            have Fh := Fg.below hbgh (by omega)
            have hch : ∀ (j : Nat) (u : Value), [Value.int .i64 xp, .bool xb, .pointer (some ⟨x1, 0, none⟩), .pointer (some ⟨x2, 0, none⟩)][j]? = some u → wh.cell? ⟨b1, o + j, none⟩ = some u := fun j u hu => (hwh.below.cell (p := ⟨b1, o + j, none⟩) hb1l).trans (hcell' j u hu)
            refine ⟨⟨Fh, hch⟩, ?_⟩
            have hOh : Vc.Own wg.heap.size 42 4 encRu wh (.slice (some ⟨wg.drew.heap.size, 0, none⟩) 1 1) [(xp, xb, x1, x2)] := hwh.own (by rfl) rfl (fun _ => rfl) (by show wg.heap.size ≤ wg.heap.size; omega) (by omega)
            have fh1 : wh.cell? ⟨w2.heap.size, 1, none⟩ = some (.slice (some ⟨b1, o, none⟩) rs.length k2) := Fh.cell rfl
            have S2h := S2g.below hbgh
            simp -dsimp only [push_cast, Nat.reduceAdd, Nat.reduceLeDiff, Nat.reduceBEq, Int.reduceNe, Int.reduceEq, Int.reduceLT, Int.reduceLE, fh1]
            refine ⟨fun w'' h => by rw [h.1.cell (o := 1) rfl]; exact rfl, ?_⟩
            refine appendRow (base := wg.heap.size) (enc := encRu) (ys := rs) elI_24 hOh S2h encRu_one (by simp only [List.length_cons, List.length_nil]; omega) (by omega) ?_
            intro vi wi hOi hgi hbi hni
            have zi := hbi.size
            have hkhi : Kept (fun j => wg.heap.size = j) wh wi := Kept.grown hgi (fun j h => by cases h; rfl)
            have hobi := hOi.block
            obtain ⟨ia, ic, rfl⟩ := hOi.slice
            have Fi := Fh.kept hkhi (fun h => by omega)
            have hci : ∀ (j : Nat) (u : Value), [Value.int .i64 xp, .bool xb, .pointer (some ⟨x1, 0, none⟩), .pointer (some ⟨x2, 0, none⟩)][j]? = some u → wi.cell? ⟨b1, o + j, none⟩ = some u := fun j u hu => hkhi.cell (hch j u hu) (fun h => by have h' : wg.heap.size = b1 := h; omega)
            refine ⟨⟨Fi, hci⟩, ?_⟩
            have hbgi : Below wg.heap.size wg wi := hbgh.trans (hkhi.below (by omega) (fun i h => by omega))
            have Gi := Gg.below hbgi (by omega)
            simp -dsimp only [push_cast, Nat.reduceAdd, Nat.reduceLeDiff, Nat.reduceBEq, Int.reduceNe, Int.reduceEq, Int.reduceLT, Int.reduceLE]
            refine storeK_of Gi (by simp) rfl ?_
            intro wj hwj
            have zj := hwj.size
            have Gj : Blk wj wa.heap.size 26 [.slice a1 cs.length k1, .slice ia ([(xp, xb, x1, x2)] ++ rs).length ic, .bool f.els] := hwj.blk
            have hOj := hOi.keptX hwj.kept (fun g hg h => by have := hobi g hg; have h' : g = wa.heap.size := h; omega)
            have hb4j : Below w4.heap.size w4 wj := hb4g.trans ((hbgi.mono (by omega)).trans (hwj.kept.below (by omega) (fun i h => by omega)))
            have hb6j : Below w6.heap.size w6 wj := hb6f.trans ((hbg.mono (by omega)).trans ((hbgi.mono (by omega)).trans (hwj.kept.below (by omega) (fun i h => by omega))))
            have hbwj : Below w.heap.size w wj := hbwg.trans ((hbgi.mono (by omega)).trans (hwj.kept.below (by omega) (fun i h => by omega)))
            have dGj : cellsAt wj ⟨wa.heap.size, 0, none⟩ 0 3 = some [.slice a1 cs.length k1, .slice ia ([(xp, xb, x1, x2)] ++ rs).length ic, .bool f.els] := Gj.cellsAt
            have A1j : All2 (ClsR (fun _ => False) wj) cs f.classes := A1.imp fun a c h => ClsR.mono (Kept.refl (fun _ => False) _) (fun _ h => h.elim) (fun _ h => h.elim) ⟨h.1, h.2.1, (h.2.2.below hb24).below hb4j⟩
            have hRj : ∀ a c, RulR (· < w1.heap.size) w2 a c → RulR (fun _ => False) wj a c := fun a c h => ⟨h.1, h.2.1, PatV.weak ((h.2.2.1.below hb24).below hb4j) (fun _ h => h.elim), PatV.weak ((h.2.2.2.below hb24).below hb4j) (fun _ h => h.elim)⟩
            have hVj : FileV (fun _ => False) wj (.agg #[.slice a1 cs.length k1, .slice ia ([(xp, xb, x1, x2)] ++ rs).length ic, .bool f.els]) (aheadF c0 f) :=
              ⟨_, _, cs, [(xp, xb, x1, x2)] ++ rs, rfl, ((S1.below hb24).below hb4j).weaken (fun _ h => h.elim), hOj.sl.weaken (fun _ h => h.elim), A1j, .cons (hRj _ _ hR0) (A2.imp hRj)⟩
            have hokj : FileOk (aheadF c0 f) := ⟨hpo.1.1, fun r hr => by
              rcases List.mem_cons.1 hr with rfl | hr
              · exact hpo.1.2 _ hcm0
              · exact hpo.1.2 r hr⟩
            have hppj : PnOk (aheadF c0 f) := fun r hr => by
              rcases List.mem_cons.1 hr with rfl | hr
              · exact hpp _ hcm0
              · exact hpp r hr
            have hchT : chkS (aheadF c0 f) = none := chk_ahead (r := c0) hchk (fun nm h => by rw [hfr] at h ⊢; exact rulesS_twice h)
            have hU6j := hU6.below hb6j
            refine ⟨trivial, ?_⟩
            simp -dsimp only [push_cast, Nat.reduceAdd, Nat.reduceLeDiff, Nat.reduceBEq, Int.reduceNe, Int.reduceEq, Int.reduceLT, Int.reduceLE, dGj]
            refine callK_of (breaks_c (aheadF c0 f) hokj hppj (by show f.classes.length ≤ 1000000; omega) (by show f.rules.length + 1 ≤ 1000000; omega) (udec 0 t) (by omega) (fun _ => False) _ _ wj hVj (hU6j.sl.weaken (fun _ h => h.elim))) ?_
            rintro _ wk ⟨hBk, hbk⟩
            have zk := hbk.size
            unfold BrkR at hBk
            rw [hchT] at hBk
            obtain ⟨nmk, kv, hnmk, rfl, hKO⟩ := hBk
            have hnn : nmk = nm := by
              have h1 : namesS [] f.classes = .ok nmk := hnmk
              rw [hnm] at h1
              cases h1
              rfl
            subst hnn
            have hsame : breaksM (hasN nmk) (ptsU (udec 0 t)) (aheadF c0 f).rules (aheadF c0 f).els = L := by
              rw [hL]
              refine says_same fun i => ?_
              show saysM _ _ f.els i (c0 :: f.rules) = saysM _ _ f.els i f.rules
              rw [hfr]
              exact twice_says c0 rest f.els i
            rw [hsame] at hKO
            obtain ⟨ka, kc, rfl⟩ := hKO.slice
            simp -dsimp only [push_cast, Nat.reduceAdd, Nat.reduceLeDiff, Nat.reduceBEq, Int.reduceNe, Int.reduceEq, Int.reduceLT, Int.reduceLE]
            refine callK_of (equalN_c L L (by omega) _ _ _ _ wk hKO.sl ((hAO.below hb6j).below hbk).sl) ?_
            rintro _ wl ⟨rfl, hbl⟩
            simp -dsimp only [push_cast, Nat.reduceAdd, Nat.reduceLeDiff, Nat.reduceBEq, Int.reduceNe, Int.reduceEq, Int.reduceLT, Int.reduceLE]
            exact hbwj.trans ((hbk.mono (by omega)).trans (hbl.mono (by omega)))
end Go.Proofs.YtgodgfeinjminaaGreatDoor
end
