/- Texts of this claim, merged: Mn8, Mn9, MnA, MnB, Pmean6, AsF, As, Tell, MnC, MnD, IdxI, MnE, MnF, RowM. -/
import Derived.Test.YtgodgfeinjminaaGreatDoorM10
import Derived.Test.YtgodgfeinjminaaGreatDoorM11
import Derived.Test.YtgodgfeinjminaaGreatDoorM5
import Derived.Test.YtgodgfeinjminaaGreatDoorM4
import Derived.Test.YtgodgfeinjminaaGreatDoorM1
import Derived.Test.YtgodgfeinjminaaGreatDoorM2
import Derived.Test.YtgodgfeinjminaaGreatDoorM3
import Derived.Test.YtgodgfeinjminaaGreatDoorTie
import Derived.WalkKit
import Derived.ProofKit
import Derived.Handy
import Derived.Lay
import Derived.OpenShut
import Derived.LaidMore
import Derived.Carry
import Derived.SevenTiedAt
import Derived.LaidHandle
import Derived.LaidSub
import Derived.LaidLaws
import Derived.Lib.LaidTab
import Derived.HandedShaped
import Derived.Shelf.Vars
section
namespace Go.Proofs.YtgodgfeinjminaaGreatDoor
open Go.Vc Go.Proofs Go.RowKit Cae
set_option maxRecDepth 100000
set_option linter.unusedSimpArgs false
set_option linter.unusedVariables false
attribute [local irreducible] wpL callK valK unitK runK Fun Sl Vc.Own vc vcOps opK pureK
set_option maxHeartbeats 8000000
/-- What is wrong with a file's names. -/
def chkS (f : FileP) : Option (Int × Nat) := match namesS [] f.classes with
  | .error e => some (errN e)
  | .ok nm => (rulesS nm f.rules).map fun e => ((7 : Int), e)
theorem rulesS_app {nm : NamesP} : ∀ (a b : List RuleP), rulesS nm (a ++ b) = match rulesS nm a with
    | some e => some e
    | none => rulesS nm b
  | [], b => by simp only [List.nil_append, rulesS]
  | x :: a, b => by
    simp only [List.cons_append, rulesS]
    cases ruleS nm x with
    | some e => rfl
    | none => exact rulesS_app a b
def PnOk (f : FileP) : Prop := ∀ r ∈ f.rules, wd r.before ≤ 100000 ∧ wd r.after ≤ 100000
theorem PatV.weak {X X' : Nat → Prop} {w : World} {x : PatP} {v : Value} (h : PatV X w v x) (hX : ∀ b, X' b → X b) : PatV X' w v x := h.mono (Kept.refl (fun _ => False) w) (fun _ h => h.elim) hX
theorem check_c (f : FileP) (hok : FileOk f) (hpn : PnOk f) (hlc : f.classes.length ≤ 1000000) (hlr : f.rules.length ≤ 1000000) (X : Nat → Prop) (v : Value) (w : World) (hv : FileV X w v f) :
    Fun Tryz.prog 17 [v] w fun r w' => ErrAt w.heap.size (chkS f) r w' ∧ Below w.heap.size w w' := by
  have hv0 := hv
  obtain ⟨cv, rv, cs, rs, rfl, hcs, hrs, hC, hR⟩ := hv
  have hrl := All2.len hR
  obtain ⟨ca, cc, rfl, hcc⟩ := hcs.shape
  obtain ⟨ra, rc, rfl, hrc⟩ := hrs.shape
  refine fun_of_vc Tryz.func17 rfl (by kernel_rfl) [2] rfl ?_
  simp -dsimp (maxSteps := 4000000) only [push_cast, fr0, Tryz.ntmps17, List.length_cons, List.length_nil, Nat.reduceAdd, Nat.reduceSub, Nat.reduceBEq, List.replicate_succ, List.replicate_zero]
  refine boxK_of ?_
  intro w1 hw1
  have hw1 : New w w1 26 [.slice ca cs.length cc, .slice ra rs.length rc, .bool f.els] := hw1
  have z1 := hw1.size
  have d0 : cellsAt w1 ⟨w.heap.size, 0, none⟩ 0 3 = some [.slice ca cs.length cc, .slice ra rs.length rc, .bool f.els] := hw1.blk.cellsAt
  have hv1 : FileV X w1 (.agg #[.slice ca cs.length cc, .slice ra rs.length rc, .bool f.els]) f := hv0.below hw1.below
  simp -dsimp only [push_cast, Nat.reduceAdd, Nat.reduceLeDiff, Nat.reduceBEq, Int.reduceNe, Int.reduceEq, Int.reduceLT, Int.reduceLE, d0]
  refine callK_of (names_c f hok.1 hlc X _ w1 hv1) ?_
  rintro r w2 ⟨hN, hb2⟩
  have z2 := hb2.size
  have hbw2 := hw1.below.trans (hb2.mono (by omega))
  have B2 := hw1.blk.below hb2 (by omega)
  unfold NamesRes at hN
  cases hnm : namesS [] f.classes with
  | error e =>
    rw [hnm] at hN
    obtain ⟨ev, rfl, hE⟩ := hN
    obtain ⟨eb, heb, rfl, hEB⟩ := hE
    simp -dsimp only [push_cast, Nat.reduceAdd, Nat.reduceLeDiff, Nat.reduceBEq, Int.reduceNe, Int.reduceEq, Int.reduceLT, Int.reduceLE]
    refine ⟨?_, hbw2⟩
    unfold chkS
    rw [hnm]
    exact ⟨eb, by omega, rfl, hEB⟩
  | ok nm =>
    rw [hnm] at hN
    obtain ⟨mb, hmb, rfl, hNV, hRN⟩ := hN
    have d1 : w2.cell? ⟨w.heap.size, 1, none⟩ = some (.slice ra rs.length rc) := B2.cell rfl
    simp -dsimp only [push_cast, Nat.reduceAdd, Nat.reduceLeDiff, Nat.reduceBEq, Int.reduceNe, Int.reduceEq, Int.reduceLT, Int.reduceLE, d1]
    refine wpL_loop [2, 6, 7, 8, 20, 21, 22, 23, 24, 25, 26, 27, 28, 29, 30, 31, 32, 33, 34, 35, 36, 37, 38] (fun z wx => ∃ (i : Nat), z 20 = .int .i64 i ∧ i ≤ f.rules.length ∧ rulesS nm (f.rules.take i) = none ∧ Below w2.heap.size w2 wx) (fun z _ => f.rules.length - (intOf (z 20)).toNat) ?_ ?_
    · exact ⟨0, rfl, Nat.zero_le _, by simp [rulesS], Below.refl _ _⟩
    · intro z wx hI
      obtain ⟨i, h20, hi, hno, hbx2⟩ := hI
      have zx := hbx2.size
      have hbx := hbw2.trans (hbx2.mono (by omega))
      simp -dsimp only [push_cast, Nat.reduceAdd, Nat.reduceLeDiff, Nat.reduceBEq, Int.reduceNe, Int.reduceEq, Int.reduceLT, Int.reduceLE, h20]
      refine ⟨fun hlt => ?_, fun hge => ?_⟩
      · obtain ⟨c, hc, hcm, _, ht⟩ := lt_get (l := f.rules) (i := i) (by omega)
        obtain ⟨x, hx, hxp, hxb, hx1, hx2⟩ := all2_nth hR hc
        obtain ⟨xp, xb, x1, x2⟩ := x
        simp only at hxp hxb hx1 hx2
        subst hxp; subst hxb
        obtain ⟨b1, o, rfl, hnb, hcell⟩ := (hrs.below hbx).get hx
        have c4 : cellsAt wx ⟨b1, o + i * 4, none⟩ 0 4 = some [.int .i64 c.pos, .bool c.brk, .pointer (some ⟨x1, 0, none⟩), .pointer (some ⟨x2, 0, none⟩)] := cellsAt_of _ 0 (fun j u hu => by simpa [encRu, ptrP] using hcell j u hu)
        simp -dsimp only [push_cast, Nat.reduceAdd, Nat.reduceLeDiff, Nat.reduceBEq, Int.reduceNe, Int.reduceEq, Int.reduceLT, Int.reduceLE, c4]
        refine ⟨⟨by omega, by omega⟩, ?_⟩
        refine allocK (z := [.int .i64 0, .bool false, .pointer none, .pointer none]) (by kernel_rfl) ?_
        intro wa hwa
        have za := hwa.size
        simp -dsimp only [push_cast, Nat.reduceAdd, Nat.reduceLeDiff, Nat.reduceBEq, Int.reduceNe, Int.reduceEq, Int.reduceLT, Int.reduceLE]
        refine storeAgg (n := 4) (by kernel_rfl) hwa.blk rfl (by simp) (by simp [Value.oneCell']) ?_
        intro wb hwb
        have zb := hwb.size
        have hbb : Below wx.heap.size wx wb := hwa.below.trans (hwb.kept.below (by omega) (fun i h => by omega))
        have hb2b := hbx2.trans (hbb.mono (by omega))
        have hbwb := hbx.trans (hbb.mono (by omega))
        have Rb : Blk wb wx.heap.size 42 [.int .i64 c.pos, .bool c.brk, .pointer (some ⟨x1, 0, none⟩), .pointer (some ⟨x2, 0, none⟩)] := hwb.blk
        have e2 : wb.cell? ⟨wx.heap.size, 2, none⟩ = some (.pointer (some ⟨x1, 0, none⟩)) := Rb.cell rfl
        have hP1 : PatV (fun b => X b ∧ b < w1.heap.size) wb (ptrP x1) c.before := PatV.weak (PatV.below hx1 hbwb) (fun b h => h.1)
        simp -dsimp only [push_cast, Nat.reduceAdd, Nat.reduceLeDiff, Nat.reduceBEq, Int.reduceNe, Int.reduceEq, Int.reduceLT, Int.reduceLE, e2]
        refine callK_of (chk_c c.before (hok.2 c hcm).1 (by have := (hpn c hcm).1; omega) nm hRN _ _ mb wb hP1 (hNV.below hb2b)) ?_
        rintro r3 w3 ⟨hE3, hb3⟩
        have z3 := hb3.size
        have hb23 := hb2b.trans (hb3.mono (by omega))
        have hbw3 := hbwb.trans (hb3.mono (by omega))
        have Rc := Rb.below hb3 Rb.lt
        have e3 : w3.cell? ⟨wx.heap.size, 3, none⟩ = some (.pointer (some ⟨x2, 0, none⟩)) := Rc.cell rfl
        have hsp : f.rules = f.rules.take (i + 1) ++ f.rules.drop (i + 1) := (List.take_append_drop _ _).symm
        unfold PatE at hE3
        cases hp1 : patS nm c.before with
        | some e =>
          rw [hp1] at hE3
          obtain ⟨eb, heb, rfl, hEB⟩ := hE3
          simp -dsimp only [push_cast, Nat.reduceAdd, Nat.reduceLeDiff, Nat.reduceBEq, Int.reduceNe, Int.reduceEq, Int.reduceLT, Int.reduceLE]
          refine ⟨?_, hbw3⟩
          have hall : rulesS nm f.rules = some e := by
            rw [hsp, rulesS_app, ht, rulesS_app, hno]
            simp only [rulesS, ruleS, hp1]
          unfold chkS
          rw [hnm]
          dsimp only
          rw [hall]
          exact ⟨eb, by omega, rfl, hEB⟩
        | none =>
          rw [hp1] at hE3
          have hE3 : r3 = .nilIface := hE3
          subst hE3
          have hP2 : PatV (fun b => X b ∧ b < w1.heap.size) w3 (ptrP x2) c.after := PatV.weak (PatV.below hx2 hbw3) (fun b h => h.1)
          simp -dsimp only [push_cast, Nat.reduceAdd, Nat.reduceLeDiff, Nat.reduceBEq, Int.reduceNe, Int.reduceEq, Int.reduceLT, Int.reduceLE, e3]
          refine callK_of (chk_c c.after (hok.2 c hcm).2 (by have := (hpn c hcm).2; omega) nm hRN _ _ mb w3 hP2 (hNV.below hb23)) ?_
          rintro r4 w4 ⟨hE4, hb4⟩
          have z4 := hb4.size
          have hbw4 := hbw3.trans (hb4.mono (by omega))
          unfold PatE at hE4
          cases hp2 : patS nm c.after with
          | some e =>
            rw [hp2] at hE4
            obtain ⟨eb, heb, rfl, hEB⟩ := hE4
            simp -dsimp only [push_cast, Nat.reduceAdd, Nat.reduceLeDiff, Nat.reduceBEq, Int.reduceNe, Int.reduceEq, Int.reduceLT, Int.reduceLE]
            refine ⟨?_, hbw4⟩
            have hall : rulesS nm f.rules = some e := by
              rw [hsp, rulesS_app, ht, rulesS_app, hno]
              simp only [rulesS, ruleS, hp1, hp2]
            unfold chkS
            rw [hnm]
            dsimp only
            rw [hall]
            exact ⟨eb, by omega, rfl, hEB⟩
          | none =>
            rw [hp2] at hE4
            have hE4 : r4 = .nilIface := hE4
            subst hE4
            simp -dsimp only [push_cast, Nat.reduceAdd, Nat.reduceLeDiff, Nat.reduceBEq, Int.reduceNe, Int.reduceEq, Int.reduceLT, Int.reduceLE]
            refine ⟨⟨by omega, by omega⟩, ⟨i + 1, rfl, by omega, ?_, hb23.trans (hb4.mono (by omega))⟩, by rw [h20]; simp only [intOf]; omega⟩
            rw [ht, rulesS_app, hno]
            simp only [rulesS, ruleS, hp1, hp2]
      · rw [List.take_of_length_le (by omega)] at hno
        refine ⟨?_, hbx⟩
        unfold chkS
        rw [hnm]
        dsimp only
        rw [hno]
        rfl
end Go.Proofs.YtgodgfeinjminaaGreatDoor
end
section
namespace Cae
section
variable {has : KindP → Int → Prop} {pts : List Int}
theorem saysM_skip {els : Bool} {i : Nat} : ∀ {a b : List RuleP}, (∀ r ∈ a, ¬ metM has pts r i) → saysM has pts els i (a ++ b) = saysM has pts els i b
  | [], _, _ => rfl
  | r :: a, b, h => by
    rw [List.cons_append, saysM, if_neg (h r (List.mem_cons_self ..))]
    exact saysM_skip fun x hx => h x (List.mem_cons_of_mem _ hx)
theorem saysM_at {els : Bool} {i k : Nat} {l : List RuleP} {r : RuleP} (hk : l[k]? = some r) (hr : metM has pts r i) (hno : ∀ x ∈ l.take k, ¬ metM has pts x i) : saysM has pts els i l = r.brk := by
  obtain ⟨hlt, he⟩ := List.getElem?_eq_some_iff.1 hk
  have e : l = l.take k ++ (r :: l.drop (k + 1)) := by
    rw [← he, ← List.drop_eq_getElem_cons hlt, List.take_append_drop]
  rw [e, saysM_skip hno, saysM, if_pos hr]
theorem saysM_none {els : Bool} {i : Nat} {l : List RuleP} (hno : ∀ x ∈ l, ¬ metM has pts x i) : saysM has pts els i l = els := by
  have := saysM_skip (els := els) (b := []) hno
  rw [List.append_nil] at this
  rw [this, saysM]
theorem standsM_img {x : PatP} {i : Nat} {back : Bool} (hi : i ≤ pts.length) : 0 < (imgM pts.length (Rch has pts back x) [i]).length ↔ standsM has pts x i back := by
  rw [List.length_pos_iff_exists_mem]
  constructor
  · rintro ⟨j, hj⟩
    obtain ⟨_, k, hk, h⟩ := imgM_mem.1 hj
    rw [List.mem_singleton] at hk
    subst hk
    exact ⟨j, h⟩
  · rintro ⟨j, h⟩
    exact ⟨j, imgM_mem.2 ⟨rch_le x hi h, i, List.mem_singleton.2 rfl, h⟩⟩
end
end Cae
namespace Go.Proofs.YtgodgfeinjminaaGreatDoor
open Go.Vc Go.Proofs Go.RowKit Cae
set_option maxRecDepth 100000
set_option linter.unusedSimpArgs false
set_option linter.unusedVariables false
attribute [local irreducible] wpL callK valK unitK runK Fun Sl Vc.Own vc vcOps opK pureK
set_option maxHeartbeats 8000000
theorem stands_c (x : PatP) (hok : PatOk x) (hpn : wd x ≤ 100000) (nm : NamesP) (hr : RightN nm) (us : List U) (hlen : us.length ≤ 1000) (i : Nat) (hi : i ≤ us.length) (back : Bool) (X : Nat → Prop) (v lv : Value) (mb : Nat) (w : World) (hV : PatV X w v x) (hN : NamV X w mb nm) (hU : Sl X 3 (En encU) w lv us) :
    Fun Tryz.prog 22 [v, .map (some mb), lv, .int .i64 i, .bool back] w fun r w' => (∃ b : Bool, r = .bool b ∧ (b = true ↔ standsM (hasN nm) (ptsU us) x i back)) ∧ Below w.heap.size w w' := by
  obtain ⟨la, lc, rfl, hlc⟩ := hU.shape
  refine fun_of_vc Tryz.func22 rfl (by kernel_rfl) [10] rfl ?_
  simp -dsimp (maxSteps := 4000000) only [push_cast, fr0, Tryz.ntmps22, List.length_cons, List.length_nil, Nat.reduceAdd, Nat.reduceSub, Nat.reduceBEq, List.replicate_succ, List.replicate_zero]
  refine ⟨fun _ => ⟨fun hgt => by omega, fun _ => ?_⟩, fun hneg => by omega⟩
  simp -dsimp only [push_cast, Nat.reduceAdd, Nat.reduceLeDiff, Nat.reduceBEq, Int.reduceNe, Int.reduceEq, Int.reduceLT, Int.reduceLE]
  refine boxK_of ?_
  intro w1 hw1
  have hw1 : New w w1 97 [.slice la us.length lc, .map (some mb), .bool back] := hw1
  have z1 := hw1.size
  simp -dsimp only [push_cast, Nat.reduceAdd, Nat.reduceLeDiff, Nat.reduceBEq, Int.reduceNe, Int.reduceEq, Int.reduceLT, Int.reduceLE]
  refine rowK elI_31 rfl rfl (by omega) ?_
  intro w2 hw2
  have z2 := hw2.size
  have hb12 := hw2.below
  have hbw2 := hw1.below.trans (hb12.mono (by omega))
  have hR : Mr X w2 w.heap.size mb us nm back := ⟨⟨_, hw1.blk.below hb12 (by omega), hU.below hbw2⟩, hN.below hbw2, hr, hlen⟩
  simp -dsimp only [push_cast, Nat.reduceAdd, Nat.reduceLeDiff, Nat.reduceBEq, Int.reduceNe, Int.reduceEq, Int.reduceLT, Int.reduceLE]
  have hO2 : Vc.Own w1.heap.size 3 1 encN w2 (.slice (some ⟨w1.heap.size, 0, none⟩) 1 1) [i] := hw2.own (by rfl) rfl (fun _ => rfl) (by omega) (by omega)
  refine callK_of (all_c x hok hpn _ w2 w.heap.size mb us nm back hR v (hV.below hbw2) _ [i] (hO2.sl.weaken (fun _ h => h.elim)) hO2.nilArg (by simp) (by simpa using hi)) ?_
  rintro r w3 ⟨hO, hb3⟩
  have z3 := hb3.size
  obtain ⟨oa, oc, rfl⟩ := hO.slice
  have hS := standsM_img (has := hasN nm) (x := x) (back := back) (show i ≤ (ptsU us).length by rw [ptsU_len]; exact hi)
  rw [ptsU_len] at hS
  simp -dsimp only [push_cast, Nat.reduceAdd, Nat.reduceLeDiff, Nat.reduceBEq, Int.reduceNe, Int.reduceEq, Int.reduceLT, Int.reduceLE]
  refine ⟨⟨_, rfl, ?_⟩, hbw2.trans (hb3.mono (by omega))⟩
  rw [← hS, decide_eq_true_iff]
  omega
/-- Do both patterns of a rule stand? -/
theorem metFn_c (c : RuleP) (hok : PatOk c.before ∧ PatOk c.after) (hpn : wd c.before ≤ 100000 ∧ wd c.after ≤ 100000) (nm : NamesP) (hr : RightN nm) (us : List U) (hlen : us.length ≤ 1000) (i : Nat) (hi : i ≤ us.length) (X : Nat → Prop) (x1 x2 : Nat) (lv : Value) (mb nb lb ib : Nat) (w : World)
    (h1 : PatV X w (ptrP x1) c.before) (h2 : PatV X w (ptrP x2) c.after) (hN : NamV X w mb nm) (hU : Sl X 3 (En encU) w lv us) (cn : w.cell? ⟨nb, 0, none⟩ = some (.map (some mb))) (cl : w.cell? ⟨lb, 0, none⟩ = some lv) (ci : w.cell? ⟨ib, 0, none⟩ = some (.int .i64 i)) :
    Fun Tryz.prog 21 [.agg #[.int .i64 c.pos, .bool c.brk, .pointer (some ⟨x1, 0, none⟩), .pointer (some ⟨x2, 0, none⟩)], .pointer (some ⟨nb, 0, none⟩), .pointer (some ⟨lb, 0, none⟩), .pointer (some ⟨ib, 0, none⟩)] w fun r w' => (∃ b : Bool, r = .bool b ∧ (b = true ↔ metM (hasN nm) (ptsU us) c i)) ∧ Below w.heap.size w w' := by
  refine fun_of_vc Tryz.func21 rfl (by kernel_rfl) [5] rfl ?_
  simp -dsimp (maxSteps := 4000000) only [push_cast, fr0, Tryz.ntmps21, List.length_cons, List.length_nil, Nat.reduceAdd, Nat.reduceSub, Nat.reduceBEq, List.replicate_succ, List.replicate_zero]
  refine boxK_of ?_
  intro w1 hw1
  have hw1 : New w w1 42 [.int .i64 c.pos, .bool c.brk, .pointer (some ⟨x1, 0, none⟩), .pointer (some ⟨x2, 0, none⟩)] := hw1
  have z1 := hw1.size
  have hb1 := hw1.below
  have R1 := hw1.blk
  have e2 : w1.cell? ⟨w.heap.size, 2, none⟩ = some (.pointer (some ⟨x1, 0, none⟩)) := R1.cell rfl
  have cn1 : w1.cell? ⟨nb, 0, none⟩ = some (.map (some mb)) := (hb1.cell (World.block_lt_of_cell? w _ cn)).trans cn
  have cl1 : w1.cell? ⟨lb, 0, none⟩ = some lv := (hb1.cell (World.block_lt_of_cell? w _ cl)).trans cl
  have ci1 : w1.cell? ⟨ib, 0, none⟩ = some (.int .i64 i) := (hb1.cell (World.block_lt_of_cell? w _ ci)).trans ci
  simp -dsimp only [push_cast, Nat.reduceAdd, Nat.reduceLeDiff, Nat.reduceBEq, Int.reduceNe, Int.reduceEq, Int.reduceLT, Int.reduceLE, e2, cn1, cl1, ci1]
  refine callK_of (stands_c c.before hok.1 hpn.1 nm hr us hlen i hi true X _ lv mb w1 (h1.below hb1) (hN.below hb1) (hU.below hb1)) ?_
  rintro _ w2 ⟨⟨b, rfl, hb⟩, hb2⟩
  have z2 := hb2.size
  have hbw2 := hb1.trans (hb2.mono (by omega))
  cases b with
  | false =>
    simp -dsimp only [push_cast, Nat.reduceAdd, Nat.reduceLeDiff, Nat.reduceBEq, Int.reduceNe, Int.reduceEq, Int.reduceLT, Int.reduceLE]
    refine ⟨⟨false, rfl, ?_⟩, hbw2⟩
    constructor
    · intro h; cases h
    · intro h; have := hb.2 h.1; cases this
  | true =>
    have e3 : w2.cell? ⟨w.heap.size, 3, none⟩ = some (.pointer (some ⟨x2, 0, none⟩)) := (R1.below hb2 (by omega)).cell rfl
    have cn2 : w2.cell? ⟨nb, 0, none⟩ = some (.map (some mb)) := (hb2.cell (World.block_lt_of_cell? w1 _ cn1)).trans cn1
    have cl2 : w2.cell? ⟨lb, 0, none⟩ = some lv := (hb2.cell (World.block_lt_of_cell? w1 _ cl1)).trans cl1
    have ci2 : w2.cell? ⟨ib, 0, none⟩ = some (.int .i64 i) := (hb2.cell (World.block_lt_of_cell? w1 _ ci1)).trans ci1
    simp -dsimp only [push_cast, Nat.reduceAdd, Nat.reduceLeDiff, Nat.reduceBEq, Int.reduceNe, Int.reduceEq, Int.reduceLT, Int.reduceLE, e3, cn2, cl2, ci2]
    refine callK_of (stands_c c.after hok.2 hpn.2 nm hr us hlen i hi false X _ lv mb w2 (h2.below hbw2) (hN.below hbw2) (hU.below hbw2)) ?_
    rintro _ w3 ⟨⟨b', rfl, hb'⟩, hb3⟩
    simp -dsimp only [push_cast, Nat.reduceAdd, Nat.reduceLeDiff, Nat.reduceBEq, Int.reduceNe, Int.reduceEq, Int.reduceLT, Int.reduceLE]
    refine ⟨⟨_, rfl, ?_⟩, hbw2.trans (hb3.mono (by omega))⟩
    rw [hb']
    exact ⟨fun h => ⟨hb.1 rfl, h⟩, fun h => h.2⟩
/-- The first rule that is met. -/
theorem ruleIdx_c (l : List RuleP) (hl : l.length ≤ 1000000) (hok : ∀ c ∈ l, PatOk c.before ∧ PatOk c.after) (hpn : ∀ c ∈ l, wd c.before ≤ 100000 ∧ wd c.after ≤ 100000) (nm : NamesP) (hr : RightN nm) (us : List U) (hlen : us.length ≤ 1000) (i : Nat) (hi : i ≤ us.length) (X : Nat → Prop) (rv lv : Value) (rs : List (Nat × Bool × Nat × Nat)) (mb nb lb ib : Nat) (w : World)
    (hrs : Sl X 4 (En encRu) w rv rs) (hR : All2 (RulR X w) rs l) (hN : NamV X w mb nm) (hU : Sl X 3 (En encU) w lv us) (cn : w.cell? ⟨nb, 0, none⟩ = some (.map (some mb))) (cl : w.cell? ⟨lb, 0, none⟩ = some lv) (ci : w.cell? ⟨ib, 0, none⟩ = some (.int .i64 i)) :
    Fun Tryz.prog 20 [rv, .func (.func 21) #[] #[.pointer (some ⟨nb, 0, none⟩), .pointer (some ⟨lb, 0, none⟩), .pointer (some ⟨ib, 0, none⟩)]] w fun r w' =>
      ((∃ (k : Nat) (c : RuleP), r = .int .i64 k ∧ l[k]? = some c ∧ metM (hasN nm) (ptsU us) c i ∧ ∀ d ∈ l.take k, ¬ metM (hasN nm) (ptsU us) d i) ∨ (r = .int .i64 (-1) ∧ ∀ d ∈ l, ¬ metM (hasN nm) (ptsU us) d i)) ∧ Below w.heap.size w w' := by
  have hrl := All2.len hR
  obtain ⟨ra, rc, rfl, hrc⟩ := hrs.shape
  refine fun_of_vc Tryz.func20 rfl (by kernel_rfl) [4] rfl ?_
  simp -dsimp (maxSteps := 4000000) only [push_cast, fr0, Tryz.ntmps20, List.length_cons, List.length_nil, Nat.reduceAdd, Nat.reduceSub, Nat.reduceBEq, List.replicate_succ, List.replicate_zero]
  refine wpL_loop [4, 5, 8, 9, 10, 11, 12, 13, 14, 15, 16, 17, 18] (fun z wx => ∃ (k : Nat), z 8 = .int .i64 k ∧ k ≤ l.length ∧ (∀ d ∈ l.take k, ¬ metM (hasN nm) (ptsU us) d i) ∧ Below w.heap.size w wx) (fun z _ => l.length - (intOf (z 8)).toNat) ?_ ?_
  · exact ⟨0, rfl, Nat.zero_le _, by simp, Below.refl _ _⟩
  · intro z wx hI
    obtain ⟨k, h8, hk, hno, hbx⟩ := hI
    have zx := hbx.size
    simp -dsimp only [push_cast, Nat.reduceAdd, Nat.reduceLeDiff, Nat.reduceBEq, Int.reduceNe, Int.reduceEq, Int.reduceLT, Int.reduceLE, h8]
    refine ⟨fun hlt => ?_, fun hge => ?_⟩
    · obtain ⟨c, hc, hcm, _, ht⟩ := lt_get (l := l) (i := k) (by omega)
      obtain ⟨x, hx, hxp, hxb, hx1, hx2⟩ := all2_nth hR hc
      obtain ⟨xp, xb, x1, x2⟩ := x
      simp only at hxp hxb hx1 hx2
      subst hxp; subst hxb
      obtain ⟨b1, o, rfl, hnb, hcell⟩ := (hrs.below hbx).get hx
      have c4 : cellsAt wx ⟨b1, o + k * 4, none⟩ 0 4 = some [.int .i64 c.pos, .bool c.brk, .pointer (some ⟨x1, 0, none⟩), .pointer (some ⟨x2, 0, none⟩)] := cellsAt_of _ 0 (fun j u hu => by simpa [encRu, ptrP] using hcell j u hu)
      simp -dsimp only [push_cast, Nat.reduceAdd, Nat.reduceLeDiff, Nat.reduceBEq, Int.reduceNe, Int.reduceEq, Int.reduceLT, Int.reduceLE, c4]
      refine ⟨⟨by omega, by omega⟩, ?_⟩
      refine callK_of (metFn_c c (hok c hcm) (hpn c hcm) nm hr us hlen i hi X x1 x2 lv mb nb lb ib wx (hx1.below hbx) (hx2.below hbx) (hN.below hbx) (hU.below hbx) ((hbx.cell (World.block_lt_of_cell? w _ cn)).trans cn) ((hbx.cell (World.block_lt_of_cell? w _ cl)).trans cl) ((hbx.cell (World.block_lt_of_cell? w _ ci)).trans ci)) ?_
      rintro _ w1 ⟨⟨b, rfl, hb⟩, hb1⟩
      have hB1 := hbx.trans (hb1.mono zx)
      cases b with
      | true =>
        simp -dsimp only [push_cast, Nat.reduceAdd, Nat.reduceLeDiff, Nat.reduceBEq, Int.reduceNe, Int.reduceEq, Int.reduceLT, Int.reduceLE]
        exact ⟨.inl ⟨k, c, rfl, hc, hb.1 rfl, hno⟩, hB1⟩
      | false =>
        simp -dsimp only [push_cast, Nat.reduceAdd, Nat.reduceLeDiff, Nat.reduceBEq, Int.reduceNe, Int.reduceEq, Int.reduceLT, Int.reduceLE]
        refine ⟨⟨by omega, by omega⟩, ⟨k + 1, rfl, by omega, ?_, hB1⟩, by rw [h8]; simp only [intOf]; omega⟩
        intro y hy
        rw [ht, List.mem_append, List.mem_singleton] at hy
        rcases hy with hy | rfl
        · exact hno y hy
        · intro h; have := hb.2 h; cases this
    · rw [List.take_of_length_le (by omega)] at hno
      exact ⟨.inr hno, hbx⟩
end Go.Proofs.YtgodgfeinjminaaGreatDoor
end
section
namespace Go.Proofs.YtgodgfeinjminaaGreatDoor
open Go.Vc Go.Proofs Go.RowKit Cae
set_option maxRecDepth 100000
set_option linter.unusedSimpArgs false
set_option linter.unusedVariables false
attribute [local irreducible] wpL callK valK unitK runK Fun Sl Vc.Own vc vcOps opK pureK
set_option maxHeartbeats 8000000
/-- What Breaks answers. -/
def BrkR (B : Nat) (f : FileP) (us : List U) (r : Value) (w : World) : Prop := match chkS f with
  | some e => ∃ v, r = .tuple #[.slice none 0 0, v] ∧ ErrAt B (some e) v w
  | none => ∃ nm v, namesS [] f.classes = .ok nm ∧ r = .tuple #[v, .nilIface] ∧ Vc.Own B 3 1 encN w v (breaksM (hasN nm) (ptsU us) f.rules f.els)
noncomputable def upTo (nm : NamesP) (us : List U) (rules : List RuleP) (els : Bool) (i : Nat) : List Nat := (List.range i).filter (isM (hasN nm) (ptsU us) rules els)
theorem upTo_succ (nm : NamesP) (us : List U) (rules : List RuleP) (els : Bool) (i : Nat) : upTo nm us rules els (i + 1) = upTo nm us rules els i ++ if isM (hasN nm) (ptsU us) rules els i then [i] else [] := by
  unfold upTo
  rw [List.range_succ, List.filter_append]
  congr 1
  by_cases h : isM (hasN nm) (ptsU us) rules els i = true
  · rw [if_pos h, List.filter_cons_of_pos h, List.filter_nil]
  · rw [if_neg h, List.filter_cons_of_neg h, List.filter_nil]
theorem upTo_len (nm : NamesP) (us : List U) (rules : List RuleP) (els : Bool) (i : Nat) : (upTo nm us rules els i).length ≤ i := by
  have := List.length_filter_le (isM (hasN nm) (ptsU us) rules els) (List.range i)
  rw [List.length_range] at this
  exact this
theorem NamV.weak {X X' : Nat → Prop} {w : World} {b : Nat} {nm : NamesP} (h : NamV X w b nm) (hX : ∀ b, X' b → X b) : NamV X' w b nm := by
  obtain ⟨kvs, h2, h3⟩ := h
  exact ⟨kvs, h2, h3.imp fun a b h => ⟨h.1, h.2.1.weaken hX, h.2.2⟩⟩
/-- What a counter's cell holds. -/
def cntOf (v : Value) (w : World) : Nat := match v with
  | .pointer (some a) => match w.cell? a with
    | some (.int _ n) => n.toNat
    | _ => 0
  | _ => 0
theorem cntOf_is {v : Value} {w : World} {a : Addr} {i : Nat} {k : IntKind} (h : v = .pointer (some a)) (hc : w.cell? a = some (.int k i)) : cntOf v w = i := by
  subst h
  simp only [cntOf, hc, Int.toNat_natCast]
theorem chkS_names {f : FileP} (h : chkS f = none) : ∃ nm, namesS [] f.classes = .ok nm := by
  unfold chkS at h
  cases hn : namesS [] f.classes with
  | ok nm => exact ⟨nm, rfl⟩
  | error e => rw [hn] at h; cases h
theorem breaks_c (f : FileP) (hok : FileOk f) (hpn : PnOk f) (hlc : f.classes.length ≤ 1000000) (hlr : f.rules.length ≤ 1000000) (us : List U) (hlen : us.length ≤ 1000) (X : Nat → Prop) (v lv : Value) (w : World) (hv : FileV X w v f) (hU : Sl X 3 (En encU) w lv us) :
    Fun Tryz.prog 9 [v, lv] w fun r w' => BrkR w.heap.size f us r w' ∧ Below w.heap.size w w' := by
  have hv0 := hv
  obtain ⟨cv, rv, cs, rs, rfl, hcs, hrs, hC, hR⟩ := hv
  obtain ⟨ca, cc, rfl, hcc⟩ := hcs.shape
  obtain ⟨ra, rc, rfl, hrc⟩ := hrs.shape
  obtain ⟨la, lc, rfl, hlc'⟩ := hU.shape
  have hrl := All2.len hR
  refine fun_of_vc Tryz.func9 rfl (by kernel_rfl) [4, 5] rfl ?_
  simp -dsimp (maxSteps := 4000000) only [push_cast, fr0, Tryz.ntmps9, List.length_cons, List.length_nil, Nat.reduceAdd, Nat.reduceSub, Nat.reduceBEq, List.replicate_succ, List.replicate_zero]
  refine boxK_of ?_
  intro w1 hw1
  have hw1 : New w w1 26 [.slice ca cs.length cc, .slice ra rs.length rc, .bool f.els] := hw1
  have z1 := hw1.size
  simp -dsimp only [push_cast, Nat.reduceAdd, Nat.reduceLeDiff, Nat.reduceBEq, Int.reduceNe, Int.reduceEq, Int.reduceLT, Int.reduceLE]
  refine boxK_of ?_
  intro w2 hw2
  have hw2 : New w1 w2 29 [.slice la us.length lc] := hw2
  have z2 := hw2.size
  have hbw2 := hw1.below.trans (hw2.below.mono (by omega))
  have B2 := hw1.blk.below hw2.below (by omega)
  have d0 : cellsAt w2 ⟨w.heap.size, 0, none⟩ 0 3 = some [.slice ca cs.length cc, .slice ra rs.length rc, .bool f.els] := B2.cellsAt
  simp -dsimp only [push_cast, Nat.reduceAdd, Nat.reduceLeDiff, Nat.reduceBEq, Int.reduceNe, Int.reduceEq, Int.reduceLT, Int.reduceLE, d0]
  refine callK_of (check_c f hok hpn hlc hlr X _ w2 (hv0.below hbw2)) ?_
  rintro r w3 ⟨hE, hb3⟩
  have z3 := hb3.size
  have hbw3 := hbw2.trans (hb3.mono (by omega))
  cases hchk : chkS f with
  | some e =>
    rw [hchk] at hE
    have hE0 := hE
    obtain ⟨c, e⟩ := e
    obtain ⟨eb, heb, rfl, hEB⟩ := hE
    simp -dsimp only [push_cast, Nat.reduceAdd, Nat.reduceLeDiff, Nat.reduceBEq, Int.reduceNe, Int.reduceEq, Int.reduceLT, Int.reduceLE]
    refine ⟨?_, hbw3⟩
    unfold BrkR
    rw [hchk]
    exact ⟨_, rfl, hE0.mono (by omega)⟩
  | none =>
    rw [hchk] at hE
    have hE : r = .nilIface := hE
    subst hE
    have hnm := chkS_names hchk
    obtain ⟨nm, hnm⟩ := hnm
    have B3 := B2.below hb3 (by omega)
    have d3 : cellsAt w3 ⟨w.heap.size, 0, none⟩ 0 3 = some [.slice ca cs.length cc, .slice ra rs.length rc, .bool f.els] := B3.cellsAt
    simp -dsimp only [push_cast, Nat.reduceAdd, Nat.reduceLeDiff, Nat.reduceBEq, Int.reduceNe, Int.reduceEq, Int.reduceLT, Int.reduceLE, d3]
    refine callK_of (names_c f hok.1 hlc X _ w3 (hv0.below hbw3)) ?_
    rintro r w4 ⟨hN, hb4⟩
    have z4 := hb4.size
    have hbw4 := hbw3.trans (hb4.mono (by omega))
    unfold NamesRes at hN
    rw [hnm] at hN
    obtain ⟨mb, hmb, rfl, hNV, hRN⟩ := hN
    simp -dsimp only [push_cast, Nat.reduceAdd, Nat.reduceLeDiff, Nat.reduceBEq, Int.reduceNe, Int.reduceEq, Int.reduceLT, Int.reduceLE]
    refine allocK (z := [.map none]) (by kernel_rfl) ?_
    intro w5 hw5
    have z5 := hw5.size
    simp -dsimp only [push_cast, Nat.reduceAdd, Nat.reduceLeDiff, Nat.reduceBEq, Int.reduceNe, Int.reduceEq, Int.reduceLT, Int.reduceLE]
    refine storeK_of hw5.blk (by simp) rfl ?_
    intro w6 hw6
    have z6 := hw6.size
    have hb46 : Below w4.heap.size w4 w6 := hw5.below.trans (hw6.kept.below (by omega) (fun i h => by omega))
    have N6 : Blk w6 w4.heap.size 57 [.map (some mb)] := hw6.blk
    simp -dsimp only [push_cast, Nat.reduceAdd, Nat.reduceLeDiff, Nat.reduceBEq, Int.reduceNe, Int.reduceEq, Int.reduceLT, Int.reduceLE]
    refine allocK (z := [.int .i64 0]) (by kernel_rfl) ?_
    intro w7 hw7
    have z7 := hw7.size
    simp -dsimp only [push_cast, Nat.reduceAdd, Nat.reduceLeDiff, Nat.reduceBEq, Int.reduceNe, Int.reduceEq, Int.reduceLT, Int.reduceLE]
    refine storeK_of hw7.blk (by simp) rfl ?_
    intro w8 hw8
    have z8 := hw8.size
    have hb68 : Below w6.heap.size w6 w8 := hw7.below.trans (hw8.kept.below (by omega) (fun i h => by omega))
    have hb48 := hb46.trans (hb68.mono (by omega))
    have hbw8 := hbw4.trans (hb48.mono (by omega))
    have N8 := N6.below hb68 (by omega)
    have I8 : Blk w8 w6.heap.size 3 [.int .i64 0] := hw8.blk
    have F8 := (B3.below hb4 (by omega)).below hb48 (by omega)
    have L8 : Blk w8 w1.heap.size 29 [.slice la us.length lc] := ((hw2.blk.below hb3 (by omega)).below hb4 (by omega)).below hb48 (by omega)
    have hNV8 := hNV.below hb48
    have hXn : ∃ Xn : Nat → Prop, Xn = (fun b => X b ∧ b < w3.heap.size) := ⟨_, rfl⟩
    obtain ⟨Xn, hXn⟩ := hXn
    rw [← hXn] at hNV8
    simp -dsimp only [push_cast, Nat.reduceAdd, Nat.reduceLeDiff, Nat.reduceBEq, Int.reduceNe, Int.reduceEq, Int.reduceLT, Int.reduceLE]
    have hbase : w8.heap.size = w6.heap.size + 1 := by omega
    refine wpL_loop [9, 10, 11, 12, 26, 27, 28, 29, 30, 31, 32, 33, 34, 35, 36, 37, 38, 39, 40, 41, 42, 43, 44, 45, 46, 47, 48, 49, 50, 51, 52, 53, 54, 55, 56, 57, 58, 59, 60, 61, 62, 63, 64, 65, 66] (fun z wx => ∃ (i ib : Nat) (ov : Value), z 10 = .pointer (some ⟨ib, 0, none⟩) ∧ z 9 = ov ∧ i ≤ us.length + 1 ∧ (us = [] → i = 0) ∧ Blk wx ib 3 [.int .i64 i] ∧ Vc.Own w8.heap.size 3 1 encN wx ov (upTo nm us f.rules f.els i) ∧ (∀ g, ov.ownBlock = some g → g ≠ ib) ∧ Below w8.heap.size w8 wx) (fun z wx => us.length + 1 - cntOf (z 10) wx) ?_ ?_
    · exact ⟨0, w6.heap.size, _, rfl, rfl, by omega, fun _ => rfl, I8, Vc.Own.nil (enc := encN) _ _ (fun _ => rfl) _, (fun g h => by cases h), Below.refl _ _⟩
    · intro z wx hI
      obtain ⟨i, ib, ov, h10, h9, hi, hnil, hIB, hO, hne, hb8⟩ := hI
      have zx := hb8.size
      have hbx := hbw8.trans (hb8.mono (by omega))
      have hul := upTo_len nm us f.rules f.els i
      obtain ⟨oa, oc, rfl⟩ := hO.slice
      have Fx := F8.below hb8 (by omega)
      have Lx := L8.below hb8 (by omega)
      have Nx := N8.below hb8 (by omega)
      have c0 : wx.cell? ⟨ib, 0, none⟩ = some (.int .i64 i) := hIB.cell rfl
      have cl : wx.cell? ⟨w1.heap.size, 0, none⟩ = some (.slice la us.length lc) := Lx.cell rfl
      have cn : wx.cell? ⟨w4.heap.size, 0, none⟩ = some (.map (some mb)) := Nx.cell rfl
      have f1 : wx.cell? ⟨w.heap.size, 1, none⟩ = some (.slice ra rs.length rc) := Fx.cell rfl
      have hcnt : cntOf (z 10) wx = i := cntOf_is h10 c0
      rw [hcnt]
      simp -dsimp only [push_cast, Nat.reduceAdd, Nat.reduceLeDiff, Nat.reduceBEq, Int.reduceNe, Int.reduceEq, Int.reduceLT, Int.reduceLE, h10, h9, c0, cl]
      have hdone : (us = [] ∨ us.length < i) → BrkR w.heap.size f us (.tuple #[.slice oa (upTo nm us f.rules f.els i).length oc, .nilIface]) wx := fun h => by
        unfold BrkR
        rw [hchk]
        refine ⟨nm, _, hnm, rfl, ?_⟩
        have e : upTo nm us f.rules f.els i = breaksM (hasN nm) (ptsU us) f.rules f.els := by
          unfold breaksM upTo
          by_cases h0 : us = []
          · rw [if_pos (by rw [h0]; rfl), hnil h0]
            rfl
          · rw [if_neg (by unfold ptsU; simpa using h0), ptsU_len]
            have : i = us.length + 1 := by
              rcases h with h | h
              · exact absurd h h0
              · omega
            rw [this]
        rw [← e]
        exact hO.mono (by omega)
      refine ⟨fun hle => ⟨fun hpos => ?_, fun hzero => ?_⟩, fun hgt => ?_⟩
      · have hle' : i ≤ us.length := by omega
        have hne0 : us ≠ [] := fun h => by rw [h] at hpos; simp at hpos
        have hXm : ∀ b, (fun _ : Nat => False) b → X b := fun _ h => h.elim
        have hRx : All2 (RulR (fun _ => False) wx) rs f.rules := hR.imp fun a b h => ⟨h.1, h.2.1, PatV.weak (h.2.2.1.below hbx) hXm, PatV.weak (h.2.2.2.below hbx) hXm⟩
        have hNx : NamV (fun _ => False) wx mb nm := (hNV.below (hb48.trans (hb8.mono (by omega)))).weak (fun _ h => h.elim)
        simp -dsimp only [push_cast, Nat.reduceAdd, Nat.reduceLeDiff, Nat.reduceBEq, Int.reduceNe, Int.reduceEq, Int.reduceLT, Int.reduceLE, f1]
        refine callK_of (ruleIdx_c f.rules hlr hok.2 hpn nm hRN us hlen i hle' _ _ (.slice la us.length lc) rs mb w4.heap.size w1.heap.size ib wx ((hrs.below hbx).weaken hXm) hRx hNx ((hU.below hbx).weaken hXm) cn cl c0) ?_
        rintro r wy ⟨hK, hby⟩
        have zy := hby.size
        have Fy := Fx.below hby (by omega)
        have Ly := Lx.below hby (by omega)
        have IBy := hIB.below hby hIB.lt
        have hOy := hO.below hby
        have hbwy := hbx.trans (hby.mono (by omega))
        have hb8y := hb8.trans (hby.mono (by omega))
        have e1 : wy.cell? ⟨w.heap.size, 1, none⟩ = some (.slice ra rs.length rc) := Fy.cell rfl
        have e2 : wy.cell? ⟨w.heap.size, 2, none⟩ = some (.bool f.els) := Fy.cell rfl
        have e3 : wy.cell? ⟨w1.heap.size, 0, none⟩ = some (.slice la us.length lc) := Ly.cell rfl
        have e4 : wy.cell? ⟨ib, 0, none⟩ = some (.int .i64 i) := IBy.cell rfl
        rcases hK with ⟨k, c, rfl, hc, hmet, hno⟩ | ⟨rfl, hno⟩
        · have hsay : isM (hasN nm) (ptsU us) f.rules f.els i = (c.brk || decide (i = 0) || decide (i = us.length)) := by
            unfold isM
            rw [saysM_at hc hmet hno, ptsU_len]
          obtain ⟨x, hx, hxp, hxb, hx1, hx2⟩ := all2_nth hR hc
          obtain ⟨xp, xb, x1, x2⟩ := x
          simp only at hxp hxb hx1 hx2
          subst hxp; subst hxb
          obtain ⟨b1, o, rfl, hnb, hcell⟩ := (hrs.below hbwy).get hx
          have c4 : wy.cell? ⟨b1, o + k * 4 + 1, none⟩ = some (.bool c.brk) := by simpa [encRu] using hcell 1 _ rfl
          have hkl := (List.getElem?_eq_some_iff.1 hx).1
          cases hbk : (c.brk) with
          | true =>
            rw [hbk] at hsay
            (rw [hbk] at c4); simp -dsimp only [push_cast, Nat.reduceAdd, Nat.reduceLeDiff, Nat.reduceBEq, Int.reduceNe, Int.reduceEq, Int.reduceLT, Int.reduceLE, e1, e2, e3, e4, c4]; refine ⟨fun _ => ⟨⟨by omega, by omega⟩, ?_⟩, fun h => by omega⟩
            -- by simp: the place is a break
            have hsu := upTo_succ nm us f.rules f.els i
            rw [hsay, if_pos (by simp)] at hsu
            refine rowK elI_31 rfl rfl (by omega) ?_
            intro wr hwr
            have zr := hwr.size
            simp -dsimp only [push_cast, Nat.reduceAdd, Nat.reduceLeDiff, Nat.reduceBEq, Int.reduceNe, Int.reduceEq, Int.reduceLT, Int.reduceLE]
            refine appendK2 (base := w8.heap.size) [i] (enc := encN) elI_31 (hOy.new hwr) (by rfl) (fun j u hu => by rw [Nat.zero_add]; exact hwr.cell hu) (by simp [encN, Value.oneCell']) (by simp only [List.length_cons, List.length_nil]; omega) (by omega) ?_
            intro vq wq hOq hgq hnq
            have hkq : Kept (fun j => (Value.slice oa (upTo nm us f.rules f.els i).length oc).ownBlock = some j) wr wq := Kept.grown hgq (fun _ h => h)
            have IBq := (IBy.below hwr.below IBy.lt).kept hkq (fun h => hne _ h rfl)
            have hbq : Below w8.heap.size w8 wq := hb8y.trans ((hwr.below.mono (by omega)).trans (hkq.below (by omega) (fun g h => (hO.block g h).1)))
            rw [← hsu] at hOq
            -- wq: the world; hOq: Vc.Own of the longer row; IBq: the counter's block; hbq: Below w8 wq
            have hbS := hbq
            have zS := hbS.size
            have hOS := hOq
            have cS : (wq).cell? ⟨ib, 0, none⟩ = some (.int .i64 i) := (IBq).cell rfl
            simp -dsimp only [push_cast, Nat.reduceAdd, Nat.reduceLeDiff, Nat.reduceBEq, Int.reduceNe, Int.reduceEq, Int.reduceLT, Int.reduceLE, cS]
            refine allocK (z := [.int .i64 0]) (by kernel_rfl) ?_
            intro wa hwa
            have za := hwa.size
            simp -dsimp only [push_cast, Nat.reduceAdd, Nat.reduceLeDiff, Nat.reduceBEq, Int.reduceNe, Int.reduceEq, Int.reduceLT, Int.reduceLE]
            refine storeK_of hwa.blk (by simp) rfl ?_
            intro wb hwb
            have zb := hwb.size
            have cb : wb.cell? ⟨(wq).heap.size, 0, none⟩ = some (.int .i64 i) := hwb.blk.cell rfl
            simp -dsimp only [push_cast, Nat.reduceAdd, Nat.reduceLeDiff, Nat.reduceBEq, Int.reduceNe, Int.reduceEq, Int.reduceLT, Int.reduceLE, cb]
            refine ⟨⟨by omega, by omega⟩, ?_⟩
            refine storeK_of hwb.blk (by simp) rfl ?_
            intro wc hwc
            have zc := hwc.size
            have hbac : Below (wq).heap.size (wq) wc := hwa.below.trans ((hwb.kept.below (by omega) (fun i h => by omega)).trans (hwc.kept.below (by omega) (fun i h => by omega)))
            have IC : Blk wc (wq).heap.size 3 [.int .i64 ((i + 1 : Nat) : Int)] := hwc.blk
            have hcn : cntOf (.pointer (some ⟨(wq).heap.size, 0, none⟩)) wc = i + 1 := cntOf_is rfl (IC.cell rfl)
            simp -dsimp only [push_cast, Nat.reduceAdd, Nat.reduceLeDiff, Nat.reduceBEq, Int.reduceNe, Int.reduceEq, Int.reduceLT, Int.reduceLE]
            refine ⟨⟨i + 1, (wq).heap.size, _, rfl, rfl, by omega, fun h => absurd h hne0, IC, hOS.below hbac, (fun g hg => by have := hOS.block g hg; omega), hbS.trans (hbac.mono (by omega))⟩, ?_⟩
            show us.length + 1 - cntOf (.pointer (some ⟨(wq).heap.size, 0, none⟩)) wc < us.length + 1 - i
            rw [hcn]
            omega
          | false =>
            rw [hbk] at hsay
            (rw [hbk] at c4); simp -dsimp only [push_cast, Nat.reduceAdd, Nat.reduceLeDiff, Nat.reduceBEq, Int.reduceNe, Int.reduceEq, Int.reduceLT, Int.reduceLE, e1, e2, e3, e4, c4]; refine ⟨fun _ => ⟨⟨by omega, by omega⟩, ?_⟩, fun h => by omega⟩
            refine ⟨fun h0 => ⟨fun h1 => ?_, fun h1 => ?_⟩, fun h0 => ?_⟩
            · have h1' : i = us.length := by omega
              -- by simp [h1']: the place is a break
              have hsu := upTo_succ nm us f.rules f.els i
              rw [hsay, if_pos (by simp [h1'])] at hsu
              refine rowK elI_31 rfl rfl (by omega) ?_
              intro wr hwr
              have zr := hwr.size
              simp -dsimp only [push_cast, Nat.reduceAdd, Nat.reduceLeDiff, Nat.reduceBEq, Int.reduceNe, Int.reduceEq, Int.reduceLT, Int.reduceLE]
              refine appendK2 (base := w8.heap.size) [i] (enc := encN) elI_31 (hOy.new hwr) (by rfl) (fun j u hu => by rw [Nat.zero_add]; exact hwr.cell hu) (by simp [encN, Value.oneCell']) (by simp only [List.length_cons, List.length_nil]; omega) (by omega) ?_
              intro vq wq hOq hgq hnq
              have hkq : Kept (fun j => (Value.slice oa (upTo nm us f.rules f.els i).length oc).ownBlock = some j) wr wq := Kept.grown hgq (fun _ h => h)
              have IBq := (IBy.below hwr.below IBy.lt).kept hkq (fun h => hne _ h rfl)
              have hbq : Below w8.heap.size w8 wq := hb8y.trans ((hwr.below.mono (by omega)).trans (hkq.below (by omega) (fun g h => (hO.block g h).1)))
              rw [← hsu] at hOq
              -- wq: the world; hOq: Vc.Own of the longer row; IBq: the counter's block; hbq: Below w8 wq
              have hbS := hbq
              have zS := hbS.size
              have hOS := hOq
              have cS : (wq).cell? ⟨ib, 0, none⟩ = some (.int .i64 i) := (IBq).cell rfl
              simp -dsimp only [push_cast, Nat.reduceAdd, Nat.reduceLeDiff, Nat.reduceBEq, Int.reduceNe, Int.reduceEq, Int.reduceLT, Int.reduceLE, cS]
              refine allocK (z := [.int .i64 0]) (by kernel_rfl) ?_
              intro wa hwa
              have za := hwa.size
              simp -dsimp only [push_cast, Nat.reduceAdd, Nat.reduceLeDiff, Nat.reduceBEq, Int.reduceNe, Int.reduceEq, Int.reduceLT, Int.reduceLE]
              refine storeK_of hwa.blk (by simp) rfl ?_
              intro wb hwb
              have zb := hwb.size
              have cb : wb.cell? ⟨(wq).heap.size, 0, none⟩ = some (.int .i64 i) := hwb.blk.cell rfl
              simp -dsimp only [push_cast, Nat.reduceAdd, Nat.reduceLeDiff, Nat.reduceBEq, Int.reduceNe, Int.reduceEq, Int.reduceLT, Int.reduceLE, cb]
              refine ⟨⟨by omega, by omega⟩, ?_⟩
              refine storeK_of hwb.blk (by simp) rfl ?_
              intro wc hwc
              have zc := hwc.size
              have hbac : Below (wq).heap.size (wq) wc := hwa.below.trans ((hwb.kept.below (by omega) (fun i h => by omega)).trans (hwc.kept.below (by omega) (fun i h => by omega)))
              have IC : Blk wc (wq).heap.size 3 [.int .i64 ((i + 1 : Nat) : Int)] := hwc.blk
              have hcn : cntOf (.pointer (some ⟨(wq).heap.size, 0, none⟩)) wc = i + 1 := cntOf_is rfl (IC.cell rfl)
              simp -dsimp only [push_cast, Nat.reduceAdd, Nat.reduceLeDiff, Nat.reduceBEq, Int.reduceNe, Int.reduceEq, Int.reduceLT, Int.reduceLE]
              refine ⟨⟨i + 1, (wq).heap.size, _, rfl, rfl, by omega, fun h => absurd h hne0, IC, hOS.below hbac, (fun g hg => by have := hOS.block g hg; omega), hbS.trans (hbac.mono (by omega))⟩, ?_⟩
              show us.length + 1 - cntOf (.pointer (some ⟨(wq).heap.size, 0, none⟩)) wc < us.length + 1 - i
              rw [hcn]
              omega
            · have h0' : i ≠ 0 := by omega
              have h1' : i ≠ us.length := by omega
              -- by simp [h0', h1']: the place is no break
              have hsu := upTo_succ nm us f.rules f.els i
              rw [hsay, if_neg (by simp [h0', h1']), List.append_nil] at hsu
              have hOy' : Vc.Own w8.heap.size 3 1 encN wy (.slice oa (upTo nm us f.rules f.els i).length oc) (upTo nm us f.rules f.els (i + 1)) := by rw [hsu]; exact hOy
              -- wy: the world; hOy': Vc.Own of the longer row; IBy: the counter's block; hb8y: Below w8 wy
              have hbS := hb8y
              have zS := hbS.size
              have hOS := hOy'
              have cS : (wy).cell? ⟨ib, 0, none⟩ = some (.int .i64 i) := (IBy).cell rfl
              skip
              refine allocK (z := [.int .i64 0]) (by kernel_rfl) ?_
              intro wa hwa
              have za := hwa.size
              simp -dsimp only [push_cast, Nat.reduceAdd, Nat.reduceLeDiff, Nat.reduceBEq, Int.reduceNe, Int.reduceEq, Int.reduceLT, Int.reduceLE]
              refine storeK_of hwa.blk (by simp) rfl ?_
              intro wb hwb
              have zb := hwb.size
              have cb : wb.cell? ⟨(wy).heap.size, 0, none⟩ = some (.int .i64 i) := hwb.blk.cell rfl
              simp -dsimp only [push_cast, Nat.reduceAdd, Nat.reduceLeDiff, Nat.reduceBEq, Int.reduceNe, Int.reduceEq, Int.reduceLT, Int.reduceLE, cb]
              refine ⟨⟨by omega, by omega⟩, ?_⟩
              refine storeK_of hwb.blk (by simp) rfl ?_
              intro wc hwc
              have zc := hwc.size
              have hbac : Below (wy).heap.size (wy) wc := hwa.below.trans ((hwb.kept.below (by omega) (fun i h => by omega)).trans (hwc.kept.below (by omega) (fun i h => by omega)))
              have IC : Blk wc (wy).heap.size 3 [.int .i64 ((i + 1 : Nat) : Int)] := hwc.blk
              have hcn : cntOf (.pointer (some ⟨(wy).heap.size, 0, none⟩)) wc = i + 1 := cntOf_is rfl (IC.cell rfl)
              simp -dsimp only [push_cast, Nat.reduceAdd, Nat.reduceLeDiff, Nat.reduceBEq, Int.reduceNe, Int.reduceEq, Int.reduceLT, Int.reduceLE]
              refine ⟨⟨i + 1, (wy).heap.size, _, rfl, rfl, by omega, fun h => absurd h hne0, IC, hOS.below hbac, (fun g hg => by have := hOS.block g hg; omega), hbS.trans (hbac.mono (by omega))⟩, ?_⟩
              show us.length + 1 - cntOf (.pointer (some ⟨(wy).heap.size, 0, none⟩)) wc < us.length + 1 - i
              rw [hcn]
              omega
            · have h0' : i = 0 := by omega
              -- by simp [h0']: the place is a break
              have hsu := upTo_succ nm us f.rules f.els i
              rw [hsay, if_pos (by simp [h0'])] at hsu
              refine rowK elI_31 rfl rfl (by omega) ?_
              intro wr hwr
              have zr := hwr.size
              simp -dsimp only [push_cast, Nat.reduceAdd, Nat.reduceLeDiff, Nat.reduceBEq, Int.reduceNe, Int.reduceEq, Int.reduceLT, Int.reduceLE]
              refine appendK2 (base := w8.heap.size) [i] (enc := encN) elI_31 (hOy.new hwr) (by rfl) (fun j u hu => by rw [Nat.zero_add]; exact hwr.cell hu) (by simp [encN, Value.oneCell']) (by simp only [List.length_cons, List.length_nil]; omega) (by omega) ?_
              intro vq wq hOq hgq hnq
              have hkq : Kept (fun j => (Value.slice oa (upTo nm us f.rules f.els i).length oc).ownBlock = some j) wr wq := Kept.grown hgq (fun _ h => h)
              have IBq := (IBy.below hwr.below IBy.lt).kept hkq (fun h => hne _ h rfl)
              have hbq : Below w8.heap.size w8 wq := hb8y.trans ((hwr.below.mono (by omega)).trans (hkq.below (by omega) (fun g h => (hO.block g h).1)))
              rw [← hsu] at hOq
              -- wq: the world; hOq: Vc.Own of the longer row; IBq: the counter's block; hbq: Below w8 wq
              have hbS := hbq
              have zS := hbS.size
              have hOS := hOq
              have cS : (wq).cell? ⟨ib, 0, none⟩ = some (.int .i64 i) := (IBq).cell rfl
              simp -dsimp only [push_cast, Nat.reduceAdd, Nat.reduceLeDiff, Nat.reduceBEq, Int.reduceNe, Int.reduceEq, Int.reduceLT, Int.reduceLE, cS]
              refine allocK (z := [.int .i64 0]) (by kernel_rfl) ?_
              intro wa hwa
              have za := hwa.size
              simp -dsimp only [push_cast, Nat.reduceAdd, Nat.reduceLeDiff, Nat.reduceBEq, Int.reduceNe, Int.reduceEq, Int.reduceLT, Int.reduceLE]
              refine storeK_of hwa.blk (by simp) rfl ?_
              intro wb hwb
              have zb := hwb.size
              have cb : wb.cell? ⟨(wq).heap.size, 0, none⟩ = some (.int .i64 i) := hwb.blk.cell rfl
              simp -dsimp only [push_cast, Nat.reduceAdd, Nat.reduceLeDiff, Nat.reduceBEq, Int.reduceNe, Int.reduceEq, Int.reduceLT, Int.reduceLE, cb]
              refine ⟨⟨by omega, by omega⟩, ?_⟩
              refine storeK_of hwb.blk (by simp) rfl ?_
              intro wc hwc
              have zc := hwc.size
              have hbac : Below (wq).heap.size (wq) wc := hwa.below.trans ((hwb.kept.below (by omega) (fun i h => by omega)).trans (hwc.kept.below (by omega) (fun i h => by omega)))
              have IC : Blk wc (wq).heap.size 3 [.int .i64 ((i + 1 : Nat) : Int)] := hwc.blk
              have hcn : cntOf (.pointer (some ⟨(wq).heap.size, 0, none⟩)) wc = i + 1 := cntOf_is rfl (IC.cell rfl)
              simp -dsimp only [push_cast, Nat.reduceAdd, Nat.reduceLeDiff, Nat.reduceBEq, Int.reduceNe, Int.reduceEq, Int.reduceLT, Int.reduceLE]
              refine ⟨⟨i + 1, (wq).heap.size, _, rfl, rfl, by omega, fun h => absurd h hne0, IC, hOS.below hbac, (fun g hg => by have := hOS.block g hg; omega), hbS.trans (hbac.mono (by omega))⟩, ?_⟩
              show us.length + 1 - cntOf (.pointer (some ⟨(wq).heap.size, 0, none⟩)) wc < us.length + 1 - i
              rw [hcn]
              omega
        · have hel : ∃ el, f.els = el := ⟨_, rfl⟩
          obtain ⟨el, hel⟩ := hel
          have hsay : isM (hasN nm) (ptsU us) f.rules f.els i = (el || decide (i = 0) || decide (i = us.length)) := by
            unfold isM
            rw [saysM_none hno, ptsU_len, hel]
          have e2 : wy.cell? ⟨w.heap.size, 2, none⟩ = some (.bool el) := by rw [← hel]; exact Fy.cell rfl
          cases hbk : (el) with
          | true =>
            rw [hbk] at hsay
            (rw [hbk] at e2); simp -dsimp only [push_cast, Nat.reduceAdd, Nat.reduceLeDiff, Nat.reduceBEq, Int.reduceNe, Int.reduceEq, Int.reduceLT, Int.reduceLE, e1, e2, e3, e4]
            -- by simp: the place is a break
            have hsu := upTo_succ nm us f.rules f.els i
            rw [hsay, if_pos (by simp)] at hsu
            refine rowK elI_31 rfl rfl (by omega) ?_
            intro wr hwr
            have zr := hwr.size
            simp -dsimp only [push_cast, Nat.reduceAdd, Nat.reduceLeDiff, Nat.reduceBEq, Int.reduceNe, Int.reduceEq, Int.reduceLT, Int.reduceLE]
            refine appendK2 (base := w8.heap.size) [i] (enc := encN) elI_31 (hOy.new hwr) (by rfl) (fun j u hu => by rw [Nat.zero_add]; exact hwr.cell hu) (by simp [encN, Value.oneCell']) (by simp only [List.length_cons, List.length_nil]; omega) (by omega) ?_
            intro vq wq hOq hgq hnq
            have hkq : Kept (fun j => (Value.slice oa (upTo nm us f.rules f.els i).length oc).ownBlock = some j) wr wq := Kept.grown hgq (fun _ h => h)
            have IBq := (IBy.below hwr.below IBy.lt).kept hkq (fun h => hne _ h rfl)
            have hbq : Below w8.heap.size w8 wq := hb8y.trans ((hwr.below.mono (by omega)).trans (hkq.below (by omega) (fun g h => (hO.block g h).1)))
            rw [← hsu] at hOq
            -- wq: the world; hOq: Vc.Own of the longer row; IBq: the counter's block; hbq: Below w8 wq
            have hbS := hbq
            have zS := hbS.size
            have hOS := hOq
            have cS : (wq).cell? ⟨ib, 0, none⟩ = some (.int .i64 i) := (IBq).cell rfl
            simp -dsimp only [push_cast, Nat.reduceAdd, Nat.reduceLeDiff, Nat.reduceBEq, Int.reduceNe, Int.reduceEq, Int.reduceLT, Int.reduceLE, cS]
            refine allocK (z := [.int .i64 0]) (by kernel_rfl) ?_
            intro wa hwa
            have za := hwa.size
            simp -dsimp only [push_cast, Nat.reduceAdd, Nat.reduceLeDiff, Nat.reduceBEq, Int.reduceNe, Int.reduceEq, Int.reduceLT, Int.reduceLE]
            refine storeK_of hwa.blk (by simp) rfl ?_
            intro wb hwb
            have zb := hwb.size
            have cb : wb.cell? ⟨(wq).heap.size, 0, none⟩ = some (.int .i64 i) := hwb.blk.cell rfl
            simp -dsimp only [push_cast, Nat.reduceAdd, Nat.reduceLeDiff, Nat.reduceBEq, Int.reduceNe, Int.reduceEq, Int.reduceLT, Int.reduceLE, cb]
            refine ⟨⟨by omega, by omega⟩, ?_⟩
            refine storeK_of hwb.blk (by simp) rfl ?_
            intro wc hwc
            have zc := hwc.size
            have hbac : Below (wq).heap.size (wq) wc := hwa.below.trans ((hwb.kept.below (by omega) (fun i h => by omega)).trans (hwc.kept.below (by omega) (fun i h => by omega)))
            have IC : Blk wc (wq).heap.size 3 [.int .i64 ((i + 1 : Nat) : Int)] := hwc.blk
            have hcn : cntOf (.pointer (some ⟨(wq).heap.size, 0, none⟩)) wc = i + 1 := cntOf_is rfl (IC.cell rfl)
            simp -dsimp only [push_cast, Nat.reduceAdd, Nat.reduceLeDiff, Nat.reduceBEq, Int.reduceNe, Int.reduceEq, Int.reduceLT, Int.reduceLE]
            refine ⟨⟨i + 1, (wq).heap.size, _, rfl, rfl, by omega, fun h => absurd h hne0, IC, hOS.below hbac, (fun g hg => by have := hOS.block g hg; omega), hbS.trans (hbac.mono (by omega))⟩, ?_⟩
            show us.length + 1 - cntOf (.pointer (some ⟨(wq).heap.size, 0, none⟩)) wc < us.length + 1 - i
            rw [hcn]
            omega
          | false =>
            rw [hbk] at hsay
            (rw [hbk] at e2); simp -dsimp only [push_cast, Nat.reduceAdd, Nat.reduceLeDiff, Nat.reduceBEq, Int.reduceNe, Int.reduceEq, Int.reduceLT, Int.reduceLE, e1, e2, e3, e4]
            refine ⟨fun h0 => ⟨fun h1 => ?_, fun h1 => ?_⟩, fun h0 => ?_⟩
            · have h1' : i = us.length := by omega
              -- by simp [h1']: the place is a break
              have hsu := upTo_succ nm us f.rules f.els i
              rw [hsay, if_pos (by simp [h1'])] at hsu
              refine rowK elI_31 rfl rfl (by omega) ?_
              intro wr hwr
              have zr := hwr.size
              simp -dsimp only [push_cast, Nat.reduceAdd, Nat.reduceLeDiff, Nat.reduceBEq, Int.reduceNe, Int.reduceEq, Int.reduceLT, Int.reduceLE]
              refine appendK2 (base := w8.heap.size) [i] (enc := encN) elI_31 (hOy.new hwr) (by rfl) (fun j u hu => by rw [Nat.zero_add]; exact hwr.cell hu) (by simp [encN, Value.oneCell']) (by simp only [List.length_cons, List.length_nil]; omega) (by omega) ?_
              intro vq wq hOq hgq hnq
              have hkq : Kept (fun j => (Value.slice oa (upTo nm us f.rules f.els i).length oc).ownBlock = some j) wr wq := Kept.grown hgq (fun _ h => h)
              have IBq := (IBy.below hwr.below IBy.lt).kept hkq (fun h => hne _ h rfl)
              have hbq : Below w8.heap.size w8 wq := hb8y.trans ((hwr.below.mono (by omega)).trans (hkq.below (by omega) (fun g h => (hO.block g h).1)))
              rw [← hsu] at hOq
              -- wq: the world; hOq: Vc.Own of the longer row; IBq: the counter's block; hbq: Below w8 wq
              have hbS := hbq
              have zS := hbS.size
              have hOS := hOq
              have cS : (wq).cell? ⟨ib, 0, none⟩ = some (.int .i64 i) := (IBq).cell rfl
              simp -dsimp only [push_cast, Nat.reduceAdd, Nat.reduceLeDiff, Nat.reduceBEq, Int.reduceNe, Int.reduceEq, Int.reduceLT, Int.reduceLE, cS]
              refine allocK (z := [.int .i64 0]) (by kernel_rfl) ?_
              intro wa hwa
              have za := hwa.size
              simp -dsimp only [push_cast, Nat.reduceAdd, Nat.reduceLeDiff, Nat.reduceBEq, Int.reduceNe, Int.reduceEq, Int.reduceLT, Int.reduceLE]
              refine storeK_of hwa.blk (by simp) rfl ?_
              intro wb hwb
              have zb := hwb.size
              have cb : wb.cell? ⟨(wq).heap.size, 0, none⟩ = some (.int .i64 i) := hwb.blk.cell rfl
              simp -dsimp only [push_cast, Nat.reduceAdd, Nat.reduceLeDiff, Nat.reduceBEq, Int.reduceNe, Int.reduceEq, Int.reduceLT, Int.reduceLE, cb]
              refine ⟨⟨by omega, by omega⟩, ?_⟩
              refine storeK_of hwb.blk (by simp) rfl ?_
              intro wc hwc
              have zc := hwc.size
              have hbac : Below (wq).heap.size (wq) wc := hwa.below.trans ((hwb.kept.below (by omega) (fun i h => by omega)).trans (hwc.kept.below (by omega) (fun i h => by omega)))
              have IC : Blk wc (wq).heap.size 3 [.int .i64 ((i + 1 : Nat) : Int)] := hwc.blk
              have hcn : cntOf (.pointer (some ⟨(wq).heap.size, 0, none⟩)) wc = i + 1 := cntOf_is rfl (IC.cell rfl)
              simp -dsimp only [push_cast, Nat.reduceAdd, Nat.reduceLeDiff, Nat.reduceBEq, Int.reduceNe, Int.reduceEq, Int.reduceLT, Int.reduceLE]
              refine ⟨⟨i + 1, (wq).heap.size, _, rfl, rfl, by omega, fun h => absurd h hne0, IC, hOS.below hbac, (fun g hg => by have := hOS.block g hg; omega), hbS.trans (hbac.mono (by omega))⟩, ?_⟩
              show us.length + 1 - cntOf (.pointer (some ⟨(wq).heap.size, 0, none⟩)) wc < us.length + 1 - i
              rw [hcn]
              omega
            · have h0' : i ≠ 0 := by omega
              have h1' : i ≠ us.length := by omega
              -- by simp [h0', h1']: the place is no break
              have hsu := upTo_succ nm us f.rules f.els i
              rw [hsay, if_neg (by simp [h0', h1']), List.append_nil] at hsu
              have hOy' : Vc.Own w8.heap.size 3 1 encN wy (.slice oa (upTo nm us f.rules f.els i).length oc) (upTo nm us f.rules f.els (i + 1)) := by rw [hsu]; exact hOy
              -- wy: the world; hOy': Vc.Own of the longer row; IBy: the counter's block; hb8y: Below w8 wy
              have hbS := hb8y
              have zS := hbS.size
              have hOS := hOy'
              have cS : (wy).cell? ⟨ib, 0, none⟩ = some (.int .i64 i) := (IBy).cell rfl
              skip
              refine allocK (z := [.int .i64 0]) (by kernel_rfl) ?_
              intro wa hwa
              have za := hwa.size
              simp -dsimp only [push_cast, Nat.reduceAdd, Nat.reduceLeDiff, Nat.reduceBEq, Int.reduceNe, Int.reduceEq, Int.reduceLT, Int.reduceLE]
              refine storeK_of hwa.blk (by simp) rfl ?_
              intro wb hwb
              have zb := hwb.size
              have cb : wb.cell? ⟨(wy).heap.size, 0, none⟩ = some (.int .i64 i) := hwb.blk.cell rfl
              simp -dsimp only [push_cast, Nat.reduceAdd, Nat.reduceLeDiff, Nat.reduceBEq, Int.reduceNe, Int.reduceEq, Int.reduceLT, Int.reduceLE, cb]
              refine ⟨⟨by omega, by omega⟩, ?_⟩
              refine storeK_of hwb.blk (by simp) rfl ?_
              intro wc hwc
              have zc := hwc.size
              have hbac : Below (wy).heap.size (wy) wc := hwa.below.trans ((hwb.kept.below (by omega) (fun i h => by omega)).trans (hwc.kept.below (by omega) (fun i h => by omega)))
              have IC : Blk wc (wy).heap.size 3 [.int .i64 ((i + 1 : Nat) : Int)] := hwc.blk
              have hcn : cntOf (.pointer (some ⟨(wy).heap.size, 0, none⟩)) wc = i + 1 := cntOf_is rfl (IC.cell rfl)
              simp -dsimp only [push_cast, Nat.reduceAdd, Nat.reduceLeDiff, Nat.reduceBEq, Int.reduceNe, Int.reduceEq, Int.reduceLT, Int.reduceLE]
              refine ⟨⟨i + 1, (wy).heap.size, _, rfl, rfl, by omega, fun h => absurd h hne0, IC, hOS.below hbac, (fun g hg => by have := hOS.block g hg; omega), hbS.trans (hbac.mono (by omega))⟩, ?_⟩
              show us.length + 1 - cntOf (.pointer (some ⟨(wy).heap.size, 0, none⟩)) wc < us.length + 1 - i
              rw [hcn]
              omega
            · have h0' : i = 0 := by omega
              -- by simp [h0']: the place is a break
              have hsu := upTo_succ nm us f.rules f.els i
              rw [hsay, if_pos (by simp [h0'])] at hsu
              refine rowK elI_31 rfl rfl (by omega) ?_
              intro wr hwr
              have zr := hwr.size
              simp -dsimp only [push_cast, Nat.reduceAdd, Nat.reduceLeDiff, Nat.reduceBEq, Int.reduceNe, Int.reduceEq, Int.reduceLT, Int.reduceLE]
              refine appendK2 (base := w8.heap.size) [i] (enc := encN) elI_31 (hOy.new hwr) (by rfl) (fun j u hu => by rw [Nat.zero_add]; exact hwr.cell hu) (by simp [encN, Value.oneCell']) (by simp only [List.length_cons, List.length_nil]; omega) (by omega) ?_
              intro vq wq hOq hgq hnq
              have hkq : Kept (fun j => (Value.slice oa (upTo nm us f.rules f.els i).length oc).ownBlock = some j) wr wq := Kept.grown hgq (fun _ h => h)
              have IBq := (IBy.below hwr.below IBy.lt).kept hkq (fun h => hne _ h rfl)
              have hbq : Below w8.heap.size w8 wq := hb8y.trans ((hwr.below.mono (by omega)).trans (hkq.below (by omega) (fun g h => (hO.block g h).1)))
              rw [← hsu] at hOq
              -- wq: the world; hOq: Vc.Own of the longer row; IBq: the counter's block; hbq: Below w8 wq
              have hbS := hbq
              have zS := hbS.size
              have hOS := hOq
              have cS : (wq).cell? ⟨ib, 0, none⟩ = some (.int .i64 i) := (IBq).cell rfl
              simp -dsimp only [push_cast, Nat.reduceAdd, Nat.reduceLeDiff, Nat.reduceBEq, Int.reduceNe, Int.reduceEq, Int.reduceLT, Int.reduceLE, cS]
              refine allocK (z := [.int .i64 0]) (by kernel_rfl) ?_
              intro wa hwa
              have za := hwa.size
              simp -dsimp only [push_cast, Nat.reduceAdd, Nat.reduceLeDiff, Nat.reduceBEq, Int.reduceNe, Int.reduceEq, Int.reduceLT, Int.reduceLE]
              refine storeK_of hwa.blk (by simp) rfl ?_
              intro wb hwb
              have zb := hwb.size
              have cb : wb.cell? ⟨(wq).heap.size, 0, none⟩ = some (.int .i64 i) := hwb.blk.cell rfl
              simp -dsimp only [push_cast, Nat.reduceAdd, Nat.reduceLeDiff, Nat.reduceBEq, Int.reduceNe, Int.reduceEq, Int.reduceLT, Int.reduceLE, cb]
              refine ⟨⟨by omega, by omega⟩, ?_⟩
              refine storeK_of hwb.blk (by simp) rfl ?_
              intro wc hwc
              have zc := hwc.size
              have hbac : Below (wq).heap.size (wq) wc := hwa.below.trans ((hwb.kept.below (by omega) (fun i h => by omega)).trans (hwc.kept.below (by omega) (fun i h => by omega)))
              have IC : Blk wc (wq).heap.size 3 [.int .i64 ((i + 1 : Nat) : Int)] := hwc.blk
              have hcn : cntOf (.pointer (some ⟨(wq).heap.size, 0, none⟩)) wc = i + 1 := cntOf_is rfl (IC.cell rfl)
              simp -dsimp only [push_cast, Nat.reduceAdd, Nat.reduceLeDiff, Nat.reduceBEq, Int.reduceNe, Int.reduceEq, Int.reduceLT, Int.reduceLE]
              refine ⟨⟨i + 1, (wq).heap.size, _, rfl, rfl, by omega, fun h => absurd h hne0, IC, hOS.below hbac, (fun g hg => by have := hOS.block g hg; omega), hbS.trans (hbac.mono (by omega))⟩, ?_⟩
              show us.length + 1 - cntOf (.pointer (some ⟨(wq).heap.size, 0, none⟩)) wc < us.length + 1 - i
              rw [hcn]
              omega
      · exact ⟨hdone (.inl (List.eq_nil_of_length_eq_zero (by omega))), hbx⟩
      · exact ⟨hdone (.inr (by omega)), hbx⟩
end Go.Proofs.YtgodgfeinjminaaGreatDoor
end
section
namespace Cae
theorem pn_text {f : FileP} {r : RuleP} (hr : r ∈ f.rules) : pn r.before ≤ (fileText f).length + 5 ∧ pn r.after ≤ (fileText f).length + 5 := by
  have h1 := rt_len r
  have h2 := flatS_mem ruleText hr
  have h3 : (f.rules.flatMap ruleText).length ≤ (fileText f).length := by
    unfold fileText
    simp only [List.length_append]
    omega
  have h4 := pt_zero r.before
  have h5 := pt_zero r.after
  have hp1 : pn r.before = (patText r.before 2).length + 3 := rfl
  have hp2 : pn r.after = (patText r.after 2).length + 3 := rfl
  omega
end Cae
namespace Go.Proofs.YtgodgfeinjminaaGreatDoor
open Go.Vc Go.Proofs Go.RowKit Cae
set_option maxRecDepth 100000
set_option linter.unusedSimpArgs false
set_option linter.unusedVariables false
attribute [local irreducible] wpL callK valK unitK runK Fun Sl Vc.Own vc vcOps opK pureK
set_option maxHeartbeats 8000000
theorem parse_pn {s : List UInt8} {f : FileP} (h : parseR s = .ok f) (hs : s.length ≤ 5000) : PnOk f := fun r hr => by
  have h1 := text_len h
  have h2 := pn_text hr
  have h3 := wd_pn r.before
  have h4 := wd_pn r.after
  omega
theorem FileV.mono {X X' Y : Nat → Prop} {w w' : World} {v : Value} {f : FileP} (h : FileV X w v f) (hk : Kept Y w w') (hY : ∀ i, Y i → X i) (hX : ∀ i, X' i → X i) : FileV X' w' v f := by
  obtain ⟨cv, rv, cs, rs, rfl, S1, S2, A1, A2⟩ := h
  exact ⟨cv, rv, cs, rs, rfl, (S1.kept hk hY).weaken hX, (S2.kept hk hY).weaken hX, A1.imp fun a c h => ClsR.mono hk hY hX h, A2.imp fun a c h => RulR.mono hk hY hX h⟩
/-- What right answers: a file, and whether it may be. -/
def RightR (B : Nat) (s : List UInt8) (r : Value) (w : World) : Prop := ∃ (a1 : Option Addr) (n1 k1 : Nat) (a2 : Option Addr) (n2 k2 : Nat) (e b : Bool), r = .tuple #[.agg #[.slice a1 n1 k1, .slice a2 n2 k2, .bool e], .bool b] ∧
  (b = true → s.length ≤ 500 ∧ ∃ f, parseR s = .ok f ∧ chkS f = none ∧ FileV (· < B) w (.agg #[.slice a1 n1 k1, .slice a2 n2 k2, .bool e]) f)
theorem rightF_c (s : List UInt8) (w : World) (hd : Db w) (he : SErrs w) (hg : 10 ≤ w.heap.size) :
    Fun Tryz.prog 7 [str s] w fun r w' => RightR w.heap.size s r w' ∧ Below w.heap.size w w' := by
  refine fun_of_vcC Tryz.func7 rfl (by kernel_rfl) [.cell 2 26, .tmp 3] rfl ?_
  simp -dsimp (maxSteps := 4000000) only [push_cast, fr0, Tryz.ntmps7, List.length_cons, List.length_nil, Nat.reduceAdd, Nat.reduceSub, Nat.reduceBEq, List.replicate_succ, List.replicate_zero]
  refine allocK (z := [.slice none 0 0, .slice none 0 0, .bool false]) (by kernel_rfl) ?_
  intro w1 hw1
  have z1 := hw1.size
  simp -dsimp only [push_cast, Nat.reduceAdd, Nat.reduceLeDiff, Nat.reduceBEq, Int.reduceNe, Int.reduceEq, Int.reduceLT, Int.reduceLE]
  refine ⟨fun hlt => ?_, fun hge => ?_⟩
  · refine storeAgg (n := 3) (by kernel_rfl) hw1.blk rfl (by simp) (by intro v hv; simp only [List.mem_cons, List.not_mem_nil, or_false] at hv; rcases hv with rfl | rfl | rfl <;> rfl) ?_
    intro w2 hw2
    have z2 := hw2.size
    have hb2 : Below w.heap.size w w2 := hw1.below.trans (hw2.kept.below (by omega) (fun i h => by omega))
    have d2 : cellsAt w2 ⟨w.heap.size, 0, none⟩ 0 3 = some [.slice none 0 0, .slice none 0 0, .bool false] := hw2.blk.cellsAt
    simp -dsimp only [push_cast, Nat.reduceAdd, Nat.reduceLeDiff, Nat.reduceBEq, Int.reduceNe, Int.reduceEq, Int.reduceLT, Int.reduceLE, d2]
    refine ⟨⟨_, _, _, _, _, _, _, _, rfl, fun h => by cases h⟩, hb2⟩
  · refine callK_of (ruleParse_c s (by omega) w1 (hd.below hw1.below hd.lt) (he.below hw1.below) (by omega)) ?_
    rintro r w2 ⟨hP, hb2⟩
    have z2 := hb2.size
    have hbw2 := hw1.below.trans (hb2.mono (by omega))
    rcases hP with ⟨f, v, hpar, rfl, hV⟩ | ⟨e, pos, b, hpar, rfl, heb, hEB⟩
    · have hV0 := hV
      obtain ⟨cv, rv, cs, rs, rfl, S1, S2, A1, A2⟩ := hV
      have hpo := parse_ok (by omega) hpar
      have hpp := parse_pn hpar (by omega)
      obtain ⟨ca, cc, rfl, hcc⟩ := S1.shape
      obtain ⟨ra, rc, rfl, hrc⟩ := S2.shape
      -- .slice ca cs.length cc, .slice ra rs.length rc, .bool f.els: the cells; what Parse answered is laid
      simp -dsimp only [push_cast, Nat.reduceAdd, Nat.reduceLeDiff, Nat.reduceBEq, Int.reduceNe, Int.reduceEq, Int.reduceLT, Int.reduceLE]
      refine allocK (z := [.slice none 0 0, .slice none 0 0, .bool false]) (by kernel_rfl) ?_
      intro w3 hw3
      have z3 := hw3.size
      simp -dsimp only [push_cast, Nat.reduceAdd, Nat.reduceLeDiff, Nat.reduceBEq, Int.reduceNe, Int.reduceEq, Int.reduceLT, Int.reduceLE]
      refine storeAgg (n := 3) (by kernel_rfl) hw3.blk rfl (by simp) (by intro v hv; simp only [List.mem_cons, List.not_mem_nil, or_false] at hv; rcases hv with rfl | rfl | rfl <;> rfl) ?_
      intro w4 hw4
      have z4 := hw4.size
      have hb24 : Below w2.heap.size w2 w4 := hw3.below.trans (hw4.kept.below (by omega) (fun i h => by omega))
      have hbw4 := hbw2.trans (hb24.mono (by omega))
      have B4 : Blk w4 w2.heap.size 26 [.slice ca cs.length cc, .slice ra rs.length rc, .bool f.els] := hw4.blk
      have R4 := (hw1.blk.below hb2 (by omega)).below hb24 (by omega)
      have B4d := B4.drew
      have hbd4 := below_drew w4
      have d4 : cellsAt w4.drew ⟨w2.heap.size, 0, none⟩ 0 3 = some [.slice ca cs.length cc, .slice ra rs.length rc, .bool f.els] := B4d.cellsAt
      simp -dsimp only [push_cast, Nat.reduceAdd, Nat.reduceLeDiff, Nat.reduceBEq, Int.reduceNe, Int.reduceEq, Int.reduceLT, Int.reduceLE]
      refine wpL_drawN (fun w' => Blk w' w2.heap.size 26 [.slice ca cs.length cc, .slice ra rs.length rc, .bool f.els]) mixed (by kernel_rfl) B4d ?_
      simp -dsimp only [push_cast, Nat.reduceAdd, Nat.reduceLeDiff, Nat.reduceBEq, Int.reduceNe, Int.reduceEq, Int.reduceLT, Int.reduceLE, d4]
      have hcl : ∀ w'', Blk w'' w2.heap.size 26 [.slice ca cs.length cc, .slice ra rs.length rc, .bool f.els] → cellsAt w'' ⟨w2.heap.size, 0, none⟩ 0 3 = some [.slice ca cs.length cc, .slice ra rs.length rc, .bool f.els] := fun w'' h => h.cellsAt
      refine ⟨fun w'' h => by rw [hcl w'' h]; exact rfl, fun w'' h => by rw [hcl w'' h]; exact rfl, ?_⟩
      have hVd := (hV0.below hb24).below hbd4
      refine callK_of (check_c f hpo.1 hpp (by omega) (by omega) _ _ w4.drew hVd) ?_
      rintro r w5 ⟨hE, hb5⟩
      have z5 := hb5.size
      have B5 := B4d.below hb5 B4d.lt
      have R5 := (R4.drew).below hb5 R4.drew.lt
      refine ⟨B5, ?_⟩
      have hbw5 := (hbw4.trans (hbd4.mono (by omega))).trans (hb5.mono (by show w.heap.size ≤ w4.heap.size; omega))
      have zd : w4.drew.heap.size = w4.heap.size := rfl
      cases hchk : chkS f with
      | some e =>
        rw [hchk] at hE
        obtain ⟨c, e⟩ := e
        obtain ⟨eb, heb, rfl, hEB⟩ := hE
        simp -dsimp only [push_cast, Nat.reduceAdd, Nat.reduceLeDiff, Nat.reduceBEq, Int.reduceNe, Int.reduceEq, Int.reduceLT, Int.reduceLE]
        -- w5: world; R5: result's block in it; B5: file's block in it; .slice ca cs.length cc, .slice ra rs.length rc, .bool f.els: the cells; hbw5: Below w w5; $6: closing
        refine storeAgg (n := 3) (by kernel_rfl) R5 rfl (by simp) (by intro v hv; simp only [List.mem_cons, List.not_mem_nil, or_false] at hv; rcases hv with rfl | rfl | rfl <;> rfl) ?_
        intro w6 hw6
        have z6 := hw6.size
        have hb6 := hw6.kept
        have hbF := hbw5
        have zF := hbF.size
        have B6 := Blk.kept (B5) hw6.kept (fun h => by omega)
        have hbw6 : Below w.heap.size w w6 := hbF.trans (hw6.kept.below (by omega) (fun i h => by omega))
        refine ⟨B6, ?_⟩
        have d6 : cellsAt w6 ⟨w.heap.size, 0, none⟩ 0 3 = some [.slice ca cs.length cc, .slice ra rs.length rc, .bool f.els] := hw6.blk.cellsAt
        simp -dsimp only [push_cast, Nat.reduceAdd, Nat.reduceLeDiff, Nat.reduceBEq, Int.reduceNe, Int.reduceEq, Int.reduceLT, Int.reduceLE, d6]
        exact ⟨⟨_, _, _, _, _, _, _, _, rfl, fun h => by cases h⟩, hbw6⟩
      | none =>
        rw [hchk] at hE
        have hE : r = .nilIface := hE
        subst hE
        simp -dsimp only [push_cast, Nat.reduceAdd, Nat.reduceLeDiff, Nat.reduceBEq, Int.reduceNe, Int.reduceEq, Int.reduceLT, Int.reduceLE]
        -- w5: world; R5: result's block in it; B5: file's block in it; .slice ca cs.length cc, .slice ra rs.length rc, .bool f.els: the cells; hbw5: Below w w5; $6: closing
        refine storeAgg (n := 3) (by kernel_rfl) R5 rfl (by simp) (by intro v hv; simp only [List.mem_cons, List.not_mem_nil, or_false] at hv; rcases hv with rfl | rfl | rfl <;> rfl) ?_
        intro w6 hw6
        have z6 := hw6.size
        have hb6 := hw6.kept
        have hbF := hbw5
        have zF := hbF.size
        have B6 := Blk.kept (B5) hw6.kept (fun h => by omega)
        have hbw6 : Below w.heap.size w w6 := hbF.trans (hw6.kept.below (by omega) (fun i h => by omega))
        refine ⟨B6, ?_⟩
        have d6 : cellsAt w6 ⟨w.heap.size, 0, none⟩ 0 3 = some [.slice ca cs.length cc, .slice ra rs.length rc, .bool f.els] := hw6.blk.cellsAt
        simp -dsimp only [push_cast, Nat.reduceAdd, Nat.reduceLeDiff, Nat.reduceBEq, Int.reduceNe, Int.reduceEq, Int.reduceLT, Int.reduceLE, d6]
        have hk26 : Kept (· = w.heap.size) w2 w6 := (Kept.of_below (hb24.trans ((hbd4.mono (by omega)).trans (hb5.mono (by omega)))) (fun i h1 h2 => by omega)).trans hw6.kept (fun _ _ h => h)
        exact ⟨⟨_, _, _, _, _, _, _, _, rfl, fun _ => ⟨by omega, f, hpar, hchk, hV0.mono hk26 (fun i h => by omega) (fun i h => by omega)⟩⟩, hbw6⟩
    · skip
      -- .slice none 0 0, .slice none 0 0, .bool false: the cells; what Parse answered is laid
      simp -dsimp only [push_cast, Nat.reduceAdd, Nat.reduceLeDiff, Nat.reduceBEq, Int.reduceNe, Int.reduceEq, Int.reduceLT, Int.reduceLE]
      refine allocK (z := [.slice none 0 0, .slice none 0 0, .bool false]) (by kernel_rfl) ?_
      intro w3 hw3
      have z3 := hw3.size
      simp -dsimp only [push_cast, Nat.reduceAdd, Nat.reduceLeDiff, Nat.reduceBEq, Int.reduceNe, Int.reduceEq, Int.reduceLT, Int.reduceLE]
      refine storeAgg (n := 3) (by kernel_rfl) hw3.blk rfl (by simp) (by intro v hv; simp only [List.mem_cons, List.not_mem_nil, or_false] at hv; rcases hv with rfl | rfl | rfl <;> rfl) ?_
      intro w4 hw4
      have z4 := hw4.size
      have hb24 : Below w2.heap.size w2 w4 := hw3.below.trans (hw4.kept.below (by omega) (fun i h => by omega))
      have hbw4 := hbw2.trans (hb24.mono (by omega))
      have B4 : Blk w4 w2.heap.size 26 [.slice none 0 0, .slice none 0 0, .bool false] := hw4.blk
      have R4 := (hw1.blk.below hb2 (by omega)).below hb24 (by omega)
      have B4d := B4.drew
      have hbd4 := below_drew w4
      have d4 : cellsAt w4.drew ⟨w2.heap.size, 0, none⟩ 0 3 = some [.slice none 0 0, .slice none 0 0, .bool false] := B4d.cellsAt
      simp -dsimp only [push_cast, Nat.reduceAdd, Nat.reduceLeDiff, Nat.reduceBEq, Int.reduceNe, Int.reduceEq, Int.reduceLT, Int.reduceLE]
      refine wpL_drawN (fun w' => Blk w' w2.heap.size 26 [.slice none 0 0, .slice none 0 0, .bool false]) mixed (by kernel_rfl) B4d ?_
      simp -dsimp only [push_cast, Nat.reduceAdd, Nat.reduceLeDiff, Nat.reduceBEq, Int.reduceNe, Int.reduceEq, Int.reduceLT, Int.reduceLE, d4]
      have hcl : ∀ w'', Blk w'' w2.heap.size 26 [.slice none 0 0, .slice none 0 0, .bool false] → cellsAt w'' ⟨w2.heap.size, 0, none⟩ 0 3 = some [.slice none 0 0, .slice none 0 0, .bool false] := fun w'' h => h.cellsAt
      refine ⟨fun w'' h => by rw [hcl w'' h]; exact rfl, ?_⟩
      have zd : w4.drew.heap.size = w4.heap.size := rfl
      -- w4.drew: world; R4.drew: result's block in it; B4d: file's block in it; .slice none 0 0, .slice none 0 0, .bool false: the cells; (hbw4.trans (hbd4.mono (by omega))): Below w w4.drew; $6: closing
      refine storeAgg (n := 3) (by kernel_rfl) R4.drew rfl (by simp) (by intro v hv; simp only [List.mem_cons, List.not_mem_nil, or_false] at hv; rcases hv with rfl | rfl | rfl <;> rfl) ?_
      intro w6 hw6
      have z6 := hw6.size
      have hb6 := hw6.kept
      have hbF := (hbw4.trans (hbd4.mono (by omega)))
      have zF := hbF.size
      have B6 := Blk.kept (B4d) hw6.kept (fun h => by omega)
      have hbw6 : Below w.heap.size w w6 := hbF.trans (hw6.kept.below (by omega) (fun i h => by omega))
      refine ⟨B6, ?_⟩
      have d6 : cellsAt w6 ⟨w.heap.size, 0, none⟩ 0 3 = some [.slice none 0 0, .slice none 0 0, .bool false] := hw6.blk.cellsAt
      simp -dsimp only [push_cast, Nat.reduceAdd, Nat.reduceLeDiff, Nat.reduceBEq, Int.reduceNe, Int.reduceEq, Int.reduceLT, Int.reduceLE, d6]
      exact ⟨⟨_, _, _, _, _, _, _, _, rfl, fun h => by cases h⟩, hbw6⟩
end Go.Proofs.YtgodgfeinjminaaGreatDoor
end
section
namespace Cae
open Go.Proofs.YtgodgfeinjminaaGreatDoor
/-! The program's own three files, read. -/
def factC : List UInt8 := [99, 108, 97, 115, 115, 32, 97, 32, 61, 32, 91, 54, 49, 93, 59, 32, 99, 108, 97, 115, 115, 32, 98, 32, 61, 32, 97, 32, 124, 32, 91, 54, 50, 93, 59, 32, 107, 101, 101, 112, 32, 98, 58, 59]
def factD : List UInt8 := [107, 101, 101, 112, 32, 98, 58, 59]
def factE : List UInt8 := [99, 108, 97, 115, 115, 32, 97, 32, 61, 32, 91, 54, 49, 45, 55, 97, 93, 59, 32, 107, 101, 101, 112, 32, 97, 58, 32, 97, 59, 32, 98, 114, 101, 97, 107, 58, 59]
def factT : List UInt8 := [97, 98, 32, 99, 100]
def fileC : FileP := ⟨[⟨[97], 0, (.lit 10 [(97, 97)])⟩, ⟨[98], 16, (.bin 3 26 (.ref 26 [97]) (.lit 30 [(98, 98)]))⟩], [⟨36, false, (.one (.ref 41 [98])), (.cat [])⟩], true⟩
def fileD : FileP := ⟨[], [⟨0, false, (.one (.ref 5 [98])), (.cat [])⟩], true⟩
def fileE : FileP := ⟨[⟨[97], 0, (.lit 10 [(97, 122)])⟩], [⟨19, false, (.one (.ref 24 [97])), (.one (.ref 27 [97]))⟩, ⟨30, true, (.cat []), (.cat [])⟩], true⟩
theorem parse_C : parseR factC = .ok fileC := by kernel_rfl
theorem parse_D : parseR factD = .ok fileD := by kernel_rfl
theorem parse_E : parseR factE = .ok fileE := by kernel_rfl
theorem chk_D : chkS fileD = some (7, 5) := by kernel_rfl
theorem chk_E : chkS fileE = none := by kernel_rfl
def namesC : NamesP := [([97], [(97, 97)]), ([98], [(97, 98)])]
def namesE : NamesP := [([97], [(97, 122)])]
theorem or_C : setOr [(97, 97)] [(98, 98)] = [(97, 98)] := by
  unfold setOr setOf
  rw [List.mergeSort_of_pairwise (by decide)]
  kernel_rfl
theorem names_C : namesS [] fileC.classes = .ok namesC := by
  show namesS [] (⟨[97], 0, (.lit 10 [(97, 97)])⟩ :: ⟨[98], 16, (.bin 3 26 (.ref 26 [97]) (.lit 30 [(98, 98)]))⟩ :: []) = _
  have e1 : kindS [] (.lit 10 [(97, 97)]) = .ok [(97, 97)] := by kernel_rfl
  have e2 : kindS [([97], [(97, 97)])] (.bin 3 26 (.ref 26 [97]) (.lit 30 [(98, 98)])) = .ok [(97, 98)] := by
    have e3 : kindS [([97], [(97, 97)])] (.ref 26 [97]) = .ok [(97, 97)] := by kernel_rfl
    have e4 : kindS [([97], [(97, 97)])] (.lit 30 [(98, 98)]) = .ok [(98, 98)] := by kernel_rfl
    rw [kindS, e3, e4]
    dsimp only
    rw [if_pos rfl, or_C]
  rw [names_step, if_neg (by decide), e1]
  dsimp only
  rw [List.nil_append, names_step, if_neg (by decide), e2]
  dsimp only
  rw [namesS]
  rfl
theorem chk_C : chkS fileC = none := by
  unfold chkS
  rw [names_C]
  kernel_rfl
theorem names_E : namesS [] fileE.classes = .ok namesE := by kernel_rfl
theorem print_C : printP [(97, 98)] = [91, 54, 49, 45, 54, 50, 93] := by kernel_rfl
def ptsT : List Int := [97, 98, 32, 99, 100]
theorem units_T : ptsU (udec 0 factT) = ptsT := by kernel_rfl
theorem stands_one {has : KindP → Int → Prop} {pts : List Int} {k : KindP} {i : Nat} {back : Bool} : standsM has pts (.one k) i back ↔ ∃ j p, stepM pts back i = some (j, p) ∧ has k p := by
  unfold standsM
  simp only [Rch]
def stB (i : Nat) (back : Bool) : Bool := match stepM ptsT back i with
  | some (_, p) => hasP [(97, 122)] p
  | none => false
theorem has_E {p : Nat} {q : Int} : hasN namesE (.ref p [97]) q ↔ hasP [(97, 122)] q = true := by
  unfold hasN
  have e : kindS namesE (.ref p [97]) = .ok [(97, 122)] := by kernel_rfl
  rw [e]
  constructor
  · rintro ⟨s, h, hh⟩; cases h; exact hh
  · intro h; exact ⟨_, rfl, h⟩
theorem st_E {p : Nat} {i : Nat} {back : Bool} : standsM (hasN namesE) ptsT (.one (.ref p [97])) i back ↔ stB i back = true := by
  rw [stands_one]
  unfold stB
  cases h : stepM ptsT back i with
  | none =>
    constructor
    · rintro ⟨j, q, h1, _⟩; cases h1
    · intro h; cases h
  | some jp =>
    obtain ⟨j, q⟩ := jp
    constructor
    · rintro ⟨j', q', h1, h2⟩; cases h1; exact has_E.1 h2
    · intro h; exact ⟨j, q, rfl, has_E.2 h⟩
theorem is_E (i : Nat) : isM (hasN namesE) ptsT fileE.rules true i = (!(stB i true && stB i false) || decide (i = 0) || decide (i = 5)) := by
  have hm : metM (hasN namesE) ptsT ⟨19, false, (.one (.ref 24 [97])), (.one (.ref 27 [97]))⟩ i ↔ (stB i true && stB i false) = true := by
    unfold metM
    rw [st_E, st_E, Bool.and_eq_true]
  have h2 : metM (hasN namesE) ptsT ⟨30, true, (.cat []), (.cat [])⟩ i := always_met true i
  unfold isM
  show (saysM _ _ true i (⟨19, false, (.one (.ref 24 [97])), (.one (.ref 27 [97]))⟩ :: ⟨30, true, (.cat []), (.cat [])⟩ :: []) || decide (i = 0) || decide (i = 5)) = _
  rw [saysM, saysM, if_pos h2]
  cases hb : (stB i true && stB i false) with
  | true => rw [if_pos (hm.2 hb)]; rfl
  | false => rw [if_neg (fun h => by have := hm.1 h; rw [hb] at this; cases this)]; rfl
theorem breaks_E : breaksM (hasN namesE) ptsT fileE.rules fileE.els = [0, 2, 3, 5] := by
  have e : isM (hasN namesE) ptsT fileE.rules true = fun i => (!(stB i true && stB i false) || decide (i = 0) || decide (i = 5)) := funext is_E
  unfold breaksM
  rw [if_neg (by decide)]
  show (List.range 6).filter (isM (hasN namesE) ptsT fileE.rules true) = _
  rw [e]
  decide +kernel
end Cae
end
section
namespace Go.Proofs.YtgodgfeinjminaaGreatDoor
open Go.Vc Go.Proofs Go.RowKit
set_option maxRecDepth 100000
open Go.RowKit Go.Extern.Stop Go.Stop Go.Extern

/-! errors.As, its target a *api.Errno. -/
def ErrVar (w : World) : Prop := w.cell? ⟨1, 0, none⟩ = some (.iface 150 (.agg #[.pointer (some ⟨10, 33, none⟩)]))

theorem valueOfPE (a : Addr) (w : World) : (ReflectliteValue.unpack (.iface 112 (.pointer (some a)))).run Tryz.prog w
    = .ok (.agg #[.pointer (some ⟨10, 112, none⟩), .pointer (some ⟨w.heap.size, 0, none⟩), .int .u64 150]) (w.alloc (.cells #[.pointer (some a)] 112)) := by kernel_rfl
theorem typePE (a : Addr) (w : World) : (ReflectliteValue.methodAny (ReflectliteValue.valueError "reflectlite.Value.Type" 0) (fun t _ _ _ => ReflectliteType.toType t) #[.agg #[.pointer (some ⟨10, 112, none⟩), .pointer (some a), .int .u64 150]]).run Tryz.prog w
    = .ok (.iface 150 (.agg #[.pointer (some ⟨10, 112, none⟩)])) w := by kernel_rfl
theorem mKind (h : Value) (w : World) : (Go.method (Tryz.prog.types.size + Made.depth) 150 (.agg #[h]) "Kind").run Tryz.prog w = .ok (191, h) w := by kernel_rfl
theorem mElem (h : Value) (w : World) : (Go.method (Tryz.prog.types.size + Made.depth) 150 (.agg #[h]) "Elem").run Tryz.prog w = .ok (204, .agg #[h]) w := by kernel_rfl
theorem mImplements (h : Value) (w : World) : (Go.method (Tryz.prog.types.size + Made.depth) 150 (.agg #[h]) "Implements").run Tryz.prog w = .ok (205, .agg #[h]) w := by kernel_rfl
theorem mAssignableTo (h : Value) (w : World) : (Go.method (Tryz.prog.types.size + Made.depth) 150 (.agg #[h]) "AssignableTo").run Tryz.prog w = .ok (202, .agg #[h]) w := by kernel_rfl
theorem mUnwrap (a : Addr) (w : World) : (Go.method (Tryz.prog.types.size + Made.depth) 90 (.pointer (some a)) "Unwrap").run Tryz.prog w = .ok (196, .pointer (some a)) w := by kernel_rfl
theorem kindPE (w : World) : ((ReflectliteType.abiMethod fun t => (fun a : Nat => Value.int IntKind.u8 (a : Int)) <$> Rtype.kind t) #[.pointer (some ⟨10, 112, none⟩)]).run Tryz.prog w = .ok (.int .u8 22) w := by kernel_rfl
theorem kindE (w : World) : ((ReflectliteType.abiMethod fun t => (fun a : Nat => Value.int IntKind.u8 (a : Int)) <$> Rtype.kind t) #[.pointer (some ⟨10, 78, none⟩)]).run Tryz.prog w = .ok (.int .u8 2) w := by kernel_rfl

theorem rlm (z : Sem Value) (f : TypeId → Addr → Nat → Nat → Sem Value) (a : Addr) (W : World) : (ReflectliteValue.method z f #[.agg #[.pointer (some ⟨10, 112, none⟩), .pointer (some a), .int .u64 150]]).run Tryz.prog W = (f 112 a 150 22).run Tryz.prog W := by kernel_rfl
theorem isNilPE (a p : Addr) (W : World) (ha : W.cell? a = some (.pointer (some p))) :
    (ReflectliteValue.method (ReflectliteValue.valueError "reflectlite.Value.IsNil" 0) ReflectliteValue.isNil #[.agg #[.pointer (some ⟨10, 112, none⟩), .pointer (some a), .int .u64 150]]).run Tryz.prog W = .ok (.bool false) W := by
  rw [rlm]
  simp [ReflectliteValue.isNil, loadVar, isAgg, underlying, Tryz.underlying112, ha, Result.andThen]
theorem elemPE (w : World) : (ReflectliteType.method ReflectliteType.elem #[.agg #[.pointer (some ⟨10, 112, none⟩)]]).run Tryz.prog w = .ok (.iface 150 (.agg #[.pointer (some ⟨10, 78, none⟩)])) w := by kernel_rfl
theorem implementsE (w : World) : (ReflectliteType.relation "Implements" ReflectliteType.implements_ #[.agg #[.pointer (some ⟨10, 78, none⟩)], .iface 150 (.agg #[.pointer (some ⟨10, 33, none⟩)])]).run Tryz.prog w = .ok (.bool true) w := by kernel_rfl
theorem typeOfE (v : Value) (w : World) : (ReflectliteType.typeOf #[.iface 78 v]).run Tryz.prog w = .ok (.iface 150 (.agg #[.pointer (some ⟨10, 78, none⟩)])) w := by kernel_rfl
theorem typeOfA (v : Value) (w : World) : (ReflectliteType.typeOf #[.iface 90 v]).run Tryz.prog w = .ok (.iface 150 (.agg #[.pointer (some ⟨10, 90, none⟩)])) w := by kernel_rfl
theorem assignE (w : World) : (ReflectliteType.relation "AssignableTo" ReflectliteType.assignableTo #[.agg #[.pointer (some ⟨10, 78, none⟩)], .iface 150 (.agg #[.pointer (some ⟨10, 78, none⟩)])]).run Tryz.prog w = .ok (.bool true) w := by kernel_rfl
theorem assignA (w : World) : (ReflectliteType.relation "AssignableTo" ReflectliteType.assignableTo #[.agg #[.pointer (some ⟨10, 90, none⟩)], .iface 150 (.agg #[.pointer (some ⟨10, 78, none⟩)])]).run Tryz.prog w = .ok (.bool false) w := by kernel_rfl
theorem valueOfE (n : Int) (w : World) : (ReflectliteValue.unpack (.iface 78 (.int .i64 n))).run Tryz.prog w
    = .ok (.agg #[.pointer (some ⟨10, 78, none⟩), .pointer (some ⟨w.heap.size, 0, none⟩), .int .u64 130]) (w.alloc (.cells #[.int .i64 n] 78)) := by kernel_rfl
theorem elemOfPE (w : World) : (Rtype.elem? 112).run Tryz.prog w = .ok (some 78) w := by kernel_rfl
theorem mkE (p : Addr) (w : World) : (ReflectliteValue.mk 78 p ReflectliteValue.flagAddr).run Tryz.prog w = .ok (.agg #[.pointer (some ⟨10, 78, none⟩), .pointer (some p), .int .u64 386]) w := by kernel_rfl
theorem elemVPE (a p : Addr) (W : World) (ha : W.cell? a = some (.pointer (some p))) :
    (ReflectliteValue.method (ReflectliteValue.valueError "reflectlite.Value.Elem" 0) ReflectliteValue.elem #[.agg #[.pointer (some ⟨10, 112, none⟩), .pointer (some a), .int .u64 150]]).run Tryz.prog W
      = .ok (.agg #[.pointer (some ⟨10, 78, none⟩), .pointer (some p), .int .u64 386]) W := by
  rw [rlm]
  simp [ReflectliteValue.elem, loadVar, isAgg, underlying, Tryz.underlying112, ha, Result.andThen, elemOfPE, mkE]
theorem rls (ta b : Addr) (W : World) : (ReflectliteValue.set #[.agg #[.pointer (some ⟨10, 78, none⟩), .pointer (some ta), .int .u64 386], .agg #[.pointer (some ⟨10, 78, none⟩), .pointer (some b), .int .u64 130]]).run Tryz.prog W = ((loadVar 78 b >>= fun x => storeVar 78 ta x >>= fun _ => pure (.tuple #[])) : Sem Value).run Tryz.prog W := by kernel_rfl
theorem directE (w : World) : (Rtype.directlyAssignable 78 78).run Tryz.prog w = .ok true w := by kernel_rfl
theorem setE (ta b : Addr) (n : Int) (old : Value) (W : World) (hb : W.cell? b = some (.int .i64 n)) (ht : W.cell? ta = some old) (hf : W.frozen? ta = false) :
    (ReflectliteValue.set #[.agg #[.pointer (some ⟨10, 78, none⟩), .pointer (some ta), .int .u64 386], .agg #[.pointer (some ⟨10, 78, none⟩), .pointer (some b), .int .u64 130]]).run Tryz.prog W
      = .ok (.tuple #[]) (W.setCell ta (.int .i64 n)) := by
  rw [rls]
  simp [ReflectliteValue.flagAddr, loadVar, isAgg, underlying, Tryz.underlying78, hb, Result.andThen, directE, storeVar, Value.cells, storeCells, Addr.add]
  rw [run_store Tryz.prog W ta _ _ (by rfl)]
  simp [ht, hf]

end Go.Proofs.YtgodgfeinjminaaGreatDoor
end
section
namespace Go.Proofs.YtgodgfeinjminaaGreatDoor
open Go.Vc Go.Proofs Go.RowKit Cae
set_option maxRecDepth 100000
set_option linter.unusedSimpArgs false
set_option linter.unusedVariables false
attribute [local irreducible] wpL callK valK unitK runK Fun Sl Vc.Own vc vcOps opK pureK
open Go.RowKit Go.Extern.Stop Go.Stop Go.Extern
set_option maxHeartbeats 4000000

/-- (*At).Unwrap. -/
theorem unwrap_c (b : Nat) (n : Int) (w : World) (hB : w.cell? ⟨b, 0, none⟩ = some (.int .i64 n)) : Fun Tryz.prog 196 [.pointer (some ⟨b, 0, none⟩)] w fun v w' => v = .iface 78 (.int .i64 n) ∧ w' = w := by
  refine fun_of_vc Tryz.func196 rfl (by kernel_rfl) [2] rfl ?_
  simp -dsimp (maxSteps := 4000000) only [push_cast, fr0, Tryz.ntmps196, List.length_cons, List.length_nil, Nat.reduceAdd, Nat.reduceSub, Nat.reduceBEq, List.replicate_succ, List.replicate_zero]
  simp -dsimp only [push_cast, Nat.reduceAdd, Nat.reduceLeDiff, Nat.reduceBEq, Int.reduceNe, Int.reduceEq, Int.reduceLT, Int.reduceLE, hB]

/-- An error that errors.As finds an Errno in: the number. -/
inductive IsErr (w : World) : Value → Int → Prop
  | bare (n : Int) : IsErr w (.iface 78 (.int .i64 n)) n
  | at_ (b : Nat) (n : Int) : w.cell? ⟨b, 0, none⟩ = some (.int .i64 n) → IsErr w (.iface 90 (.pointer (some ⟨b, 0, none⟩))) n

theorem IsErr.mono {w w' : World} {v : Value} {n : Int} {X : Nat → Prop} (h : IsErr w v n) (hk : Kept X w w') (hX : ∀ a, v = .iface 90 (.pointer (some a)) → ¬ X a.block) : IsErr w' v n := by
  cases h with
  | bare n => exact .bare n
  | at_ b n hb => exact .at_ b n (hk.cell hb (hX _ rfl))

theorem as_c (v u : Value) (n : Int) (b c : Nat) (w : World) (hv : IsErr w v n) (hB : Blk w b 78 [u]) (hc : w.cell? ⟨c, 0, none⟩ = some (.pointer (some ⟨b, 0, none⟩))) :
    Fun Tryz.prog 72 [v, .iface 112 (.pointer (some ⟨b, 0, none⟩)), .agg #[.pointer (some ⟨10, 112, none⟩), .pointer (some ⟨c, 0, none⟩), .int .u64 150], .iface 150 (.agg #[.pointer (some ⟨10, 78, none⟩)])] w
      fun r w' => r = .bool true ∧ Blk w' b 78 [.int .i64 n] ∧ Kept (· = b) w w' := by
  refine fun_of_vc Tryz.func72 rfl (by kernel_rfl) [8] rfl ?_
  simp -dsimp (maxSteps := 4000000) only [push_cast, fr0, Tryz.ntmps72, List.length_cons, List.length_nil, Nat.reduceAdd, Nat.reduceSub, Nat.reduceBEq, List.replicate_succ, List.replicate_zero]
  refine boxK_of ?_
  intro w1 hw1
  simp -dsimp only [push_cast, Nat.reduceAdd, Nat.reduceLeDiff, Nat.reduceBEq, Int.reduceNe, Int.reduceEq, Int.reduceLT, Int.reduceLE]
  refine wpL_loop [0, 8, 9, 10, 11, 12, 14, 15, 16, 17, 18, 19, 20, 21, 22, 23, 24, 25, 26, 27, 28, 29, 30, 31, 32, 33, 34, 35, 36, 37, 38, 39, 40, 41, 42, 43, 44, 45, 46, 47, 48, 49, 50, 51, 52, 53, 54, 55, 56, 57, 58, 59, 60, 61] (fun z wx => IsErr wx (z 0) n ∧ Kept (fun _ => False) w1 wx) (fun z _ => match z 0 with | .iface _ (.pointer _) => 1 | _ => 0) ?_ ?_
  · exact ⟨hv.mono (Kept.new hw1 (X := fun _ => False)) (fun _ _ => id), Kept.refl _ _⟩
  · intro z wx hI
    obtain ⟨hv, hk⟩ := hI
    have hk0 : Kept (fun _ => False) w wx := (Kept.new hw1).trans hk (fun _ _ => id)
    have hB := hB.kept hk0 id
    have hc := hk0.cell hc id
    have c1 : cellsAt wx ⟨w.heap.size, 0, none⟩ 0 3 = some [.pointer (some ⟨10, 112, none⟩), .pointer (some ⟨c, 0, none⟩), .int .u64 150] :=
      cellsAt_of (b := w.heap.size) (o := 0) [.pointer (some ⟨10, 112, none⟩), .pointer (some ⟨c, 0, none⟩), .int .u64 150] 0 (fun j u hu => hk.cell (by simpa using hw1.cell hu) id)
    generalize hz : z 0 = v0 at hv
    cases hv with
    | bare n =>
      simp -dsimp only [push_cast, Nat.reduceAdd, Nat.reduceLeDiff, Nat.reduceBEq, Int.reduceNe, Int.reduceEq, Int.reduceLT, Int.reduceLE, hz]
      refine callK_ext (e := ReflectliteType.typeOf) Tryz.func85 (by kernel_rfl) (by kernel_rfl) (by kernel_rfl) (by kernel_rfl) (typeOfE _ _) ?_
      simp -dsimp only [push_cast, Nat.reduceAdd, Nat.reduceLeDiff, Nat.reduceBEq, Int.reduceNe, Int.reduceEq, Int.reduceLT, Int.reduceLE]
      refine invK_of (mAssignableTo _ _) ?_
      refine callK_ext (e := ReflectliteType.relation "AssignableTo" ReflectliteType.assignableTo) Tryz.func202 (by kernel_rfl) (by kernel_rfl) (by kernel_rfl) (by kernel_rfl) (assignE _) ?_
      simp -dsimp only [push_cast, Nat.reduceAdd, Nat.reduceLeDiff, Nat.reduceBEq, Int.reduceNe, Int.reduceEq, Int.reduceLT, Int.reduceLE, c1]
      refine callK_ext (e := ReflectliteValue.method (ReflectliteValue.valueError "reflectlite.Value.Elem" 0) ReflectliteValue.elem) Tryz.func86 (by kernel_rfl) (by kernel_rfl) (by kernel_rfl) (by kernel_rfl) (elemVPE _ _ _ hc) ?_
      simp -dsimp only [push_cast, Nat.reduceAdd, Nat.reduceLeDiff, Nat.reduceBEq, Int.reduceNe, Int.reduceEq, Int.reduceLT, Int.reduceLE]
      refine callK_ext (e := fun args => ReflectliteValue.unpack (args.getD 0 (.tuple #[]))) Tryz.func69 (by kernel_rfl) (by kernel_rfl) (by kernel_rfl) (by kernel_rfl) (valueOfE _ _) ?_
      simp -dsimp only [push_cast, Nat.reduceAdd, Nat.reduceLeDiff, Nat.reduceBEq, Int.reduceNe, Int.reduceEq, Int.reduceLT, Int.reduceLE]
      have hN : New wx (wx.alloc (.cells #[.int .i64 n] 78)) 78 [.int .i64 n] := ⟨rfl⟩
      generalize wx.alloc (.cells #[.int .i64 n] 78) = w2 at hN
      have hB2 := hB.kept (Kept.new hN (X := fun _ => False)) id
      have hf : w2.frozen? ⟨b, 0, none⟩ = false := by
        simp only [World.frozen?]
        rw [show w2.heap[b]? = _ from hB2]
        simp
      refine callK_ext (e := ReflectliteValue.set) Tryz.func87 (by kernel_rfl) (by kernel_rfl) (by kernel_rfl) (by kernel_rfl) (setE _ _ n u _ (hN.cell rfl) (hB2.cell rfl) hf) ?_
      simp -dsimp only [push_cast, Nat.reduceAdd, Nat.reduceLeDiff, Nat.reduceBEq, Int.reduceNe, Int.reduceEq, Int.reduceLT, Int.reduceLE]
      have hP := Put.of_setRow (cs := [.int .i64 n]) hB2
      rw [setCell_eq_setRow w2 b 0 _ _ (0, 0) _ hB2]
      exact ⟨hP.blk, (hk0.trans (Kept.new hN (X := fun _ => False)) (fun _ _ => id)).weaken (fun _ _ h => h.elim) |>.trans hP.kept (fun _ _ => id)⟩
    | at_ a n ha =>
      simp -dsimp only [push_cast, Nat.reduceAdd, Nat.reduceLeDiff, Nat.reduceBEq, Int.reduceNe, Int.reduceEq, Int.reduceLT, Int.reduceLE, hz]
      refine callK_ext (e := ReflectliteType.typeOf) Tryz.func85 (by kernel_rfl) (by kernel_rfl) (by kernel_rfl) (by kernel_rfl) (typeOfA _ _) ?_
      simp -dsimp only [push_cast, Nat.reduceAdd, Nat.reduceLeDiff, Nat.reduceBEq, Int.reduceNe, Int.reduceEq, Int.reduceLT, Int.reduceLE]
      refine invK_of (mAssignableTo _ _) ?_
      refine callK_ext (e := ReflectliteType.relation "AssignableTo" ReflectliteType.assignableTo) Tryz.func202 (by kernel_rfl) (by kernel_rfl) (by kernel_rfl) (by kernel_rfl) (assignA _) ?_
      simp -dsimp only [push_cast, Nat.reduceAdd, Nat.reduceLeDiff, Nat.reduceBEq, Int.reduceNe, Int.reduceEq, Int.reduceLT, Int.reduceLE, c1]
      refine assert_lacks (z := .nilIface) Tryz.underlying155 (by kernel_rfl) (by kernel_rfl) ?_
      simp -dsimp only [push_cast, Nat.reduceAdd, Nat.reduceLeDiff, Nat.reduceBEq, Int.reduceNe, Int.reduceEq, Int.reduceLT, Int.reduceLE]
      refine assert_has Tryz.underlying158 (by kernel_rfl) ?_
      simp -dsimp only [push_cast, Nat.reduceAdd, Nat.reduceLeDiff, Nat.reduceBEq, Int.reduceNe, Int.reduceEq, Int.reduceLT, Int.reduceLE]
      refine invK_of (mUnwrap _ _) (callK_of (unwrap_c a n wx ha) ?_)
      rintro _ _ ⟨rfl, rfl⟩
      simp -dsimp only [push_cast, Nat.reduceAdd, Nat.reduceLeDiff, Nat.reduceBEq, Int.reduceNe, Int.reduceEq, Int.reduceLT, Int.reduceLE]
      exact ⟨⟨.bare n, hk⟩, Nat.zero_lt_one⟩
end Go.Proofs.YtgodgfeinjminaaGreatDoor
end
section
namespace Go.Proofs.YtgodgfeinjminaaGreatDoor
open Go.Vc Go.Proofs Go.RowKit Cae
set_option maxRecDepth 100000
set_option linter.unusedSimpArgs false
set_option linter.unusedVariables false
attribute [local irreducible] wpL callK valK unitK runK Fun Sl Vc.Own vc vcOps opK pureK
open Go.RowKit Go.Extern.Stop Go.Stop Go.Extern
set_option maxHeartbeats 4000000

theorem asE_c (v u : Value) (n : Int) (b : Nat) (w : World) (hE : ErrVar w) (hv : IsErr w v n) (hB : Blk w b 78 [u]) :
    Fun Tryz.prog 46 [v, .iface 112 (.pointer (some ⟨b, 0, none⟩))] w
      fun r w' => r = .bool true ∧ Blk w' b 78 [.int .i64 n] ∧ Kept (· = b) w w' := by
  obtain ⟨ty, vv, hvv⟩ : ∃ ty vv, v = .iface ty vv := by cases hv <;> exact ⟨_, _, rfl⟩
  refine fun_of_vc Tryz.func46 rfl (by kernel_rfl) [4] rfl ?_
  simp -dsimp (maxSteps := 4000000) only [push_cast, fr0, Tryz.ntmps46, List.length_cons, List.length_nil, Nat.reduceAdd, Nat.reduceSub, Nat.reduceBEq, List.replicate_succ, List.replicate_zero]
  subst hvv
  simp -dsimp only [push_cast, Nat.reduceAdd, Nat.reduceLeDiff, Nat.reduceBEq, Int.reduceNe, Int.reduceEq, Int.reduceLT, Int.reduceLE]
  refine callK_ext (e := fun args => ReflectliteValue.unpack (args.getD 0 (.tuple #[]))) Tryz.func69 (by kernel_rfl) (by kernel_rfl) (by kernel_rfl) (by kernel_rfl) (valueOfPE _ _) ?_
  have hN : New w (w.alloc (.cells #[.pointer (some ⟨b, 0, none⟩)] 112)) 112 [.pointer (some ⟨b, 0, none⟩)] := ⟨rfl⟩
  generalize w.alloc (.cells #[.pointer (some ⟨b, 0, none⟩)] 112) = w1 at hN
  have k1 : Kept (fun _ => False) w w1 := Kept.new hN
  simp -dsimp only [push_cast, Nat.reduceAdd, Nat.reduceLeDiff, Nat.reduceBEq, Int.reduceNe, Int.reduceEq, Int.reduceLT, Int.reduceLE]
  refine allocK (z := [.pointer none, .pointer none, .int .u64 0]) (by kernel_rfl) ?_
  intro w2 hw2
  have k2 := k1.trans (Kept.new (X := fun _ => False) hw2) (fun _ _ => id)
  simp -dsimp only [push_cast, Nat.reduceAdd, Nat.reduceLeDiff, Nat.reduceBEq, Int.reduceNe, Int.reduceEq, Int.reduceLT, Int.reduceLE]
  refine storeAgg (n := 3) (by kernel_rfl) hw2.blk rfl (by simp) (by simp [Value.oneCell']) ?_
  intro w3 hw3
  have k3 : Kept (fun k => w.heap.size ≤ k) w w3 := (k2.weaken (fun _ _ h => h.elim)).trans hw3.kept (fun i _ h => by have := hN.size; show w.heap.size ≤ i; omega)
  have hB3 := hB.kept k3 (by have := hB.lt; omega)
  have c3 : cellsAt w3 ⟨w1.heap.size, 0, none⟩ 0 3 = some [.pointer (some ⟨10, 112, none⟩), .pointer (some ⟨w.heap.size, 0, none⟩), .int .u64 150] :=
    cellsAt_of (b := w1.heap.size) (o := 0) [.pointer (some ⟨10, 112, none⟩), .pointer (some ⟨w.heap.size, 0, none⟩), .int .u64 150] 0 (fun j u hu => by simpa using hw3.blk.cell (by simpa using hu))
  simp -dsimp only [push_cast, Nat.reduceAdd, Nat.reduceLeDiff, Nat.reduceBEq, Int.reduceNe, Int.reduceEq, Int.reduceLT, Int.reduceLE, c3]
  refine callK_ext (e := ReflectliteValue.methodAny (ReflectliteValue.valueError "reflectlite.Value.Type" 0) (fun t _ _ _ => ReflectliteType.toType t)) Tryz.func70 (by kernel_rfl) (by kernel_rfl) (by kernel_rfl) (by kernel_rfl) (typePE _ _) ?_
  have k3' : Kept (fun _ => False) w w3 := ⟨k3.os, k3.tape, k3.output, k3.size, fun i hi _ => k3.block i hi (by omega)⟩
  have hE3 : ErrVar w3 := k3'.cell hE id
  have hs3 : w3.cell? ⟨w.heap.size, 0, none⟩ = some (.pointer (some ⟨b, 0, none⟩)) := hw3.kept.cell (World.cell?_of_block (w := w1) (hw2.below.block w.heap.size (by have := hN.size; omega)) |>.trans (hN.cell rfl)) (by have := hN.size; show ¬ w.heap.size = w1.heap.size; omega)
  unfold ErrVar at hE3
  simp -dsimp only [push_cast, Nat.reduceAdd, Nat.reduceLeDiff, Nat.reduceBEq, Int.reduceNe, Int.reduceEq, Int.reduceLT, Int.reduceLE]
  refine invK_of (mKind _ _) ?_
  refine callK_ext (e := ReflectliteType.abiMethod fun t => do pure (.int .u8 (← Rtype.kind t))) Tryz.func191 (by kernel_rfl) (by kernel_rfl) (by kernel_rfl) (by kernel_rfl) (kindPE _) ?_
  simp -dsimp only [push_cast, Nat.reduceAdd, Nat.reduceLeDiff, Nat.reduceBEq, Int.reduceNe, Int.reduceEq, Int.reduceLT, Int.reduceLE, c3]
  refine callK_ext (e := ReflectliteValue.method (ReflectliteValue.valueError "reflectlite.Value.IsNil" 0) ReflectliteValue.isNil) Tryz.func71 (by kernel_rfl) (by kernel_rfl) (by kernel_rfl) (by kernel_rfl) (isNilPE _ _ _ hs3) ?_
  simp -dsimp only [push_cast, Nat.reduceAdd, Nat.reduceLeDiff, Nat.reduceBEq, Int.reduceNe, Int.reduceEq, Int.reduceLT, Int.reduceLE]
  refine invK_of (mElem _ _) ?_
  refine callK_ext (e := ReflectliteType.method ReflectliteType.elem) Tryz.func204 (by kernel_rfl) (by kernel_rfl) (by kernel_rfl) (by kernel_rfl) (elemPE _) ?_
  simp -dsimp only [push_cast, Nat.reduceAdd, Nat.reduceLeDiff, Nat.reduceBEq, Int.reduceNe, Int.reduceEq, Int.reduceLT, Int.reduceLE]
  refine invK_of (mKind _ _) ?_
  refine callK_ext (e := ReflectliteType.abiMethod fun t => do pure (.int .u8 (← Rtype.kind t))) Tryz.func191 (by kernel_rfl) (by kernel_rfl) (by kernel_rfl) (by kernel_rfl) (kindE _) ?_
  simp -dsimp only [push_cast, Nat.reduceAdd, Nat.reduceLeDiff, Nat.reduceBEq, Int.reduceNe, Int.reduceEq, Int.reduceLT, Int.reduceLE, hE3]
  refine invK_of (mImplements _ _) ?_
  refine callK_ext (e := ReflectliteType.relation "Implements" ReflectliteType.implements_) Tryz.func205 (by kernel_rfl) (by kernel_rfl) (by kernel_rfl) (by kernel_rfl) (implementsE _) ?_
  simp -dsimp only [push_cast, Nat.reduceAdd, Nat.reduceLeDiff, Nat.reduceBEq, Int.reduceNe, Int.reduceEq, Int.reduceLT, Int.reduceLE, c3]
  refine callK_of (as_c _ u n b w.heap.size w3 (hv.mono k3' (fun _ _ => id)) hB3 hs3) ?_
  rintro _ w4 ⟨rfl, hB4, hk4⟩
  simp -dsimp only [push_cast, Nat.reduceAdd, Nat.reduceLeDiff, Nat.reduceBEq, Int.reduceNe, Int.reduceEq, Int.reduceLT, Int.reduceLE]
  exact ⟨hB4, (k3'.weaken (fun _ _ h => h.elim)).trans hk4 (fun _ _ => id)⟩

theorem tell_c (v : Value) (n : Int) (w : World) (hE : ErrVar w) (hv : IsErr w v n) : Fun Tryz.prog 30 [v] w fun r w' => r = .int .i64 n ∧ Below w.heap.size w w' := by
  obtain ⟨ty, vv, hvv⟩ : ∃ ty vv, v = .iface ty vv := by cases hv <;> exact ⟨_, _, rfl⟩
  refine fun_of_vc Tryz.func30 rfl (by kernel_rfl) [2] rfl ?_
  simp -dsimp (maxSteps := 4000000) only [push_cast, fr0, Tryz.ntmps30, List.length_cons, List.length_nil, Nat.reduceAdd, Nat.reduceSub, Nat.reduceBEq, List.replicate_succ, List.replicate_zero]
  subst hvv
  simp -dsimp only [push_cast, Nat.reduceAdd, Nat.reduceLeDiff, Nat.reduceBEq, Int.reduceNe, Int.reduceEq, Int.reduceLT, Int.reduceLE]
  refine allocK (z := [.int .i64 0]) (by kernel_rfl) ?_
  intro w1 hw1
  have k1 : Kept (fun _ => False) w w1 := Kept.new hw1
  simp -dsimp only [push_cast, Nat.reduceAdd, Nat.reduceLeDiff, Nat.reduceBEq, Int.reduceNe, Int.reduceEq, Int.reduceLT, Int.reduceLE]
  refine callK_of (asE_c _ _ n _ w1 (k1.cell hE id) (hv.mono k1 (fun _ _ => id)) hw1.blk) ?_
  rintro _ w2 ⟨rfl, hB2, hk2⟩
  have c2 := hB2.cell (o := 0) rfl
  simp -dsimp only [push_cast, Nat.reduceAdd, Nat.reduceLeDiff, Nat.reduceBEq, Int.reduceNe, Int.reduceEq, Int.reduceLT, Int.reduceLE, c2]
  exact hw1.below.trans (hk2.below (Nat.le_of_lt (by have := hw1.size; omega)) (fun i h => by subst h; exact Nat.le_refl _))

end Go.Proofs.YtgodgfeinjminaaGreatDoor
end
section
namespace Go.Proofs.YtgodgfeinjminaaGreatDoor
open Go.Vc Go.Proofs Go.RowKit Cae
set_option maxRecDepth 100000
set_option linter.unusedSimpArgs false
set_option linter.unusedVariables false
attribute [local irreducible] wpL callK valK unitK runK Fun Sl Vc.Own vc vcOps opK pureK
set_option maxHeartbeats 8000000
theorem ErrVar.below {w w' : World} (h : ErrVar w) (hb : Below w.heap.size w w') : ErrVar w' := (hb.cell (World.block_lt_of_cell? w _ h)).trans h
theorem checked_c (w : World) (hd : Db w) (he : SErrs w) (hv : ErrVar w) (hg : 10 ≤ w.heap.size) : Fun Tryz.prog 16 [] w fun r w' => r = .bool true ∧ Below w.heap.size w w' := by
  refine fun_of_vc Tryz.func16 rfl (by kernel_rfl) [0] rfl ?_
  simp -dsimp (maxSteps := 4000000) only [push_cast, fr0, Tryz.ntmps16, List.length_cons, List.length_nil, Nat.reduceAdd, Nat.reduceSub, Nat.reduceBEq, List.replicate_succ, List.replicate_zero]
  -- factC: bytes; parse_C: parse lemma; w: world of the call ((Below.refl w.heap.size w): Below from w); names: w$5 the world behind
  refine callK_of (ruleParse_c factC (by decide) (w) (hd.below ((Below.refl w.heap.size w)) hd.lt) (he.below ((Below.refl w.heap.size w))) (by have := ((Below.refl w.heap.size w)).size; omega)) ?_
  rintro _ w1 ⟨hP, hb1⟩
  rcases hP with ⟨f', v, e1, rfl, hV⟩ | ⟨e, pos, b, e1, _⟩
  rotate_left
  · rw [parse_C] at e1; cases e1
  rw [parse_C] at e1
  cases e1
  have hV0 := hV
  obtain ⟨cv, rv, cs, rs, rfl, S1, S2, A1, A2⟩ := hV
  obtain ⟨ca, cc, rfl, hcc⟩ := S1.shape
  obtain ⟨ra, rc, rfl, hrc⟩ := S2.shape
  have z1 := hb1.size
  simp -dsimp only [push_cast, Nat.reduceAdd, Nat.reduceLeDiff, Nat.reduceBEq, Int.reduceNe, Int.reduceEq, Int.reduceLT, Int.reduceLE]
  refine allocK (z := [.slice none 0 0, .slice none 0 0, .bool false]) (by kernel_rfl) ?_
  intro w2 hw2
  have z2 := hw2.size
  simp -dsimp only [push_cast, Nat.reduceAdd, Nat.reduceLeDiff, Nat.reduceBEq, Int.reduceNe, Int.reduceEq, Int.reduceLT, Int.reduceLE]
  refine storeAgg (n := 3) (by kernel_rfl) hw2.blk rfl (by simp) (by intro v hv; simp only [List.mem_cons, List.not_mem_nil, or_false] at hv; rcases hv with rfl | rfl | rfl <;> rfl) ?_
  intro w3 hw3
  have z3 := hw3.size
  have B3 : Blk w3 w1.heap.size 26 [.slice ca cs.length cc, .slice ra rs.length rc, .bool fileC.els] := hw3.blk
  have hb13 : Below w1.heap.size w1 w3 := hw2.below.trans (hw3.kept.below (by omega) (fun i h => by omega))
  have hbw3 := hb1.trans (hb13.mono z1)
  have d3 : cellsAt w3 ⟨w1.heap.size, 0, none⟩ 0 3 = some [.slice ca cs.length cc, .slice ra rs.length rc, .bool fileC.els] := B3.cellsAt
  have hpo := parse_ok (s := factC) (by decide) parse_C
  have hpp := parse_pn parse_C (by decide)
  have hV3 := hV0.below hb13
  simp -dsimp only [push_cast, Nat.reduceAdd, Nat.reduceLeDiff, Nat.reduceBEq, Int.reduceNe, Int.reduceEq, Int.reduceLT, Int.reduceLE, d3]
  refine callK_of (check_c fileC hpo.1 hpp (by omega) (by omega) _ _ w3 hV3) ?_
  rintro _ w4 ⟨hE, hb4⟩
  rw [chk_C] at hE
  obtain rfl : _ = Value.nilIface := hE
  have z4 := hb4.size
  have B4 := B3.below hb4 B3.lt
  have d4 : cellsAt w4 ⟨w1.heap.size, 0, none⟩ 0 3 = some [.slice ca cs.length cc, .slice ra rs.length rc, .bool fileC.els] := B4.cellsAt
  simp -dsimp only [push_cast, Nat.reduceAdd, Nat.reduceLeDiff, Nat.reduceBEq, Int.reduceNe, Int.reduceEq, Int.reduceLT, Int.reduceLE, d4]
  refine callK_of (names_c fileC hpo.1.1 (by omega) _ _ w4 (hV3.below hb4)) ?_
  rintro _ w5 ⟨hN, hb5⟩
  have z5 := hb5.size
  unfold NamesRes at hN
  rw [names_C] at hN
  obtain ⟨mb, hmb, rfl, ⟨kvs, hM, hA⟩, hRN⟩ := hN
  have hbw5 := (hbw3.trans (hb4.mono (by omega))).trans (hb5.mono (by omega))
  simp -dsimp only [push_cast, Nat.reduceAdd, Nat.reduceLeDiff, Nat.reduceBEq, Int.reduceNe, Int.reduceEq, Int.reduceLT, Int.reduceLE]
  have hf := NamV.find (n := [98]) hA
  rcases hf with ⟨f1, f2⟩ | ⟨s, u, f1, f2, hs, ha⟩
  · cases f1
  have hs97 : s = [(97, 98)] := by cases f1; rfl
  subst hs97
  refine lookupG (kt := 9) (et := 81) (z := .slice none 0 0) (c := false) (k := [98]) (by kernel_rfl) (keyStr (by kernel_rfl)) (by kernel_rfl) hM ?_
  rw [if_neg (by decide), f2]
  obtain ⟨sa, sc, rfl, _⟩ := hs.shape
  have hdb5 := hd.below hbw5 hd.lt
  simp -dsimp only [push_cast, Nat.reduceAdd, Nat.reduceLeDiff, Nat.reduceBEq, Int.reduceNe, Int.reduceEq, Int.reduceLT, Int.reduceLE, Option.getD_some]
  refine callK_of (print_c [(97, 98)] (by decide) (by intro r hr; simp at hr; subst hr; decide) _ _ w5 hs hdb5) ?_
  rintro _ w6 ⟨rfl, hb6⟩
  have z6 := hb6.size
  have hbw6 := hbw5.trans (hb6.mono (by omega))
  rw [print_C]
  have B6 := (B4.below hb5 B4.lt).below hb6 (by have := B4.lt; omega)
  have hd6 := hd.below hbw6 hd.lt
  have he6 := he.below hbw6
  have hv6 := hv.below hbw6
  simp -dsimp only [push_cast, Nat.reduceAdd, Nat.reduceLeDiff, Nat.reduceBEq, Int.reduceNe, Int.reduceEq, Int.reduceLT, Int.reduceLE]
  refine callK_of (ruleParse_c factD (by decide) w6 hd6 he6 (by omega)) ?_
  rintro _ w7 ⟨hP, hb7⟩
  have z7 := hb7.size
  rcases hP with ⟨f', v, e1, rfl, hV⟩ | ⟨e, pos, b, e1, _⟩
  rotate_left
  · rw [parse_D] at e1; cases e1
  rw [parse_D] at e1
  cases e1
  have hW0 := hV
  obtain ⟨cv', rv', cs', rs', rfl, S1', S2', A1', A2'⟩ := hV
  obtain ⟨ca', cc', rfl, hcc'⟩ := S1'.shape
  obtain ⟨ra', rc', rfl, hrc'⟩ := S2'.shape
  have B7 := B6.below hb7 B6.lt
  have hbw7 := hbw6.trans (hb7.mono (by omega))
  simp -dsimp only [push_cast, Nat.reduceAdd, Nat.reduceLeDiff, Nat.reduceBEq, Int.reduceNe, Int.reduceEq, Int.reduceLT, Int.reduceLE]
  refine storeAgg (n := 3) (by kernel_rfl) B7 rfl (by simp) (by intro v hv; simp only [List.mem_cons, List.not_mem_nil, or_false] at hv; rcases hv with rfl | rfl | rfl <;> rfl) ?_
  intro w8 hw8
  have z8 := hw8.size
  have B8 : Blk w8 w1.heap.size 26 [.slice ca' cs'.length cc', .slice ra' rs'.length rc', .bool fileD.els] := hw8.blk
  have d8 : cellsAt w8 ⟨w1.heap.size, 0, none⟩ 0 3 = some [.slice ca' cs'.length cc', .slice ra' rs'.length rc', .bool fileD.els] := B8.cellsAt
  have hpo' := parse_ok (s := factD) (by decide) parse_D
  have hpp' := parse_pn parse_D (by decide)
  have hbw8 : Below w.heap.size w w8 := hbw7.trans (hw8.kept.below (by omega) (fun i h => by omega))
  have hV8 : FileV (· = w1.heap.size) w8 (.agg #[.slice ca' cs'.length cc', .slice ra' rs'.length rc', .bool fileD.els]) fileD := hW0.mono hw8.kept (fun i h => by omega) (fun i h => by omega)
  simp -dsimp only [push_cast, Nat.reduceAdd, Nat.reduceLeDiff, Nat.reduceBEq, Int.reduceNe, Int.reduceEq, Int.reduceLT, Int.reduceLE, d8]
  refine callK_of (check_c fileD hpo'.1 hpp' (by omega) (by omega) _ _ w8 hV8) ?_
  rintro _ w9 ⟨hE, hb9⟩
  rw [chk_D] at hE
  obtain ⟨eb, heb, rfl, hEB⟩ := hE
  have hbw9 := hbw8.trans (hb9.mono (by omega))
  have c9 : w9.cell? ⟨eb, 0, none⟩ = some (.int .i64 7) := hEB.cell rfl
  simp -dsimp only [push_cast, Nat.reduceAdd, Nat.reduceLeDiff, Nat.reduceBEq, Int.reduceNe, Int.reduceEq, Int.reduceLT, Int.reduceLE]
  refine callK_of (tell_c _ 7 w9 (hv.below hbw9) (.at_ eb 7 c9)) ?_
  rintro _ wa ⟨rfl, hba⟩
  simp -dsimp only [push_cast, Nat.reduceAdd, Nat.reduceLeDiff, Nat.reduceBEq, Int.reduceNe, Int.reduceEq, Int.reduceLT, Int.reduceLE]
  exact hbw9.trans (hba.mono hbw9.size)
end Go.Proofs.YtgodgfeinjminaaGreatDoor
end
section
namespace Go.Proofs.YtgodgfeinjminaaGreatDoor
open Go.Vc Go.Proofs Go.RowKit Cae
set_option maxRecDepth 100000
set_option linter.unusedSimpArgs false
set_option linter.unusedVariables false
attribute [local irreducible] wpL callK valK unitK runK Fun Sl Vc.Own vc vcOps opK pureK
set_option maxHeartbeats 8000000
theorem meant_c (w : World) (hd : Db w) (he : SErrs w) (hv : ErrVar w) (hl : Least w) (hg : 10 ≤ w.heap.size) : Fun Tryz.prog 6 [] w fun r w' => r = .bool true ∧ Below w.heap.size w w' := by
  refine fun_of_vc Tryz.func6 rfl (by kernel_rfl) [0] rfl ?_
  simp -dsimp (maxSteps := 4000000) only [push_cast, fr0, Tryz.ntmps6, List.length_cons, List.length_nil, Nat.reduceAdd, Nat.reduceSub, Nat.reduceBEq, List.replicate_succ, List.replicate_zero]
  refine callK_of (ruleParse_c factE (by decide) w hd he (by omega)) ?_
  rintro _ w1 ⟨hP, hb1⟩
  have z1 := hb1.size
  rcases hP with ⟨f', v, e1, rfl, hV⟩ | ⟨e, pos, b, e1, _⟩
  rotate_left
  · rw [parse_E] at e1; cases e1
  rw [parse_E] at e1
  cases e1
  have hV0 := hV
  obtain ⟨cv, rv, cs, rs, rfl, S1, S2, A1, A2⟩ := hV
  obtain ⟨ca, cc, rfl, hcc⟩ := S1.shape
  obtain ⟨ra, rc, rfl, hrc⟩ := S2.shape
  simp -dsimp only [push_cast, Nat.reduceAdd, Nat.reduceLeDiff, Nat.reduceBEq, Int.reduceNe, Int.reduceEq, Int.reduceLT, Int.reduceLE]
  refine allocK (z := [.slice none 0 0, .slice none 0 0, .bool false]) (by kernel_rfl) ?_
  intro w2 hw2
  have z2 := hw2.size
  simp -dsimp only [push_cast, Nat.reduceAdd, Nat.reduceLeDiff, Nat.reduceBEq, Int.reduceNe, Int.reduceEq, Int.reduceLT, Int.reduceLE]
  refine storeAgg (n := 3) (by kernel_rfl) hw2.blk rfl (by simp) (by intro v hv; simp only [List.mem_cons, List.not_mem_nil, or_false] at hv; rcases hv with rfl | rfl | rfl <;> rfl) ?_
  intro w3 hw3
  have z3 := hw3.size
  have B3 : Blk w3 w1.heap.size 26 [.slice ca cs.length cc, .slice ra rs.length rc, .bool fileE.els] := hw3.blk
  have hb13 : Below w1.heap.size w1 w3 := hw2.below.trans (hw3.kept.below (by omega) (fun i h => by omega))
  have hbw3 := hb1.trans (hb13.mono z1)
  have hpo := parse_ok (s := factE) (by decide) parse_E
  have hpp := parse_pn parse_E (by decide)
  have hV3 := hV0.below hb13
  have hd3 := hd.below hbw3 hd.lt
  simp -dsimp only [push_cast, Nat.reduceAdd, Nat.reduceLeDiff, Nat.reduceBEq, Int.reduceNe, Int.reduceEq, Int.reduceLT, Int.reduceLE]
  refine callK_of (checked_c w3 hd3 (he.below hbw3) (hv.below hbw3) (by omega)) ?_
  rintro _ w4 ⟨rfl, hb4⟩
  have z4 := hb4.size
  have hbw4 := hbw3.trans (hb4.mono (by omega))
  have B4 := (B3.below hb4 B3.lt).drew
  have hbd := below_drew w4
  have hV4 := (hV3.below hb4).below hbd
  have zd : w4.drew.heap.size = w4.heap.size := rfl
  have hcl : ∀ w'', Blk w'' w1.heap.size 26 [.slice ca cs.length cc, .slice ra rs.length rc, .bool fileE.els] → cellsAt w'' ⟨w1.heap.size, 0, none⟩ 0 3 = some [.slice ca cs.length cc, .slice ra rs.length rc, .bool fileE.els] := fun w'' h => h.cellsAt
  have d4 := hcl _ B4
  simp -dsimp only [push_cast, Nat.reduceAdd, Nat.reduceLeDiff, Nat.reduceBEq, Int.reduceNe, Int.reduceEq, Int.reduceLT, Int.reduceLE]
  refine wpL_drawN (fun w' => Blk w' w1.heap.size 26 [.slice ca cs.length cc, .slice ra rs.length rc, .bool fileE.els]) mixed (by kernel_rfl) B4 ?_
  simp -dsimp only [push_cast, Nat.reduceAdd, Nat.reduceLeDiff, Nat.reduceBEq, Int.reduceNe, Int.reduceEq, Int.reduceLT, Int.reduceLE, d4]
  refine ⟨fun w'' h => by rw [hcl w'' h]; exact rfl, ?_⟩
  have hbw4d := hbw4.trans (hbd.mono (by omega))
  refine callK_of (decode_c factT (by decide) w4.drew (hl.below hbw4d)) ?_
  rintro uv w5 ⟨hO, hb5⟩
  have z5 := hb5.size
  refine ⟨B4.below hb5 B4.lt, ?_⟩
  obtain ⟨ua, uc, rfl⟩ := hO.slice
  simp -dsimp only [push_cast, Nat.reduceAdd, Nat.reduceLeDiff, Nat.reduceBEq, Int.reduceNe, Int.reduceEq, Int.reduceLT, Int.reduceLE]
  refine callK_of (breaks_c fileE hpo.1 hpp (by omega) (by omega) (udec 0 factT) (by decide +kernel) (fun _ => False) _ _ w5 ((hV4.below hb5).mono (Kept.refl (fun _ => False) _) (fun _ h => h.elim) (fun _ h => h.elim)) (hO.sl.weaken (fun _ h => h.elim))) ?_
  rintro _ w6 ⟨hB, hb6⟩
  have z6 := hb6.size
  refine ⟨(B4.below hb5 B4.lt).below hb6 (by have := B4.lt; omega), ?_⟩
  have hbw6 := (hbw4d.trans (hb5.mono (by omega))).trans (hb6.mono (by omega))
  unfold BrkR at hB
  rw [chk_E] at hB
  obtain ⟨nm, bv, hnm, rfl, hBO⟩ := hB
  rw [names_E] at hnm
  cases hnm
  rw [units_T, breaks_E] at hBO
  obtain ⟨ba, bc, rfl⟩ := hBO.slice
  simp -dsimp only [push_cast, Nat.reduceAdd, Nat.reduceLeDiff, Nat.reduceBEq, Int.reduceNe, Int.reduceEq, Int.reduceLT, Int.reduceLE]
  refine rowK elI_31 rfl rfl (by omega) ?_
  intro w7 hw7
  have z7 := hw7.size
  have hO7 : Vc.Own w6.heap.size 3 1 encN w7 (.slice (some ⟨w6.heap.size, 0, none⟩) 4 4) [0, 2, 3, 5] := hw7.own (by rfl) rfl (fun _ => rfl) (by omega) (by omega)
  simp -dsimp only [push_cast, Nat.reduceAdd, Nat.reduceLeDiff, Nat.reduceBEq, Int.reduceNe, Int.reduceEq, Int.reduceLT, Int.reduceLE]
  refine callK_of (equalN_c [0, 2, 3, 5] [0, 2, 3, 5] (by decide) _ _ _ _ w7 (hBO.new hw7).sl hO7.sl) ?_
  rintro _ w8 ⟨rfl, hb8⟩
  simp -dsimp only [push_cast, Nat.reduceAdd, Nat.reduceLeDiff, Nat.reduceBEq, Int.reduceNe, Int.reduceEq, Int.reduceLT, Int.reduceLE]
  exact ((hbw6.trans (hw7.below.mono (by omega))).trans (hb8.mono (by omega)))
end Go.Proofs.YtgodgfeinjminaaGreatDoor
end
section
namespace Go.Proofs.YtgodgfeinjminaaGreatDoor
open Go.Vc Go.Proofs Go.RowKit Cae
set_option maxRecDepth 100000
set_option linter.unusedSimpArgs false
set_option linter.unusedVariables false
attribute [local irreducible] wpL callK valK unitK runK Fun Sl Vc.Own vc vcOps opK pureK

theorem indexI_c (l : List Int) (hl : l.length < 10000000) (y : Int) (X : Nat → Prop) (v : Value) (w : World) (hv : Sl X 1 (En encZ) w v l) :
    Fun Tryz.prog 24 [v, .int .i64 y] w fun r w' => (∃ n : Int, r = .int .i64 n ∧ (0 ≤ n ↔ y ∈ l)) ∧ Below w.heap.size w w' := by
  obtain ⟨a, c, rfl, hc⟩ := hv.shape
  refine fun_of_vc Tryz.func24 rfl (by kernel_rfl) [4] rfl ?_
  simp -dsimp (maxSteps := 4000000) only [push_cast, fr0, Tryz.ntmps24, List.length_cons, List.length_nil, Nat.reduceAdd, Nat.reduceSub, Nat.reduceBEq, List.replicate_succ, List.replicate_zero]
  refine wpL_loop [4, 5, 8, 9, 10, 11, 12, 13, 14, 15, 16, 17, 18] (fun z wx => ∃ (i : Nat), z 8 = .int .i64 i ∧ i ≤ l.length ∧ (y ∉ l.take i) ∧ Below w.heap.size w wx) (fun z _ => l.length - (intOf (z 8)).toNat) ?_ ?_
  · exact ⟨0, rfl, Nat.zero_le _, by simp, Below.refl _ _⟩
  · intro z wx hI
    obtain ⟨i, h8, hi, hok, hb⟩ := hI
    simp -dsimp only [push_cast, Nat.reduceAdd, Nat.reduceLeDiff, Nat.reduceBEq, Int.reduceNe, Int.reduceEq, Int.reduceLT, Int.reduceLE, h8]
    refine ⟨fun hlt => ?_, fun hge => ?_⟩
    · obtain ⟨x, hx, hxm, hd, ht⟩ := lt_get (l := l) (i := i) (by omega)
      obtain ⟨b, o, rfl, hX, hcell⟩ := (hv.below hb).get hx
      have c0 : wx.cell? ⟨b, o + i, none⟩ = some (.int .i64 x) := by simpa using hcell 0 _ rfl
      simp -dsimp only [push_cast, Nat.reduceAdd, Nat.reduceLeDiff, Nat.reduceBEq, Int.reduceNe, Int.reduceEq, Int.reduceLT, Int.reduceLE, c0]
      refine ⟨⟨by omega, by omega⟩, fun heq => ?_, fun hne => ?_⟩
      · exact ⟨⟨i, rfl, ⟨fun _ => by rw [heq]; exact hxm, fun _ => by omega⟩⟩, hb⟩
      · refine ⟨⟨by omega, by omega⟩, ⟨i + 1, rfl, by omega, ?_, hb⟩, by rw [h8]; simp only [intOf]; omega⟩
        rw [ht, List.mem_append, List.mem_singleton]
        rintro (hy | rfl)
        · exact hok hy
        · exact hne rfl
    · refine ⟨⟨-1, rfl, ?_⟩, hb⟩
      rw [List.take_of_length_le (by omega)] at hok
      constructor
      · intro h; omega
      · intro h; exact absurd h hok

theorem containsI_c (l : List Int) (hl : l.length < 10000000) (y : Int) (X : Nat → Prop) (v : Value) (w : World) (hv : Sl X 1 (En encZ) w v l) :
    Fun Tryz.prog 14 [v, .int .i64 y] w fun r w' => (∃ b : Bool, r = .bool b ∧ (b = true ↔ y ∈ l)) ∧ Below w.heap.size w w' := by
  refine fun_of_vc Tryz.func14 rfl (by kernel_rfl) [4] rfl ?_
  simp -dsimp (maxSteps := 4000000) only [push_cast, fr0, Tryz.ntmps14, List.length_cons, List.length_nil, Nat.reduceAdd, Nat.reduceSub, Nat.reduceBEq, List.replicate_succ, List.replicate_zero]
  refine callK_of (indexI_c l hl y X v w hv) ?_
  rintro r w1 ⟨⟨n, rfl, hn⟩, hb⟩
  simp -dsimp only [push_cast, Nat.reduceAdd, Nat.reduceLeDiff, Nat.reduceBEq, Int.reduceNe, Int.reduceEq, Int.reduceLT, Int.reduceLE]
  exact ⟨⟨_, rfl, by rw [decide_eq_true_iff]; exact hn⟩, hb⟩

end Go.Proofs.YtgodgfeinjminaaGreatDoor
end
section
namespace Go.Proofs.YtgodgfeinjminaaGreatDoor
open Go.Vc Go.Proofs Go.RowKit Cae
set_option maxRecDepth 100000
set_option linter.unusedSimpArgs false
set_option linter.unusedVariables false
attribute [local irreducible] wpL callK valK unitK runK Fun Sl Vc.Own vc vcOps opK pureK
set_option maxHeartbeats 8000000
theorem slInts {X : Nat → Prop} {w : World} {v : Value} {l : List Nat} (h : Sl X 1 (En encN) w v l) : Sl X 1 (En Vc.encZ) w v (intsN l) := by
  unfold Sl at h ⊢
  obtain ⟨a, c, rfl, hc, el⟩ := h
  refine ⟨a, c, by simp [intsN], by simpa [intsN] using hc, fun i x hx => ?_⟩
  unfold intsN at hx
  rw [List.getElem?_map] at hx
  obtain ⟨n, hn, rfl⟩ := Option.map_eq_some_iff.1 hx
  exact el i n hn
theorem containsN_c (l : List Nat) (hl : l.length < 10000000) (y : Nat) (X : Nat → Prop) (v : Value) (w : World) (hv : Sl X 1 (En encN) w v l) :
    Fun Tryz.prog 14 [v, .int .i64 y] w fun r w' => r = .bool (l.contains y) ∧ Below w.heap.size w w' := by
  refine (containsI_c (intsN l) (by simpa [intsN] using hl) y X v w (slInts hv)).mono ?_
  rintro r w' ⟨⟨b, rfl, hb⟩, hbb⟩
  refine ⟨?_, hbb⟩
  congr 1
  have : b = true ↔ l.contains y = true := by
    rw [hb, List.contains_iff_mem]
    unfold intsN
    rw [List.mem_map]
    constructor
    · rintro ⟨n, hn, e⟩
      have : n = y := by omega
      subst this; exact hn
    · intro h; exact ⟨y, h, rfl⟩
  cases b <;> cases hc : l.contains y <;> simp_all
end Go.Proofs.YtgodgfeinjminaaGreatDoor
end
section
namespace Cae
open Go.Proofs.YtgodgfeinjminaaGreatDoor
def turnF (f : FileP) : FileP := ⟨f.classes, f.rules.map turnR, !f.els⟩
theorem rulesS_turn {nm : NamesP} : ∀ l : List RuleP, rulesS nm (l.map turnR) = rulesS nm l
  | [] => rfl
  | r :: l => by
    rw [List.map_cons, rulesS, rulesS, rulesS_turn l]
    rfl
theorem chk_turn (f : FileP) : chkS (turnF f) = chkS f := by
  unfold chkS
  show (match namesS [] f.classes with | .error e => _ | .ok nm => (rulesS nm (f.rules.map turnR)).map _) = _
  cases namesS [] f.classes with
  | error e => rfl
  | ok nm => dsimp only; rw [rulesS_turn]
theorem breaksM_len {has : KindP → Int → Prop} {pts : List Int} (rules : List RuleP) (els : Bool) : (breaksM has pts rules els).length ≤ pts.length + 1 := by
  unfold breaksM
  split
  · simp
  · exact Nat.le_trans (List.length_filter_le _ _) (by simp)
def turnT (x : Nat × Bool × Nat × Nat) : Nat × Bool × Nat × Nat := (x.1, !x.2.1, x.2.2.1, x.2.2.2)
end Cae
namespace Go.Proofs.YtgodgfeinjminaaGreatDoor
open Go.Vc Go.Proofs Go.RowKit Cae
set_option maxRecDepth 100000
set_option linter.unusedSimpArgs false
set_option linter.unusedVariables false
attribute [local irreducible] wpL callK valK unitK runK Fun Sl Vc.Own vc vcOps opK pureK
set_option maxHeartbeats 8000000
/-- The variables as the program's text lays them. -/
structure Vm (w : World) : Prop where
  d : Db w
  e : SErrs w
  v : ErrVar w
  l : Least w
  g : 10 ≤ w.heap.size
theorem Vm.below {w w' : World} (h : Vm w) (hb : Below w.heap.size w w') : Vm w' := ⟨h.d.below hb h.d.lt, h.e.below hb, h.v.below hb, h.l.below hb, by have := hb.size; have := h.g; omega⟩
theorem cells3 {a1 a2 : Option Addr} {n1 k1 n2 k2 : Nat} {e : Bool} : ∀ v ∈ [Value.slice a1 n1 k1, .slice a2 n2 k2, .bool e], v.oneCell' = true := by
  intro v hv
  simp only [List.mem_cons, List.not_mem_nil, or_false] at hv
  rcases hv with rfl | rfl | rfl <;> rfl
theorem all2_map2 {α β γ δ : Type} {R : α → β → Prop} {S : γ → δ → Prop} {f : α → γ} {g : β → δ} {l : List α} {m : List β} (h : All2 R l m) (k : ∀ a b, R a b → S (f a) (g b)) : All2 S (l.map f) (m.map g) := by
  induction h with
  | nil => exact .nil
  | cons h1 _ ih => exact .cons (k _ _ h1) ih
theorem meanTurned_c (s t : List UInt8) (w : World) (hv : Vm w) : Fun Tryz.prog 5 [str s, str t] w fun r w' => r = .bool true ∧ Below w.heap.size w w' := by
  refine fun_of_vc Tryz.func5 rfl (by kernel_rfl) [4] rfl ?_
  simp -dsimp (maxSteps := 4000000) only [push_cast, fr0, Tryz.ntmps5, List.length_cons, List.length_nil, Nat.reduceAdd, Nat.reduceSub, Nat.reduceBEq, List.replicate_succ, List.replicate_zero]
  -- the beginning of each law: Below.refl _ _ what to do where the text is long
  refine ⟨fun hlong => Below.refl _ _, fun hshort => ?_⟩
  refine callK_of (meant_c w hv.d hv.e hv.v hv.l hv.g) ?_
  rintro _ w1 ⟨rfl, hb1⟩
  have z1 := hb1.size
  have hv1 := hv.below hb1
  simp -dsimp only [push_cast, Nat.reduceAdd, Nat.reduceLeDiff, Nat.reduceBEq, Int.reduceNe, Int.reduceEq, Int.reduceLT, Int.reduceLE]
  refine callK_of (rightF_c s w1 hv1.d hv1.e hv1.g) ?_
  rintro _ w2 ⟨⟨a1, n1, k1, a2, n2, k2, e, b, rfl, hright⟩, hb2⟩
  have z2 := hb2.size
  have hbw2 := hb1.trans (hb2.mono z1)
  simp -dsimp only [push_cast, Nat.reduceAdd, Nat.reduceLeDiff, Nat.reduceBEq, Int.reduceNe, Int.reduceEq, Int.reduceLT, Int.reduceLE]
  refine allocK (z := [.slice none 0 0, .slice none 0 0, .bool false]) (by kernel_rfl) ?_
  intro w3 hw3
  have z3 := hw3.size
  simp -dsimp only [push_cast, Nat.reduceAdd, Nat.reduceLeDiff, Nat.reduceBEq, Int.reduceNe, Int.reduceEq, Int.reduceLT, Int.reduceLE]
  refine storeAgg (n := 3) (by kernel_rfl) hw3.blk rfl (by simp) cells3 ?_
  intro w4 hw4
  have z4 := hw4.size
  have B4 : Blk w4 w2.heap.size 26 [.slice a1 n1 k1, .slice a2 n2 k2, .bool e] := hw4.blk
  have hb24 : Below w2.heap.size w2 w4 := hw3.below.trans (hw4.kept.below (by omega) (fun i h => by omega))
  have hbw4 := hbw2.trans (hb24.mono (by omega))
  have hv4 := hv.below hbw4
  have d4 : cellsAt w4 ⟨w2.heap.size, 0, none⟩ 0 3 = some [.slice a1 n1 k1, .slice a2 n2 k2, .bool e] := B4.cellsAt
  cases b with
  | false =>
    simp -dsimp only [push_cast, Nat.reduceAdd, Nat.reduceLeDiff, Nat.reduceBEq, Int.reduceNe, Int.reduceEq, Int.reduceLT, Int.reduceLE]
    exact hbw4
  | true =>
    obtain ⟨hs5, f, hpar, hchk, hV⟩ := hright rfl
    have hpo := parse_ok (by omega) hpar
    have hpp := parse_pn hpar (by omega)
    have hV4 := hV.below hb24
    obtain ⟨cv, rv, cs, rs, hag, S1, S2, A1, A2⟩ := hV
    have hsh1 := S1.shape
    obtain ⟨_, _, rfl, hcc⟩ := hsh1
    have hsh2 := S2.shape
    obtain ⟨_, _, rfl, hrc⟩ := hsh2
    simp only [Value.agg.injEq, Array.mk.injEq, List.cons.injEq, Value.slice.injEq, Value.bool.injEq, and_true] at hag
    obtain ⟨⟨rfl, rfl, rfl⟩, ⟨rfl, rfl, rfl⟩, rfl⟩ := hag
    have hrl := All2.len A2
    simp -dsimp only [push_cast, Nat.reduceAdd, Nat.reduceLeDiff, Nat.reduceBEq, Int.reduceNe, Int.reduceEq, Int.reduceLT, Int.reduceLE, d4]
    refine allocK (z := [.slice none 0 0, .slice none 0 0, .bool false]) (by kernel_rfl) ?_
    intro w5 hw5
    have z5 := hw5.size
    simp -dsimp only [push_cast, Nat.reduceAdd, Nat.reduceLeDiff, Nat.reduceBEq, Int.reduceNe, Int.reduceEq, Int.reduceLT, Int.reduceLE]
    refine storeAgg (n := 3) (by kernel_rfl) hw5.blk rfl (by simp) cells3 ?_
    intro w6 hw6
    have z6 := hw6.size
    have hb46 : Below w4.heap.size w4 w6 := hw5.below.trans (hw6.kept.below (by omega) (fun i h => by omega))
    have e6 : w6.cell? ⟨w2.heap.size, 2, none⟩ = some (.bool f.els) := (B4.below hb46 (by omega)).cell rfl
    simp -dsimp only [push_cast, Nat.reduceAdd, Nat.reduceLeDiff, Nat.reduceBEq, Int.reduceNe, Int.reduceEq, Int.reduceLT, Int.reduceLE, e6]
    refine storeK_of hw6.blk (by simp) rfl ?_
    intro w7 hw7
    have z7 := hw7.size
    simp -dsimp only [push_cast, Nat.reduceAdd, Nat.reduceLeDiff, Nat.reduceBEq, Int.reduceNe, Int.reduceEq, Int.reduceLT, Int.reduceLE]
    refine storeK_of hw7.blk (by simp) rfl ?_
    intro w8 hw8
    have z8 := hw8.size
    have hb48 : Below w4.heap.size w4 w8 := hb46.trans ((hw7.kept.below (by omega) (fun i h => by omega)).trans (hw8.kept.below (by omega) (fun i h => by omega)))
    have G8 : Blk w8 w4.heap.size 26 [.slice a1 cs.length k1, .slice none 0 0, .bool (!f.els)] := hw8.blk
    have hB48 := hbw4.trans (hb48.mono (by omega))
    simp -dsimp only [push_cast, Nat.reduceAdd, Nat.reduceLeDiff, Nat.reduceBEq, Int.reduceNe, Int.reduceEq, Int.reduceLT, Int.reduceLE]
    refine wpL_loop [8, 9, 34, 35, 36, 37, 38, 39, 40, 41, 42, 43, 44, 45, 46, 47, 48, 49, 50, 51, 52, 53, 54, 55] (fun z wx => ∃ (i : Nat) (ov : Value), z 8 = .int .i64 i ∧ i ≤ f.rules.length ∧ Blk wx w4.heap.size 26 [.slice a1 cs.length k1, ov, .bool (!f.els)] ∧ Vc.Own w8.heap.size 42 4 encRu wx ov ((rs.take i).map turnT) ∧ Below w4.heap.size w4 wx ∧ w8.heap.size ≤ wx.heap.size) (fun z _ => f.rules.length - (intOf (z 8)).toNat) ?_ ?_
    · exact ⟨0, _, rfl, Nat.zero_le _, G8, Vc.Own.nil (enc := encRu) _ _ (fun _ => rfl) _, hb48, Nat.le_refl _⟩
    · intro z wx hI
      obtain ⟨i, ov, h8, hi, hG, hO, hb4x, zx⟩ := hI
      have hbx := hbw4.trans (hb4x.mono (by omega))
      have F1 : wx.cell? ⟨w2.heap.size, 1, none⟩ = some (.slice a2 rs.length k2) := (B4.below hb4x (by omega)).cell rfl
      simp -dsimp only [push_cast, Nat.reduceAdd, Nat.reduceLeDiff, Nat.reduceBEq, Int.reduceNe, Int.reduceEq, Int.reduceLT, Int.reduceLE, h8, F1]
      refine ⟨fun hlt => ?_, fun hge => ?_⟩
      · obtain ⟨x, hx, hxm, _, ht⟩ := lt_get (l := rs) (i := i) (by omega)
        have S2x := (S2.below hb24).below hb4x
        obtain ⟨b1, o, rfl, hnb, hcell⟩ := S2x.get hx
        obtain ⟨xp, xb, x1, x2⟩ := x
        have c4 : cellsAt wx ⟨b1, o + i * 4, none⟩ 0 4 = some [.int .i64 xp, .bool xb, .pointer (some ⟨x1, 0, none⟩), .pointer (some ⟨x2, 0, none⟩)] := cellsAt_of _ 0 (fun j u hu => by simpa [encRu, ptrP] using hcell j u hu)
        simp -dsimp only [push_cast, Nat.reduceAdd, Nat.reduceLeDiff, Nat.reduceBEq, Int.reduceNe, Int.reduceEq, Int.reduceLT, Int.reduceLE, c4]
        refine ⟨⟨by omega, by omega⟩, ?_⟩
        refine allocK (z := [.int .i64 0, .bool false, .pointer none, .pointer none]) (by kernel_rfl) ?_
        intro wa hwa
        have za := hwa.size
        simp -dsimp only [push_cast, Nat.reduceAdd, Nat.reduceLeDiff, Nat.reduceBEq, Int.reduceNe, Int.reduceEq, Int.reduceLT, Int.reduceLE]
        refine storeAgg (n := 4) (by kernel_rfl) hwa.blk rfl (by simp) (by simp [Value.oneCell']) ?_
        intro wb hwb
        have zb := hwb.size
        have cb : wb.cell? ⟨wx.heap.size, 1, none⟩ = some (.bool xb) := hwb.blk.cell rfl
        simp -dsimp only [push_cast, Nat.reduceAdd, Nat.reduceLeDiff, Nat.reduceBEq, Int.reduceNe, Int.reduceEq, Int.reduceLT, Int.reduceLE, cb]
        refine storeK_of hwb.blk (by simp) rfl ?_
        intro wc hwc
        have zc := hwc.size
        have hbxc : Below wx.heap.size wx wc := hwa.below.trans ((hwb.kept.below (by omega) (fun i h => by omega)).trans (hwc.kept.below (by omega) (fun i h => by omega)))
        have Rc : Blk wc wx.heap.size 42 [.int .i64 xp, .bool (!xb), .pointer (some ⟨x1, 0, none⟩), .pointer (some ⟨x2, 0, none⟩)] := hwc.blk
        have Gc := hG.below hbxc (by omega)
        have hOc := hO.below hbxc
        have g1 : wc.cell? ⟨w4.heap.size, 1, none⟩ = some ov := Gc.cell rfl
        have dc : cellsAt wc ⟨wx.heap.size, 0, none⟩ 0 4 = some [.int .i64 xp, .bool (!xb), .pointer (some ⟨x1, 0, none⟩), .pointer (some ⟨x2, 0, none⟩)] := Rc.cellsAt
        simp -dsimp only [push_cast, Nat.reduceAdd, Nat.reduceLeDiff, Nat.reduceBEq, Int.reduceNe, Int.reduceEq, Int.reduceLT, Int.reduceLE, g1, dc]
        refine rowK elI_24 rfl rfl (by omega) ?_
        intro wr hwr
        have zr := hwr.size
        simp -dsimp only [push_cast, Nat.reduceAdd, Nat.reduceLeDiff, Nat.reduceBEq, Int.reduceNe, Int.reduceEq, Int.reduceLT, Int.reduceLE]
        refine appendK2 (base := w8.heap.size) [turnT (xp, xb, x1, x2)] (enc := encRu) elI_24 (hOc.new hwr) (by rfl) (fun j u hu => by rw [Nat.zero_add]; exact hwr.cell hu) encRu_one (by simp only [List.length_cons, List.length_nil, List.length_map, List.length_take]; omega) (by omega) ?_
        intro vq wq hOq hgq hnq
        have hkq : Kept (fun j => ov.ownBlock = some j) wr wq := Kept.grown hgq (fun _ h => h)
        have hob := hO.block
        have Gq := (Gc.below hwr.below (by omega)).kept hkq (fun h => by have := hob _ h; omega)
        have zq := hkq.size
        obtain ⟨qa, qc, rfl⟩ := hOq.slice
        simp -dsimp only [push_cast, Nat.reduceAdd, Nat.reduceLeDiff, Nat.reduceBEq, Int.reduceNe, Int.reduceEq, Int.reduceLT, Int.reduceLE]
        refine storeK_of Gq (by simp) rfl ?_
        intro we hwe
        have ze := hwe.size
        have Ge : Blk we w4.heap.size 26 [.slice a1 cs.length k1, .slice qa ((rs.take i).map turnT ++ [turnT (xp, xb, x1, x2)]).length qc, .bool (!f.els)] := hwe.blk
        have hOe := hOq.keptX hwe.kept (fun g hg h => by have := hOq.block g hg; omega)
        have hb4e : Below w4.heap.size w4 we := hb4x.trans ((hbxc.mono (by omega)).trans ((hwr.below.mono (by omega)).trans ((hkq.below (by omega) (fun g h => by have := hob g h; omega)).trans (hwe.kept.below (by omega) (fun i h => by omega)))))
        have hls : (rs.take (i + 1)).map turnT = (rs.take i).map turnT ++ [turnT (xp, xb, x1, x2)] := by rw [ht, List.map_append]; rfl
        simp -dsimp only [push_cast, Nat.reduceAdd, Nat.reduceLeDiff, Nat.reduceBEq, Int.reduceNe, Int.reduceEq, Int.reduceLT, Int.reduceLE]
        refine ⟨⟨by omega, by omega⟩, ⟨i + 1, _, rfl, by omega, Ge, ?_, hb4e, by omega⟩, by rw [h8]; simp only [intOf]; omega⟩
        rw [hls]
        exact hOe
      · rw [List.take_of_length_le (by omega)] at hO
        have hul := udec_length t.length t 0 rfl
        refine callK_of (decode_c t (by omega) wx (hv.below hbx).l) ?_
        rintro uv wy ⟨hU, hby⟩
        have zy := hby.size
        have hb4y := hb4x.trans (hby.mono (by omega))
        have hbwy := hbx.trans (hby.mono (by omega))
        obtain ⟨ua, uc, rfl⟩ := hU.slice
        have Fy := B4.below hb4y (by omega)
        have Gy := hG.below hby (by omega)
        have dF : cellsAt wy ⟨w2.heap.size, 0, none⟩ 0 3 = some [.slice a1 cs.length k1, .slice a2 rs.length k2, .bool f.els] := Fy.cellsAt
        have hVy : FileV (fun _ => False) wy (.agg #[.slice a1 cs.length k1, .slice a2 rs.length k2, .bool f.els]) f := (hV4.below hb4y).mono (Kept.refl (fun _ => False) _) (fun _ h => h.elim) (fun _ h => h.elim)
        simp -dsimp only [push_cast, Nat.reduceAdd, Nat.reduceLeDiff, Nat.reduceBEq, Int.reduceNe, Int.reduceEq, Int.reduceLT, Int.reduceLE, dF]
        refine callK_of (breaks_c f hpo.1 hpp (by omega) (by omega) (udec 0 t) (by omega) (fun _ => False) _ _ wy hVy (hU.sl.weaken (fun _ h => h.elim))) ?_
        rintro _ wa ⟨hA, hba⟩
        have za := hba.size
        unfold BrkR at hA
        rw [hchk] at hA
        obtain ⟨nm, av, hnm, rfl, hAO⟩ := hA
        obtain ⟨aa, ac, rfl⟩ := hAO.slice
        have Ga := Gy.below hba (by omega)
        obtain ⟨ga, gc, rfl⟩ := hO.slice
        have dG : cellsAt wa ⟨w4.heap.size, 0, none⟩ 0 3 = some [.slice a1 cs.length k1, .slice ga (rs.map turnT).length gc, .bool (!f.els)] := Ga.cellsAt
        have hUa := hU.below hba
        have hOa := (hO.below hby).below hba
        have hb4a := hb4y.trans (hba.mono (by omega))
        have hVa : FileV (fun _ => False) wa (.agg #[.slice a1 cs.length k1, .slice ga (rs.map turnT).length gc, .bool (!f.els)]) (turnF f) :=
          ⟨_, _, cs, rs.map turnT, rfl, ((S1.below hb24).below hb4a).weaken (fun _ h => h.elim), hOa.sl.weaken (fun _ h => h.elim), A1.imp fun a c h => ClsR.mono (Kept.refl (fun _ => False) _) (fun _ h => h.elim) (fun _ h => h.elim) ⟨h.1, h.2.1, (h.2.2.below hb24).below hb4a⟩,
            all2_map2 A2 fun a c h => ⟨h.1, by rw [turnT, turnR, h.2.1], PatV.weak ((h.2.2.1.below hb24).below hb4a) (fun _ h => h.elim), PatV.weak ((h.2.2.2.below hb24).below hb4a) (fun _ h => h.elim)⟩⟩
        have hok' : FileOk (turnF f) := ⟨hpo.1.1, fun r hr => by
          obtain ⟨c, hc, rfl⟩ := List.mem_map.1 hr
          exact hpo.1.2 c hc⟩
        have hpp' : PnOk (turnF f) := fun r hr => by
          obtain ⟨c, hc, rfl⟩ := List.mem_map.1 hr
          exact hpp c hc
        have hlr' : (turnF f).rules.length ≤ 1000000 := by
          show (f.rules.map turnR).length ≤ 1000000
          rw [List.length_map]
          omega
        simp -dsimp only [push_cast, Nat.reduceAdd, Nat.reduceLeDiff, Nat.reduceBEq, Int.reduceNe, Int.reduceEq, Int.reduceLT, Int.reduceLE, dG]
        refine callK_of (breaks_c (turnF f) hok' hpp' (by show f.classes.length ≤ 1000000; omega) hlr' (udec 0 t) (by omega) (fun _ => False) _ _ wa hVa (hUa.sl.weaken (fun _ h => h.elim))) ?_
        rintro _ wb ⟨hB, hbb⟩
        have zb := hbb.size
        unfold BrkR at hB
        rw [chk_turn, hchk] at hB
        obtain ⟨nm', bv, hnm', rfl, hBO⟩ := hB
        have hnn : nm' = nm := by
          have h1 : namesS [] f.classes = .ok nm' := hnm'
          rw [hnm] at h1
          cases h1
          rfl
        subst hnn
        obtain ⟨ba, bc, rfl⟩ := hBO.slice
        have hAb := hAO.below hbb
        have hbwb := hbwy.trans ((hba.mono (by omega)).trans (hbb.mono (by omega)))
        have hlA : (breaksM (hasN nm') (ptsU (udec 0 t)) f.rules f.els).length ≤ 100000 := by have := breaksM_len (has := hasN nm') (pts := ptsU (udec 0 t)) f.rules f.els; rw [ptsU_len] at this; omega
        have hlB : (breaksM (hasN nm') (ptsU (udec 0 t)) (turnF f).rules (turnF f).els).length ≤ 100000 := by have := breaksM_len (has := hasN nm') (pts := ptsU (udec 0 t)) (turnF f).rules (turnF f).els; rw [ptsU_len] at this; omega
        have hin := fun (k : Nat) (h1 : 1 ≤ k) (h2 : k < (ptsU (udec 0 t)).length) => turned_in (has := hasN nm') (pts := ptsU (udec 0 t)) f.rules f.els h1 h2
        rw [ptsU_len] at hin
        simp -dsimp only [push_cast, Nat.reduceAdd, Nat.reduceLeDiff, Nat.reduceBEq, Int.reduceNe, Int.reduceEq, Int.reduceLT, Int.reduceLE]
        refine wpL_loop [4, 15, 76, 77, 78, 79, 80, 81, 82, 83, 84, 85, 86, 87, 88] (fun z wz => ∃ (i : Nat), z 15 = .int .i64 i ∧ 1 ≤ i ∧ Below wb.heap.size wb wz) (fun z _ => (udec 0 t).length - (intOf (z 15)).toNat) ?_ ?_
        · exact ⟨1, rfl, Nat.le_refl _, Below.refl _ _⟩
        · intro z wz hI
          obtain ⟨i, h15, hi1, hbz⟩ := hI
          have zz := hbz.size
          have hbwz := hbwb.trans (hbz.mono (by omega))
          simp -dsimp only [push_cast, Nat.reduceAdd, Nat.reduceLeDiff, Nat.reduceBEq, Int.reduceNe, Int.reduceEq, Int.reduceLT, Int.reduceLE, h15]
          refine ⟨fun hlt => ?_, fun hge => ?_⟩
          · refine callK_of (containsN_c _ (by omega) i _ _ wz (hAb.below hbz).sl) ?_
            rintro _ wc ⟨rfl, hbc⟩
            have zc := hbc.size
            simp -dsimp only [push_cast, Nat.reduceAdd, Nat.reduceLeDiff, Nat.reduceBEq, Int.reduceNe, Int.reduceEq, Int.reduceLT, Int.reduceLE]
            refine callK_of (containsN_c _ (by omega) i _ _ wc ((hBO.below hbz).below hbc).sl) ?_
            rintro _ wd ⟨rfl, hbd⟩
            have hk := hin i hi1 (by omega)
            have hk : (breaksM (hasN nm') (ptsU (udec 0 t)) (turnF f).rules (turnF f).els).contains i = !(breaksM (hasN nm') (ptsU (udec 0 t)) f.rules f.els).contains i := hk
            rw [hk]
            have hq : ∃ q, (breaksM (hasN nm') (ptsU (udec 0 t)) f.rules f.els).contains i = q := ⟨_, rfl⟩
            obtain ⟨q, hq⟩ := hq
            rw [hq]
            cases q <;> (
              simp -dsimp only [push_cast, Nat.reduceAdd, Nat.reduceLeDiff, Nat.reduceBEq, Int.reduceNe, Int.reduceEq, Int.reduceLT, Int.reduceLE]
              refine ⟨fun h => (by cases h), fun _ => ?_⟩
              simp -dsimp only [push_cast, Nat.reduceAdd, Nat.reduceLeDiff, Nat.reduceBEq, Int.reduceNe, Int.reduceEq, Int.reduceLT, Int.reduceLE]
              exact ⟨⟨by omega, by omega⟩, ⟨i + 1, rfl, by omega, hbz.trans ((hbc.mono (by omega)).trans (hbd.mono (by omega)))⟩, by rw [h15]; simp only [intOf]; omega⟩)
          · exact hbwz
end Go.Proofs.YtgodgfeinjminaaGreatDoor
end
section
namespace Go.Proofs.YtgodgfeinjminaaGreatDoor
open Go.ChangeShapes Go.WideShapes Go.ChangeAt Go.RowKit Go.Vc Cae
set_option maxRecDepth 100000
set_option linter.unusedSimpArgs false
set_option linter.unusedVariables false
theorem own : ownKnob Tryz.prog.godebug = none := by kernel_rfl
theorem laidOut : laidOutB Tryz.prog = true := by kernel_rfl

def dbTab : List Int := [0, 1, 56, 2, 57, 49, 28, 3, 61, 58, 42, 50, 38, 29, 17, 4, 62, 47, 59, 36, 45, 43, 51, 22, 53, 39, 33, 30, 24, 18, 12, 5, 63, 55, 48, 27, 60, 41, 37, 16, 46, 35, 44, 21, 52, 32, 23, 11, 54, 26, 40, 15, 34, 20, 31, 10, 25, 14, 19, 9, 13, 8, 7, 6]
/-- The table of trailing zeros, as the row's condition gives it. -/
theorem db_of {W : World} {l : List (String × DataW Unit)} (hl : (l.filter fun x => x.1 == "math/bits.deBruijn64tab") = [("math/bits.deBruijn64tab", Rows.laid_math_bits_deBruijn64tab)]) (h : laidMetH Tryz.prog l W) : Db W := by
  have h := h.filter (fun x => x.1 == "math/bits.deBruijn64tab")
  rw [hl, MakeChecks.laidMetH_plain _ _ _ (by kernel_rfl)] at h
  have hg : Tryz.prog.globalNamed "math/bits.deBruijn64tab" = some 7 := by kernel_rfl
  have ht : Lib.TabIs Tryz.prog W "math/bits.deBruijn64tab" .u8 dbTab := Lib.tabIs_of_head (n := 64) (t := 240) (e := 5) hg (by kernel_rfl) (by kernel_rfl) (by kernel_rfl) (by kernel_rfl) (by kernel_rfl) h
  exact ht.cell hg 15 (by decide)

theorem errs_of {W : World} {l : List (String × DataW Unit)} (h1 : (l.filter fun x => x.1 == "strconv.ErrSyntax") = [("strconv.ErrSyntax", Rows.laid_strconv_ErrSyntax)]) (h2 : (l.filter fun x => x.1 == "strconv.ErrRange") = [("strconv.ErrRange", Rows.laid_strconv_ErrRange)]) (h : laidMetH Tryz.prog l W) : SErrs W := by
  constructor
  · have h := h.filter (fun x => x.1 == "strconv.ErrSyntax")
    rw [h1, MakeChecks.laidMetH_plain _ _ _ (by kernel_rfl)] at h
    obtain ⟨ps, ⟨g, t, cs, fuel, p, q, hg, ht, hv, hd, _, _⟩, _, _⟩ := h
    obtain rfl := Option.some.inj ((show Tryz.prog.globalNamed "strconv.ErrSyntax" = some 4 by kernel_rfl).symm.trans hg)
    obtain rfl := Option.some.inj ((show (Tryz.prog.globals[4]?).map (·.type) = some 33 by kernel_rfl).symm.trans ht)
    obtain ⟨_, u, v, hcs, _, _⟩ := iface_of_trod Tryz.underlying33 hd
    obtain ⟨lc⟩ := cs
    have hcs' : lc = [.iface u v] := hcs
    subst hcs'
    exact ⟨u, v, by simpa using World.var?_cell hg hv 0⟩
  · have h := h.filter (fun x => x.1 == "strconv.ErrRange")
    rw [h2, MakeChecks.laidMetH_plain _ _ _ (by kernel_rfl)] at h
    obtain ⟨ps, ⟨g, t, cs, fuel, p, q, hg, ht, hv, hd, _, _⟩, _, _⟩ := h
    obtain rfl := Option.some.inj ((show Tryz.prog.globalNamed "strconv.ErrRange" = some 5 by kernel_rfl).symm.trans hg)
    obtain rfl := Option.some.inj ((show (Tryz.prog.globals[5]?).map (·.type) = some 33 by kernel_rfl).symm.trans ht)
    obtain ⟨_, u, v, hcs, _, _⟩ := iface_of_trod Tryz.underlying33 hd
    obtain ⟨lc⟩ := cs
    have hcs' : lc = [.iface u v] := hcs
    subst hcs'
    exact ⟨u, v, by simpa using World.var?_cell hg hv 0⟩

def laidE : List (String × DataW Unit) := [("errors.errorType", Rows.laid_errors_errorType)]

theorem errVar_of {W : World} {l : List (String × DataW Unit)} (hl : (l.filter fun x => x.2.handleName?.isSome) = laidE) (h : laidMetH Tryz.prog l W) : ErrVar W := by
  have h' := (laidMetH_iff.1 h).2
  obtain ⟨name, u, ty, e1, e2, e3, e4, e5⟩ := h' ("errors.errorType", Rows.laid_errors_errorType) (by rw [hl]; exact List.mem_singleton.2 rfl)
  have en : name = [101, 114, 114, 111, 114] := (Option.some.inj e1).symm
  subst en
  obtain rfl := Option.some.inj ((show (Tryz.prog.cutTypes.find? (·.1 == "internal/reflectlite.rtype")).map (·.2) = some 150 by kernel_rfl).symm.trans e2)
  have hm : ty ∈ (List.range Tryz.prog.types.size).filter fun t => Tryz.prog.rowNamed t [101, 114, 114, 111, 114] := List.mem_filter.2 ⟨List.mem_range.2 e3, e4⟩
  rw [show ((List.range Tryz.prog.types.size).filter fun t => Tryz.prog.rowNamed t [101, 114, 114, 111, 114]) = [33] by kernel_rfl] at hm
  obtain rfl := List.mem_singleton.1 hm
  rw [show typeHandle Tryz.prog 33 = .pointer (some ⟨10, 33, none⟩) by kernel_rfl] at e5
  have := World.var?_cell (show Tryz.prog.globalNamed "errors.errorType" = some 1 by kernel_rfl) e5 0
  unfold ErrVar
  simpa using this

/-- The table of least code points, as the row's condition gives it. -/
theorem least_of {W : World} {l : List (String × DataW Unit)} (hl : (l.filter fun x => x.1 == "caesura/utf.least") = [("caesura/utf.least", Rows.laid_caesura_utf_least)]) (h : laidMetH Tryz.prog l W) : Least W := by
  have h := h.filter (fun x => x.1 == "caesura/utf.least")
  rw [hl, MakeChecks.laidMetH_plain _ _ _ (by kernel_rfl)] at h
  obtain ⟨ps, ⟨g, t, cs, fuel, p, q, hg, ht, hv, hd, _, _⟩, _, _⟩ := h
  obtain rfl := Option.some.inj ((show Tryz.prog.globalNamed "caesura/utf.least" = some 0 by kernel_rfl).symm.trans hg)
  obtain rfl := Option.some.inj ((show (Tryz.prog.globals[0]?).map (·.type) = some 86 by kernel_rfl).symm.trans ht)
  have c5 : Tryz.prog.cellsOf 3 = 1 := by kernel_rfl
  have c29 : Tryz.prog.cellsOf 86 = 5 := by kernel_rfl
  obtain ⟨xs, m, _, ex, hlen, hl, hel⟩ := DataW.trod_array Tryz.underlying86 hd
  rw [c29] at hlen
  have key : cs = #[.int .i64 0, .int .i64 0, .int .i64 128, .int .i64 2048, .int .i64 65536] := by
    obtain ⟨l⟩ := cs
    match l, hlen with
    | [a, b, c, d, e], _ =>
      match xs, hl with
      | [x0, x1, x2, x3, x4], _ =>
        have e3 := (DataW.agg.inj (Prod.mk.inj ex).1)
        simp only [List.map_cons, List.map_nil, List.cons.injEq, and_true] at e3
        have k0 := hel 0 (by omega); have k1 := hel 1 (by omega); have k2 := hel 2 (by omega); have k3 := hel 3 (by omega); have k4 := hel 4 (by omega)
        rw [c5] at k0 k1 k2 k3 k4
        obtain ⟨z0, a0, b0, _⟩ := DataW.trod_int Tryz.underlying3 k0
        obtain ⟨z1, a1, b1, _⟩ := DataW.trod_int Tryz.underlying3 k1
        obtain ⟨z2, a2, b2, _⟩ := DataW.trod_int Tryz.underlying3 k2
        obtain ⟨z3, a3, b3, _⟩ := DataW.trod_int Tryz.underlying3 k3
        obtain ⟨z4, a4, b4, _⟩ := DataW.trod_int Tryz.underlying3 k4
        simp_all
        omega
  subst key
  intro k hk
  rw [World.var?_cell hg hv k]
  have : k = 0 ∨ k = 1 ∨ k = 2 ∨ k = 3 ∨ k = 4 := by omega
  rcases this with e | e | e | e | e <;> subst e <;> rfl

/-- The wrap, the world's shape kept, and a premise of the row's own. -/
theorem handed_and {H : Type} {enc : TypeId × Value → H} {a : Assume} {C : Checked} {os : Os} {f : FuncId} {fn : Func} {s : ChangeSpec} {conds : List PathCond} {apart fresh handsOn again : Bool} {X : World → Array Value → Prop}
    (hX : ∀ (w w' : World) (args : Array Value), w.heap = w'.heap → X w args → X w' args)
    (own : ownKnob C.prog.godebug = none) (started : os.Started) (noInit : C.prog.inits.idxOf? f = none) (hfn : C.prog.funcs[f]? = some fn)
    (witness : ∃ (w : World) (tape : Tape) (i : Input), w.os = os ∧ (w.forCall tape i).Shaped C.prog ∧ i.vars = [] ∧ Input.okWide C.prog (w.forCall tape i) .any w.heap.size f i ∧
      ((s.pre enc C.prog fn conds apart (w.forCall tape i).memory i.args ∧ X (w.forCall tape i).memory i.args) ∧ sizedMet enc C.prog fn (OpenSpec.ofChange s) apart (w.forCall tape i).memory i.args) ∧ a.holds C.prog (lone (Frame.enter C.prog f i.args .normal) [] (w.forCall tape i)))
    (contract : ∀ (W : World) (base : Nat) (args : Array Value) (ds gs : List (DataW H)) (before : List MemPlace),
      (∀ (j : Nat) t v, fn.params[j]? = some t → args[j]? = some v → Value.okWide C.prog W .any base t v) →
      DataW.Whole enc C.prog fn.params.toList s.vars apart W args.toList ds gs before →
      (DataW.weightsEach C.prog (fn.params.toList ++ s.plain.varTypes C.prog) (ds ++ gs)).all (· ≤ reachBytes) = true → X W args → W.ShapedOpen C.prog →
      Calls C.prog f args W fun e W' => ∃ v, e = .returned v ∧ s.post enc C.prog fn apart fresh handsOn again W args v W') :
    ReturnsInHanded a C os f .any (fun w args => (s.pre enc C.prog fn conds apart w args ∧ X w args) ∧ sizedMet enc C.prog fn (OpenSpec.ofChange s) apart w args) (s.post enc C.prog fn apart fresh handsOn again) := by
  refine returnsInHanded_of_calls own started noInit witness ?_
  intro w tape i _ hsh _ hok hpre hholds
  obtain ⟨_, _, _, fn', hfn', _, _, _, _, hval⟩ := hok
  have e : fn' = fn := Option.some.inj (hfn'.symm.trans hfn)
  subst e
  obtain ⟨⟨⟨ds, gs, before, hw, hc⟩, hx⟩, hz⟩ := hpre
  have hw' := DataW.Whole.of_heap (w' := w.forCall tape i) (by rfl) hw
  refine (contract (w.forCall tape i) w.heap.size i.args ds gs before hval hw' (hz.weights hw) (hX _ _ _ (by rfl) hx) hsh).mono fun e W' ⟨v, he, hp⟩ => ?_
  subst he
  exact ChangeSpec.post_blind hp
theorem ng_of {W : World} (h : W.ShapedOpen Tryz.prog) : 10 ≤ W.heap.size := by
  obtain ⟨o, o0, h1, _⟩ := h.2 10 (of_decide_eq_true (by kernel_rfl)) (of_decide_eq_true (by kernel_rfl))
  have := (Array.getElem?_eq_some_iff.1 h1).1
  omega
def laidB : List (String × DataW Unit) := [("math/bits.deBruijn32tab", Rows.laid_math_bits_deBruijn32tab), ("math/bits.deBruijn64tab", Rows.laid_math_bits_deBruijn64tab), ("internal/strconv.uint64pow10", Rows.laid_internal_strconv_uint64pow10), ("unicode/utf8.acceptRanges", Rows.laid_unicode_utf8_acceptRanges), ("errors.errorType", Rows.laid_errors_errorType), ("caesura/utf.least", Rows.laid_caesura_utf_least), ("strconv.ErrRange", Rows.laid_strconv_ErrRange), ("strconv.ErrSyntax", Rows.laid_strconv_ErrSyntax), ("unicode/utf8.first", Rows.laid_unicode_utf8_first)]
theorem vm_of {W : World} (h : laidMetH Tryz.prog laidB W) (hs : W.ShapedOpen Tryz.prog) : Vm W :=
  ⟨db_of (by kernel_rfl) h, errs_of (by kernel_rfl) (by kernel_rfl) h, errVar_of (by kernel_rfl) h, least_of (by kernel_rfl) h, ng_of hs⟩
/-- The witness's world: the table that is pinned lies in its variable. -/
noncomputable def wit (os : Os) : World :=
  { World.doorLaid Tryz.prog 76 os with heap := (World.doorLaid Tryz.prog 76 os).heap.modify 8 fun o => match o with
    | .cells _ t x => .cells (Go.Pinned.utf8FirstZ.map fun (n : Nat) => Value.int .u8 (n : Int)).toArray t x
    | o => o }
end Go.Proofs.YtgodgfeinjminaaGreatDoor
end
