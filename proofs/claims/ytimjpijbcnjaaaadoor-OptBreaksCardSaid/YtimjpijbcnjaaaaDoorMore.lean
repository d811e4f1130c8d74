import Derived.Test.YtimjpijbcnjaaaaDoorMatchd
import Derived.Test.YtimjpijbcnjaaaaDoorTell
import Derived.Test.YtimjpijbcnjaaaaDoorV
import Derived.Test.YtimjpijbcnjaaaaDoorP
namespace Go.Proofs.YtimjpijbcnjaaaaDoor
open Go.Vc Go.Proofs Go.RowKit Cae
set_option maxRecDepth 100000
set_option linter.unusedSimpArgs false
set_option linter.unusedVariables false
attribute [local irreducible] wpL callK valK unitK runK Fun Sl Own vc vcOps opK pureK
set_option maxHeartbeats 4000000

theorem eq_3n (c : Bool) (n k n' k' : Nat) (L : VP) (other : Prop) (p) : eqNilK 3 c .eql (.slice none n k) (.slice none n' k') L other p = L (.bool true) := by
  cases c <;> rfl
theorem eq_3s (c : Bool) (a : Addr) (n k n' k' : Nat) (L : VP) (other : Prop) (p) : eqNilK 3 c .eql (.slice (some a) n k) (.slice none n' k') L other p = L (.bool false) := by
  cases c <;> rfl
/-- A slice as an argument is: nil is nil. -/
def Arg (v : Value) : Prop := ∀ n c, v = .slice none n c → n = 0 ∧ c = 0

theorem encI_one : ∀ x, ∀ u ∈ encI x, u.oneCell' = true := by simp [encI, Value.oneCell']

theorem clone_c (l : List Int) (hl : l.length < 1000000000) (X : Nat → Prop) (v : Value) (w : World) (hv : Sl X 1 (En encI) w v l) (ha : Arg v) :
    Fun Tryd.prog 15 [v] w fun r w' => Own w.heap.size 3 1 encI w' r l ∧ Below w.heap.size w w' := by
  obtain ⟨a, c, rfl, hc⟩ := hv.shape
  refine fun_of_vc Tryd.func15 rfl (by kernel_rfl) [2] rfl ?_
  simp -dsimp only [push_cast, fr0, Tryd.ntmps15, List.length_cons, List.length_nil, Nat.reduceAdd, Nat.reduceSub, Nat.reduceBEq, List.replicate_succ, List.replicate_zero]
  cases a with
  | none =>
    obtain ⟨h0, rfl⟩ := ha _ _ rfl
    have : l = [] := List.eq_nil_of_length_eq_zero h0
    subst this
    simp -dsimp only [push_cast, Nat.reduceAdd, Nat.reduceLeDiff, Nat.reduceBEq, decide_true, ne_eq, eq_self, not_true_eq_false, not_false_eq_true, true_imp_iff, false_imp_iff, Int.reduceNe, Int.reduceEq, Int.reduceLT, Int.reduceLE, Bool.not_true, Bool.not_false, eq_3n]
    exact ⟨Own.nil (enc := encI) _ _ (fun _ => rfl) _, Below.refl _ _⟩
  | some ad =>
    simp -dsimp only [push_cast, Nat.reduceAdd, Nat.reduceLeDiff, Nat.reduceBEq, decide_true, ne_eq, eq_self, not_true_eq_false, not_false_eq_true, true_imp_iff, false_imp_iff, Int.reduceNe, Int.reduceEq, Int.reduceLT, Int.reduceLE, Bool.not_true, Bool.not_false, eq_3s]
    refine rowK elI_26 rfl rfl (by omega) ?_
    intro w1 hw1
    have ho1 := hw1.own (base := w.heap.size) (k := 1) (n := 0) (enc := encI) (l := []) rfl rfl (fun _ => rfl) (Nat.le_refl _) (by omega)
    have sz1 := hw1.size
    simp -dsimp only [push_cast, Nat.reduceAdd, Nat.reduceLeDiff, Nat.reduceBEq, decide_true, ne_eq, eq_self, not_true_eq_false, not_false_eq_true, true_imp_iff, false_imp_iff, Int.reduceNe, Int.reduceEq, Int.reduceLT, Int.reduceLE, Bool.not_true, Bool.not_false]
    refine appendAny (base := w.heap.size) (enc := encI) (ys := l) elI_26 ho1 (hv.below hw1.below) (fun n c h => by cases h) encI_one (by simp only [List.length_nil]; omega) (by omega) ?_
    intro v' w2 ho2 hg2 hb2
    rw [List.nil_append] at ho2
    simp -dsimp only [push_cast, Nat.reduceAdd, Nat.reduceLeDiff, Nat.reduceBEq, decide_true, ne_eq, eq_self, not_true_eq_false, not_false_eq_true, true_imp_iff, false_imp_iff, Int.reduceNe, Int.reduceEq, Int.reduceLT, Int.reduceLE, Bool.not_true, Bool.not_false]
    exact ⟨ho2, hw1.below.trans hb2⟩

theorem moreEnd_c (x : I3) (w : World) : Fun Tryd.prog 14 [.agg #[.int .i64 x.op, .int .i64 x.a, .int .i64 x.b]] w fun r w' => r = .bool (decide (x.op = 4)) ∧ Below w.heap.size w w' := by
  refine fun_of_vc Tryd.func14 rfl (by kernel_rfl) [2] rfl ?_
  simp -dsimp only [push_cast, fr0, Tryd.ntmps14, List.length_cons, List.length_nil, Nat.reduceAdd, Nat.reduceSub, Nat.reduceBEq, List.replicate_succ, List.replicate_zero]
  refine boxK_of ?_
  intro w1 hw1
  have c0 : w1.cell? ⟨w.heap.size, 0, none⟩ = some (.int .i64 x.op) := hw1.cell rfl
  simp -dsimp only [push_cast, Nat.reduceAdd, Nat.reduceLeDiff, Nat.reduceBEq, decide_true, ne_eq, eq_self, not_true_eq_false, not_false_eq_true, true_imp_iff, false_imp_iff, Int.reduceNe, Int.reduceEq, Int.reduceLT, Int.reduceLE, Bool.not_true, Bool.not_false, c0]
  exact hw1.below

theorem small_lenC {c : CodeP} (h : smallP c = true) : SetsLen c ∧ c.ins.length ≤ 60 ∧ c.sets.length ≤ 20 := by
  unfold smallP at h
  simp only [Bool.and_eq_true, decide_eq_true_eq, List.all_eq_true] at h
  exact ⟨fun s hs => by have := h.2 s hs; omega, h.1.2, h.1.1⟩

theorem more_c (c : CodeP) (l m : List Int) (X Xl Xm : Nat → Prop) (v lv mv : Value) (w : World) (hE : ErrVar w) (hv : CodeV X w v c) (hlv : Sl Xl 1 (En encI) w lv l) (hmv : Sl Xm 1 (En encI) w mv m) (hal : Arg lv) (ham : Arg mv) :
    Fun Tryd.prog 3 [v, lv, mv] w fun r w' => r = .bool true ∧ Below w.heap.size w w' := by
  have hv0 := hv
  obtain ⟨sv, iv, rfl, hsv, hiv⟩ := hv
  obtain ⟨la, lc, rfl, hlc⟩ := hlv.shape
  obtain ⟨ma, mc, rfl, hmc⟩ := hmv.shape
  obtain ⟨ia, ic, rfl, hic⟩ := hiv.shape
  refine fun_of_vc Tryd.func3 rfl (by kernel_rfl) [6] rfl ?_
  simp -dsimp only [push_cast, fr0, Tryd.ntmps3, List.length_cons, List.length_nil, Nat.reduceAdd, Nat.reduceSub, Nat.reduceBEq, List.replicate_succ, List.replicate_zero]
  refine boxK_of ?_
  intro w1 hw1
  have hw1 : New w w1 25 [sv, .slice ia c.ins.length ic] := hw1
  have sz1 := hw1.size
  have d1 : cellsAt w1 ⟨w.heap.size, 0, none⟩ 0 2 = some [sv, .slice ia c.ins.length ic] := hw1.blk.cellsAt
  simp -dsimp only [push_cast, Nat.reduceAdd, Nat.reduceLeDiff, Nat.reduceBEq, decide_true, d1]
  refine callK_of (small_c c X _ w1 (hv0.below hw1.below)) ?_
  rintro _ w2 ⟨rfl, hb2⟩
  have sz2 := hb2.size
  have hL2 := hw1.below.trans (hb2.mono (by omega))
  have hB2 : Blk w2 w.heap.size 25 [sv, .slice ia c.ins.length ic] := hw1.blk.below hb2 (by omega)
  cases hsm : smallP c with
  | false =>
    simp -dsimp only [push_cast, Nat.reduceAdd, Nat.reduceLeDiff, Nat.reduceBEq, decide_true, ne_eq, eq_self, not_true_eq_false, not_false_eq_true, true_imp_iff, false_imp_iff, Int.reduceNe, Int.reduceEq, Int.reduceLT, Int.reduceLE, Bool.not_true, Bool.not_false]
    exact hL2
  | true =>
    obtain ⟨hlens, hins, hsets⟩ := small_lenC hsm
    simp -dsimp only [push_cast, Nat.reduceAdd, Nat.reduceLeDiff, Nat.reduceBEq, decide_true, ne_eq, eq_self, not_true_eq_false, not_false_eq_true, true_imp_iff, false_imp_iff, Int.reduceNe, Int.reduceEq, Int.reduceLT, Int.reduceLE, Bool.not_true, Bool.not_false]
    refine ⟨fun h1 => ⟨fun _ => hL2, fun h2 => ?_⟩, fun _ => hL2⟩
    refine callK_of (matched_c w2) ?_
    rintro _ w3 ⟨rfl, hb3⟩
    have sz3 := hb3.size
    have hL3 := hL2.trans (hb3.mono hL2.size)
    have hB3 := hB2.below hb3 (by omega)
    have d3 := hB3.cellsAt
    simp only [List.length_cons, List.length_nil, Nat.zero_add, Nat.reduceAdd] at d3
    simp -dsimp only [push_cast, Nat.reduceAdd, Nat.reduceLeDiff, Nat.reduceBEq, decide_true, ne_eq, eq_self, not_true_eq_false, not_false_eq_true, true_imp_iff, false_imp_iff, Int.reduceNe, Int.reduceEq, Int.reduceLT, Int.reduceLE, Bool.not_true, Bool.not_false, d3]
    refine callK_of (match_c c l hlens (by omega) (by omega) (by omega) X Xl _ _ w3 (hv0.below hL3) (hlv.below hL3)) ?_
    rintro _ w4 ⟨rfl, hb4⟩
    have sz4 := hb4.size
    have hL4 := hL3.trans (hb4.mono hL3.size)
    have hB4 := hB3.below hb4 (by omega)
    have d4 := hB4.cellsAt
    simp only [List.length_cons, List.length_nil, Nat.zero_add, Nat.reduceAdd] at d4
    unfold MatchV
    cases hR : codeRight c with
    | false =>
      simp -dsimp only [push_cast, Nat.reduceAdd, Nat.reduceLeDiff, Nat.reduceBEq, decide_true, ne_eq, eq_self, not_true_eq_false, not_false_eq_true, true_imp_iff, false_imp_iff, Int.reduceNe, Int.reduceEq, Int.reduceLT, Int.reduceLE, Bool.not_true, Bool.not_false, d4, Bool.false_eq_true, if_false]
      refine callK_of (Right_c c hlens (by omega) (by omega) X _ w4 (hv0.below hL4)) ?_
      rintro _ w5 ⟨rfl, hb5⟩
      have hL5 := hL4.trans (hb5.mono hL4.size)
      rw [hR]
      simp -dsimp only [push_cast, Nat.reduceAdd, Nat.reduceLeDiff, Nat.reduceBEq, decide_true, ne_eq, eq_self, not_true_eq_false, not_false_eq_true, true_imp_iff, false_imp_iff, Int.reduceNe, Int.reduceEq, Int.reduceLT, Int.reduceLE, Bool.not_true, Bool.not_false]
      refine callK_of (tell_c _ 1 w5 ((Kept.of_below hL5 (X := fun _ => False) (fun k hk hl => by omega)).cell hE id) (.bare 1)) ?_
      rintro _ w6 ⟨rfl, hb6⟩
      simp -dsimp only [push_cast, Nat.reduceAdd, Nat.reduceLeDiff, Nat.reduceBEq, decide_true, ne_eq, eq_self, not_true_eq_false, not_false_eq_true, true_imp_iff, false_imp_iff, Int.reduceNe, Int.reduceEq, Int.reduceLT, Int.reduceLE, Bool.not_true, Bool.not_false]
      exact hL5.trans (hb6.mono hL5.size)
    | true =>
      have hCR := CR.of hR
      have hge := vmatch_ge hCR l
      have hle := vmatch_le hCR l
      have hpr : c.ins.length * (l.length + 1) ≤ 60 * 31 := Nat.mul_le_mul (by omega) (by omega)
      have hcast : (c.ins.length : Int) * ((l.length : Int) + 1) = ((c.ins.length * (l.length + 1) : Nat) : Int) := by simp
      simp -dsimp only [push_cast, Nat.reduceAdd, Nat.reduceLeDiff, Nat.reduceBEq, decide_true, ne_eq, eq_self, not_true_eq_false, not_false_eq_true, true_imp_iff, false_imp_iff, Int.reduceNe, Int.reduceEq, Int.reduceLT, Int.reduceLE, Bool.not_true, Bool.not_false, d4]
      refine callK_of (Right_c c hlens (by omega) (by omega) X _ w4 (hv0.below hL4)) ?_
      rintro _ w5 ⟨rfl, hb5⟩
      have hL5 := hL4.trans (hb5.mono hL4.size)
      have sz5 := hb5.size
      have hB5 := hB4.below hb5 (by omega)
      have d5 : w5.cell? ⟨w.heap.size, 1, none⟩ = some (.slice ia c.ins.length ic) := hB5.cell rfl
      rw [hR]
      simp -dsimp only [push_cast, Nat.reduceAdd, Nat.reduceLeDiff, Nat.reduceBEq, decide_true, ne_eq, eq_self, not_true_eq_false, not_false_eq_true, true_imp_iff, false_imp_iff, Int.reduceNe, Int.reduceEq, Int.reduceLT, Int.reduceLE, Bool.not_true, Bool.not_false, d5]
      rw [hcast]
      refine ⟨fun _ => ⟨⟨by omega, by omega⟩, ⟨by omega, by omega⟩, fun h => absurd h (by omega), fun _ => ?_⟩, fun h => absurd h (by omega)⟩
      refine callK_of (insContains_c (En encIn) 14 [] (fun x => decide (x.op = 4)) c.ins (by omega) X _ w5 (hiv.below hL5) ?_) ?_
      · rintro y hy cs rfl _ w' hb'
        exact moreEnd_c y w'
      rintro _ w6 ⟨rfl, hb6⟩
      have sz6 := hb6.size
      have hL6 := hL5.trans (hb6.mono hL5.size)
      have hB6 := hB5.below hb6 (by omega)
      cases hany : c.ins.any (fun x => decide (x.op = 4)) with
      | true =>
        simp -dsimp only [push_cast, Nat.reduceAdd, Nat.reduceLeDiff, Nat.reduceBEq, decide_true, ne_eq, eq_self, not_true_eq_false, not_false_eq_true, true_imp_iff, false_imp_iff, Int.reduceNe, Int.reduceEq, Int.reduceLT, Int.reduceLE, Bool.not_true, Bool.not_false]
        exact hL6
      | false =>
        have hno : ∀ x ∈ c.ins, x.op ≠ 4 := fun x hx h => by
          rw [List.any_eq_false] at hany
          exact hany x hx (decide_eq_true h)
        simp -dsimp only [push_cast, Nat.reduceAdd, Nat.reduceLeDiff, Nat.reduceBEq, decide_true, ne_eq, eq_self, not_true_eq_false, not_false_eq_true, true_imp_iff, false_imp_iff, Int.reduceNe, Int.reduceEq, Int.reduceLT, Int.reduceLE, Bool.not_true, Bool.not_false]
        refine wpL_draw (fun w' => Blk w' w.heap.size 25 [sv, .slice ia c.ins.length ic]) mixed (by kernel_rfl) hB6.drew ?_
        have d6 : cellsAt w6.drew ⟨w.heap.size, 0, none⟩ 0 2 = some [sv, .slice ia c.ins.length ic] := hB6.drew.cellsAt
        have hC6 : ∀ w'' : World, Blk w'' w.heap.size 25 [sv, .slice ia c.ins.length ic] → cellsAt w'' ⟨w.heap.size, 0, none⟩ 0 2 = some [sv, .slice ia c.ins.length ic] := fun w'' h => h.cellsAt
        simp -dsimp only [push_cast, Nat.reduceAdd, Nat.reduceLeDiff, Nat.reduceBEq, decide_true, ne_eq, eq_self, not_true_eq_false, not_false_eq_true, true_imp_iff, false_imp_iff, Int.reduceNe, Int.reduceEq, Int.reduceLT, Int.reduceLE, Bool.not_true, Bool.not_false, d6]
        refine ⟨fun w'' hC => by rw [hC6 w'' hC]; exact rfl, ?_⟩
        have hL6d : Below w.heap.size w w6.drew := hL6.drew
        refine callK_of (clone_c l (by omega) Xl _ w6.drew (hlv.below hL6d) hal) ?_
        rintro v7 w7 ⟨ho7, hb7⟩
        have sz7 : w6.heap.size ≤ w7.heap.size := hb7.size
        have hL7 : Below w.heap.size w w7 := hL6d.trans (hb7.mono hL6d.size)
        have hB7 : Blk w7 w.heap.size 25 [sv, .slice ia c.ins.length ic] := hB6.drew.below hb7 (by show w.heap.size < w6.heap.size; omega)
        refine ⟨hB7, ?_⟩
        simp -dsimp only [push_cast, Nat.reduceAdd, Nat.reduceLeDiff, Nat.reduceBEq, decide_true, ne_eq, eq_self, not_true_eq_false, not_false_eq_true, true_imp_iff, false_imp_iff, Int.reduceNe, Int.reduceEq, Int.reduceLT, Int.reduceLE, Bool.not_true, Bool.not_false]
        refine appendAny (base := w6.drew.heap.size) (enc := encI) (ys := m) elI_26 ho7 (hmv.below hL7) ham encI_one (by omega) sz7 ?_
        intro v8 w8 ho8 hg8 hb8
        have hb8' : Below w6.heap.size w7 w8 := hb8
        have sz8 := hb8.size
        have hL8 : Below w.heap.size w w8 := hL7.trans (hb8'.mono (by omega))
        have hB8 : Blk w8 w.heap.size 25 [sv, .slice ia c.ins.length ic] := hB7.below hb8' (by omega)
        refine ⟨hB8, ?_⟩
        simp -dsimp only [push_cast, Nat.reduceAdd, Nat.reduceLeDiff, Nat.reduceBEq, decide_true, ne_eq, eq_self, not_true_eq_false, not_false_eq_true, true_imp_iff, false_imp_iff, Int.reduceNe, Int.reduceEq, Int.reduceLT, Int.reduceLE, Bool.not_true, Bool.not_false]
        refine callK_of (match_c c (l ++ m) hlens (by omega) (by omega) (by simp only [List.length_append]; omega) X _ _ _ w8 (hv0.below hL8) ho8.sl) ?_
        rintro _ w9 ⟨rfl, hb9⟩
        have hL9 := hL8.trans (hb9.mono hL8.size)
        refine ⟨hB8.below hb9 (by omega), ?_⟩
        unfold MatchV
        rw [if_pos hR]
        cases ha : (vmatch c l).1 with
        | false =>
          simp -dsimp only [push_cast, Nat.reduceAdd, Nat.reduceLeDiff, Nat.reduceBEq, decide_true, ne_eq, eq_self, not_true_eq_false, not_false_eq_true, true_imp_iff, false_imp_iff, Int.reduceNe, Int.reduceEq, Int.reduceLT, Int.reduceLE, Bool.not_true, Bool.not_false]
          exact hL9
        | true =>
          have := vmatch_more hno l m ha
          rw [this]
          simp -dsimp only [push_cast, Nat.reduceAdd, Nat.reduceLeDiff, Nat.reduceBEq, decide_true, ne_eq, eq_self, not_true_eq_false, not_false_eq_true, true_imp_iff, false_imp_iff, Int.reduceNe, Int.reduceEq, Int.reduceLT, Int.reduceLE, Bool.not_true, Bool.not_false]
          exact hL9
end Go.Proofs.YtimjpijbcnjaaaaDoor
