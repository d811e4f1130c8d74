import Derived.Test.YtimjpijbcnjaaaaDoorImg6
import Derived.Test.YtimjpijbcnjaaaaDoorP
namespace Go.Proofs.YtimjpijbcnjaaaaDoor
open Go.Vc Go.Proofs Go.RowKit Cae
set_option maxRecDepth 100000
set_option linter.unusedSimpArgs false
set_option linter.unusedVariables false
attribute [local irreducible] wpL callK valK unitK runK Fun Sl Own vc vcOps opK pureK
set_option maxHeartbeats 4000000

theorem rin_c (a b c : Int) (w : World) : Fun Tryd.prog 54 [.int .i64 a, .int .i64 b, .int .i64 c] w fun r w' => r = .bool (decide (b ≤ a ∧ a ≤ c)) ∧ w' = w := by
  refine fun_of_vc Tryd.func54 rfl (by kernel_rfl) [6] rfl ?_
  simp -dsimp only [push_cast, fr0, Tryd.ntmps54, List.length_cons, List.length_nil, Nat.reduceAdd, Nat.reduceSub, Nat.reduceBEq, List.replicate_succ, List.replicate_zero]
  constructor
  · intro h; simp [h]
  · intro h; simp [h]

def okP (c : CodeP) (j : Nat) (x : I3) : Prop := insRight x c.sets.length c.ins.length = true ∧ ((x.op = 1 ∨ x.op = 4) → j + 1 < c.ins.length)
theorem codeRight_of {c : CodeP} (h : 1 ≤ c.ins.length ∧ c.ins.length ≤ 2000 ∧ c.sets.length ≤ 2000) (hs : ∀ s ∈ c.sets, setRight (-2) s = true) (hi : ∀ (j : Nat) (x : I3), c.ins[j]? = some x → okP c j x) : codeRight c = true := by
  unfold codeRight
  simp only [Bool.and_eq_true, decide_eq_true_eq, List.all_eq_true]
  have hl : c.ins[c.ins.length - 1]? = some c.ins[c.ins.length - 1] := List.getElem?_eq_getElem (by omega)
  refine ⟨⟨⟨h, ?_⟩, fun x hx => ?_⟩, hs⟩
  · rw [hl]
    simp only [decide_eq_true_eq]
    have := (hi _ _ hl).2
    constructor
    · intro h; have := this (.inl h); omega
    · intro h; have := this (.inr h); omega
  · obtain ⟨j, hj⟩ := List.getElem?_of_mem hx
    exact (hi j x hj).1
theorem codeRight_ok {c : CodeP} (h : codeRight c = true) {j : Nat} {x : I3} (hx : c.ins[j]? = some x) : okP c j x := by
  have hc := CR.of h
  exact ⟨hc.ins j x hx, hc.next j x hx⟩

/-- The last end ahead of a place. -/
def lastHi (s : List Rg) (i : Nat) : Int := if i = 0 then -2 else (s.getD (i - 1) (0, 0)).2

theorem rightSetR_c (s : List Rg) (hs : s.length < 1000000000) (X : Nat → Prop) (v : Value) (w : World) (hv : Sl X 2 (En encR) w v s) :
    Fun Tryd.prog 55 [v] w fun r w' => r = .bool (setRight (-2) s) ∧ Below w.heap.size w w' := by
  obtain ⟨a, c, rfl, hc⟩ := hv.shape
  refine fun_of_vc Tryd.func55 rfl (by kernel_rfl) [2] rfl ?_
  simp -dsimp only [push_cast, fr0, Tryd.ntmps55, List.length_cons, List.length_nil, Nat.reduceAdd, Nat.reduceSub, Nat.reduceBEq, List.replicate_succ, List.replicate_zero]
  refine wpL_loop [2, 3, 4, 7, 8, 9, 10, 11, 12, 13, 14, 15, 16, 17, 18, 19, 20, 21, 22, 23, 24, 25, 26, 27, 28, 29, 30, 31, 32, 33, 34, 35, 36, 37, 38, 39, 40] (fun z wx => ∃ (i : Nat), z 7 = .int .i64 i ∧ i ≤ s.length ∧ setRight (lastHi s i) (s.drop i) = setRight (-2) s ∧ (0 < i → 0 ≤ lastHi s i ∧ lastHi s i ≤ 1114111) ∧ Below w.heap.size w wx) (fun z _ => s.length - (intOf (z 7)).toNat) ?_ ?_
  · exact ⟨0, rfl, Nat.zero_le _, rfl, fun h => absurd h (by omega), Below.refl _ _⟩
  · intro z wx hI
    obtain ⟨i, h7, hi, hR, hL, hb⟩ := hI
    have szx := hb.size
    simp -dsimp only [push_cast, Nat.reduceAdd, Nat.reduceLeDiff, Nat.reduceBEq, decide_true, h7]
    refine ⟨fun hlt => ?_, fun hge => ?_⟩
    · have hex := lt_get (l := s) (i := i) (by omega)
      obtain ⟨r, hex⟩ := hex
      have hr := hex.1
      have hd := hex.2.2.1
      rw [hd, setRight] at hR
      have hget := (hv.below hb).get hr
      obtain ⟨b, o, rfl, hX, hcell⟩ := hget
      have ce : cellsAt wx ⟨b, o + i * 2, none⟩ 0 2 = some [.int .i64 r.1, .int .i64 r.2] := cellsAt_of (encR r) 0 (fun k u hu => by simpa using hcell k u hu)
      simp -dsimp only [push_cast, Nat.reduceAdd, Nat.reduceLeDiff, Nat.reduceBEq, decide_true, ce]
      refine ⟨⟨by omega, by omega⟩, ?_⟩
      refine allocK (z := [.int .i64 0, .int .i64 0]) (by kernel_rfl) ?_
      intro w1 hw1
      simp -dsimp only [push_cast, Nat.reduceAdd, Nat.reduceLeDiff, Nat.reduceBEq, decide_true]
      refine storeAgg (n := 2) (by kernel_rfl) hw1.blk rfl (by simp) (by simp [Value.oneCell']) ?_
      intro w2 hw2
      have sz1 := hw1.size
      have sz2 := hw2.size
      have hb2 : Below wx.heap.size wx w2 := hw1.below.trans (hw2.kept.below (by omega) (fun _ h => by omega))
      have hB2 : Blk w2 wx.heap.size 79 [.int .i64 r.1, .int .i64 r.2] := hw2.blk
      have hbd : Below w.heap.size w w2.drew := (hb.trans (hb2.mono szx)).drew
      have hprev : 0 < i → w2.drew.cell? ⟨b, o + (i - 1) * 2 + 1, none⟩ = some (.int .i64 (lastHi s i)) := fun h0 => by
        have hq : s[i - 1]? = some s[i - 1] := List.getElem?_eq_getElem (by omega)
        obtain ⟨b', o', he, _, hc'⟩ := (hv.below hbd).get hq
        cases he
        have := hc' 1 _ rfl
        rw [this]
        unfold lastHi
        rw [if_neg (by omega), List.getD_eq_getElem?_getD, hq]
        rfl
      simp -dsimp only [push_cast, Nat.reduceAdd, Nat.reduceLeDiff, Nat.reduceBEq, decide_true]
      refine wpL_draw (fun w' => ∀ a, w'.cell? a = w2.cell? a) mixed (by kernel_rfl) (fun _ => rfl) ?_
      have f0 : w2.drew.cell? ⟨wx.heap.size, 0, none⟩ = some (.int .i64 r.1) := hB2.drew.cell rfl
      have f1 : w2.drew.cell? ⟨wx.heap.size, 1, none⟩ = some (.int .i64 r.2) := hB2.drew.cell rfl
      have g0 : ∀ w'' : World, (∀ a, w''.cell? a = w2.cell? a) → w''.cell? ⟨wx.heap.size, 0, none⟩ = some (.int .i64 r.1) := fun w'' hC => (hC _).trans f0
      have g1 : ∀ w'' : World, (∀ a, w''.cell? a = w2.cell? a) → w''.cell? ⟨wx.heap.size, 1, none⟩ = some (.int .i64 r.2) := fun w'' hC => (hC _).trans f1
      have gp : 0 < i → ∀ w'' : World, (∀ a, w''.cell? a = w2.cell? a) → w''.cell? ⟨b, o + (i - 1) * 2 + 1, none⟩ = some (.int .i64 (lastHi s i)) := fun h0 w'' hC => (hC _).trans (hprev h0)
      simp -dsimp only [push_cast, Nat.reduceAdd, Nat.reduceLeDiff, Nat.reduceBEq, decide_true, ne_eq, eq_self, not_true_eq_false, not_false_eq_true, true_imp_iff, false_imp_iff, Int.reduceNe, Int.reduceEq, Int.reduceLT, Int.reduceLE, Bool.not_true, Bool.not_false, f0]
      refine ⟨fun w'' hC => by rw [g0 w'' hC]; exact rfl, ?_⟩
      refine callK_of (rin_c r.1 0 1114111 w2.drew) ?_
      rintro _ w3 ⟨rfl, rfl⟩
      refine ⟨fun _ => rfl, ?_⟩
      have hstop : (r.1 ≤ lastHi s i + 1 ∨ r.2 < r.1 ∨ 1114111 < r.2) → Value.bool false = Value.bool (setRight (-2) s) := fun h => by rw [if_pos h] at hR; rw [← hR]
      have hneg : i = 0 → lastHi s i = -2 := fun h => by unfold lastHi; rw [if_pos h]
      by_cases c1 : 0 ≤ r.1 ∧ r.1 ≤ 1114111
      · rw [decide_eq_true c1]
        simp -dsimp only [push_cast, Nat.reduceAdd, Nat.reduceLeDiff, Nat.reduceBEq, decide_true, ne_eq, eq_self, not_true_eq_false, not_false_eq_true, true_imp_iff, false_imp_iff, Int.reduceNe, Int.reduceEq, Int.reduceLT, Int.reduceLE, Bool.not_true, Bool.not_false, f0, f1]
        refine ⟨fun w'' hC => by rw [g1 w'' hC]; exact rfl, fun w'' hC => by rw [g0 w'' hC]; exact rfl, ?_⟩
        refine callK_of (rin_c r.2 r.1 1114111 w2.drew) ?_
        rintro _ w3 ⟨rfl, rfl⟩
        refine ⟨fun _ => rfl, ?_⟩
        have hcont : (i = 0 ∨ ¬ r.1 < lastHi s i + 2) → (r.1 ≤ r.2 ∧ r.2 ≤ 1114111) → setRight (lastHi s (i + 1)) (s.drop (i + 1)) = setRight (-2) s ∧ (0 < i + 1 → 0 ≤ lastHi s (i + 1) ∧ lastHi s (i + 1) ≤ 1114111) := fun h c2 => by
          have hl : lastHi s (i + 1) = r.2 := by unfold lastHi; rw [if_neg (by omega), Nat.add_sub_cancel, List.getD_eq_getElem?_getD, hr]; rfl
          rw [hl]
          refine ⟨?_, fun _ => by omega⟩
          rw [if_neg (by
            rcases h with h | h
            · have := hneg h; omega
            · omega)] at hR
          exact hR
        by_cases c2 : r.1 ≤ r.2 ∧ r.2 ≤ 1114111
        · rw [decide_eq_true c2]
          have eidx : ((i : Int) - 1).toNat = i - 1 := by omega
          by_cases c3 : 0 < i
          · have fp := hprev c3
            have gq := gp c3
            have hLc := hL c3
            simp -dsimp only [push_cast, Nat.reduceAdd, Nat.reduceLeDiff, Nat.reduceBEq, decide_true, ne_eq, eq_self, not_true_eq_false, not_false_eq_true, true_imp_iff, false_imp_iff, Int.reduceNe, Int.reduceEq, Int.reduceLT, Int.reduceLE, Bool.not_true, Bool.not_false, f0, eidx, fp]
            refine ⟨fun _ => ⟨fun w'' hC => by rw [g0 w'' hC]; exact rfl, ⟨by omega, by omega⟩, ⟨by omega, by omega⟩, fun w'' hC => by rw [gq w'' hC]; exact rfl, ⟨by omega, by omega⟩, fun hbad => ⟨hstop (by omega), hbd⟩, fun hok => ?_⟩, fun h => absurd h (by omega)⟩
            obtain ⟨k1, k2⟩ := hcont (.inr hok) c2
            exact ⟨⟨by omega, by omega⟩, ⟨i + 1, rfl, by omega, k1, k2, hbd⟩, by rw [h7]; simp only [intOf]; omega⟩
          · simp -dsimp only [push_cast, Nat.reduceAdd, Nat.reduceLeDiff, Nat.reduceBEq, decide_true, ne_eq, eq_self, not_true_eq_false, not_false_eq_true, true_imp_iff, false_imp_iff, Int.reduceNe, Int.reduceEq, Int.reduceLT, Int.reduceLE, Bool.not_true, Bool.not_false, f0, eidx]
            refine ⟨fun h => absurd h (by omega), fun _ => ?_⟩
            obtain ⟨k1, k2⟩ := hcont (.inl (by omega)) c2
            exact ⟨⟨by omega, by omega⟩, ⟨i + 1, rfl, by omega, k1, k2, hbd⟩, by rw [h7]; simp only [intOf]; omega⟩
        · rw [decide_eq_false c2]
          simp -dsimp only [push_cast, Nat.reduceAdd, Nat.reduceLeDiff, Nat.reduceBEq, decide_true, ne_eq, eq_self, not_true_eq_false, not_false_eq_true, true_imp_iff, false_imp_iff, Int.reduceNe, Int.reduceEq, Int.reduceLT, Int.reduceLE, Bool.not_true, Bool.not_false]
          exact ⟨hstop (by omega), hbd⟩
      · rw [decide_eq_false c1]
        simp -dsimp only [push_cast, Nat.reduceAdd, Nat.reduceLeDiff, Nat.reduceBEq, decide_true, ne_eq, eq_self, not_true_eq_false, not_false_eq_true, true_imp_iff, false_imp_iff, Int.reduceNe, Int.reduceEq, Int.reduceLT, Int.reduceLE, Bool.not_true, Bool.not_false]
        refine ⟨hstop ?_, hbd⟩
        rcases Nat.eq_zero_or_pos i with h | h
        · have := hneg h; omega
        · have := hL h; omega
    · rw [List.drop_eq_nil_of_le (by omega), setRight] at hR
      exact ⟨by rw [← hR], hb⟩

end Go.Proofs.YtimjpijbcnjaaaaDoor
