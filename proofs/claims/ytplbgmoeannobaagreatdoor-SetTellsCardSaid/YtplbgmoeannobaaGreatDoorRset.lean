import Derived.Test.YtplbgmoeannobaaGreatDoorSet
/- The reference's in, RightSet, Has. -/
namespace Go.Proofs.YtplbgmoeannobaaGreatDoor
open Go.Vc Go.Proofs Go.RowKit Cae
set_option maxRecDepth 100000
set_option linter.unusedSimpArgs false
set_option linter.unusedVariables false
attribute [local irreducible] wpL callK valK unitK runK Fun Sl Own vc vcOps opK pureK
set_option maxHeartbeats 4000000

theorem rin_c (a b c : Int) (w : World) : Fun Tryz.prog 24 [.int .i64 a, .int .i64 b, .int .i64 c] w fun r w' => r = .bool (decide (b ≤ a ∧ a ≤ c)) ∧ w' = w := by
  refine fun_of_vc Tryz.func24 rfl (by kernel_rfl) [6] rfl ?_
  push_cast -dsimp (maxSteps := 4000000) [Tryz.ntmps24]
  constructor
  · intro h; simp [h]
  · intro h; simp [h]

/-- The last end ahead of a place. -/
def lastAt (s : List Rg) (i : Nat) : Int := if i = 0 then -2 else (s.getD (i - 1) (0, 0)).2

theorem rightSetR_c (s : List Rg) (hs : s.length < 1000000000) (X : Nat → Prop) (v : Value) (w : World) (hv : Sl X 2 (En encR) w v s) :
    Fun Tryz.prog 5 [v] w fun r w' => r = .bool (setRight (-2) s) ∧ Below w.heap.size w w' := by
  obtain ⟨a, c, rfl, hc⟩ := hv.shape
  refine fun_of_vc Tryz.func5 rfl (by kernel_rfl) [2] rfl ?_
  push_cast -dsimp (maxSteps := 4000000) [Tryz.ntmps5]
  refine wpL_loop [2, 3, 4, 7, 8, 9, 10, 11, 12, 13, 14, 15, 16, 17, 18, 19, 20, 21, 22, 23, 24, 25, 26, 27, 28, 29, 30, 31, 32, 33, 34, 35, 36, 37, 38, 39, 40] (fun z wx => ∃ (i : Nat), z 7 = .int .i64 i ∧ i ≤ s.length ∧ setRight (lastAt s i) (s.drop i) = setRight (-2) s ∧ (0 < i → 0 ≤ lastAt s i ∧ lastAt s i ≤ 1114111) ∧ Below w.heap.size w wx) (fun z _ => s.length - (intOf (z 7)).toNat) ?_ ?_
  · exact ⟨0, rfl, Nat.zero_le _, rfl, fun h => absurd h (by omega), Below.refl _ _⟩
  · intro z wx hI
    obtain ⟨i, h7, hi, hR, hL, hb⟩ := hI
    have szx := hb.size
    push_cast -dsimp [h7]
    refine ⟨fun hlt => ?_, fun hge => ?_⟩
    · have hex := lt_get (l := s) (i := i) (by omega)
      obtain ⟨r, hex⟩ := hex
      have hr := hex.1
      have hd := hex.2.2.1
      rw [hd, setRight] at hR
      have hget := (hv.below hb).get hr
      obtain ⟨b, o, rfl, hX, hcell⟩ := hget
      have ce : cellsAt wx ⟨b, o + i * 2, none⟩ 0 2 = some [.int .i64 r.1, .int .i64 r.2] := cellsAt_of (encR r) 0 (fun k u hu => by simpa using hcell k u hu)
      push_cast -dsimp [ce]
      refine ⟨⟨by omega, by omega⟩, ?_⟩
      refine allocK (z := [.int .i64 0, .int .i64 0]) (by kernel_rfl) ?_
      intro w1 hw1
      push_cast -dsimp
      refine storeAgg (n := 2) (by kernel_rfl) hw1.blk rfl (by simp) (by simp [Value.oneCell']) ?_
      intro w2 hw2
      have sz1 := hw1.size
      have sz2 := hw2.size
      have hb2 : Below wx.heap.size wx w2 := hw1.below.trans (hw2.kept.below (by omega) (fun _ h => by omega))
      have hB2 : Blk w2 wx.heap.size 42 [.int .i64 r.1, .int .i64 r.2] := hw2.blk
      have hbd : Below w.heap.size w w2.drew := (hb.trans (hb2.mono szx)).drew
      have hprev : 0 < i → w2.drew.cell? ⟨b, o + (i - 1) * 2 + 1, none⟩ = some (.int .i64 (lastAt s i)) := fun h0 => by
        have hq : s[i - 1]? = some s[i - 1] := List.getElem?_eq_getElem (by omega)
        obtain ⟨b', o', he, _, hc'⟩ := (hv.below hbd).get hq
        cases he
        have := hc' 1 _ rfl
        rw [this]
        unfold lastAt
        rw [if_neg (by omega), List.getD_eq_getElem?_getD, hq]
        rfl
      push_cast -dsimp
      refine wpL_draw (fun w' => ∀ a, w'.cell? a = w2.cell? a) mixed (by kernel_rfl) (fun _ => rfl) ?_
      have f0 : w2.drew.cell? ⟨wx.heap.size, 0, none⟩ = some (.int .i64 r.1) := hB2.drew.cell rfl
      have f1 : w2.drew.cell? ⟨wx.heap.size, 1, none⟩ = some (.int .i64 r.2) := hB2.drew.cell rfl
      have g0 : ∀ w'' : World, (∀ a, w''.cell? a = w2.cell? a) → w''.cell? ⟨wx.heap.size, 0, none⟩ = some (.int .i64 r.1) := fun w'' hC => (hC _).trans f0
      have g1 : ∀ w'' : World, (∀ a, w''.cell? a = w2.cell? a) → w''.cell? ⟨wx.heap.size, 1, none⟩ = some (.int .i64 r.2) := fun w'' hC => (hC _).trans f1
      have gp : 0 < i → ∀ w'' : World, (∀ a, w''.cell? a = w2.cell? a) → w''.cell? ⟨b, o + (i - 1) * 2 + 1, none⟩ = some (.int .i64 (lastAt s i)) := fun h0 w'' hC => (hC _).trans (hprev h0)
      push_cast -dsimp [f0]
      refine ⟨fun w'' hC => by rw [g0 w'' hC]; exact rfl, ?_⟩
      refine callK_of (rin_c r.1 0 1114111 w2.drew) ?_
      rintro _ w3 ⟨rfl, rfl⟩
      refine ⟨fun _ => rfl, ?_⟩
      have hstop : (r.1 ≤ lastAt s i + 1 ∨ r.2 < r.1 ∨ 1114111 < r.2) → Value.bool false = Value.bool (setRight (-2) s) := fun h => by rw [if_pos h] at hR; rw [← hR]
      have hneg : i = 0 → lastAt s i = -2 := fun h => by unfold lastAt; rw [if_pos h]
      by_cases c1 : 0 ≤ r.1 ∧ r.1 ≤ 1114111
      · rw [decide_eq_true c1]
        push_cast -dsimp [f0, f1]
        refine ⟨fun w'' hC => by rw [g1 w'' hC]; exact rfl, fun w'' hC => by rw [g0 w'' hC]; exact rfl, ?_⟩
        refine callK_of (rin_c r.2 r.1 1114111 w2.drew) ?_
        rintro _ w3 ⟨rfl, rfl⟩
        refine ⟨fun _ => rfl, ?_⟩
        have hcont : (i = 0 ∨ ¬ r.1 < lastAt s i + 2) → (r.1 ≤ r.2 ∧ r.2 ≤ 1114111) → setRight (lastAt s (i + 1)) (s.drop (i + 1)) = setRight (-2) s ∧ (0 < i + 1 → 0 ≤ lastAt s (i + 1) ∧ lastAt s (i + 1) ≤ 1114111) := fun h c2 => by
          have hl : lastAt s (i + 1) = r.2 := by unfold lastAt; rw [if_neg (by omega), Nat.add_sub_cancel, List.getD_eq_getElem?_getD, hr]; rfl
          rw [hl]
          refine ⟨?_, fun _ => by omega⟩
          rw [if_neg (by
            rcases h with h | h
            · have := hneg h; omega
            · omega)] at hR
          exact hR
        by_cases c2 : r.1 ≤ r.2 ∧ r.2 ≤ 1114111
        · rw [decide_eq_true c2]
          have eidx : ((i : Int) - 1).toNat = i - 1 := by omega
          by_cases c3 : 0 < i
          · have fp := hprev c3
            have gq := gp c3
            have hLc := hL c3
            push_cast -dsimp [f0, eidx, fp]
            refine ⟨fun _ => ⟨fun w'' hC => by rw [g0 w'' hC]; exact rfl, ⟨by omega, by omega⟩, ⟨by omega, by omega⟩, fun w'' hC => by rw [gq w'' hC]; exact rfl, ⟨by omega, by omega⟩, fun hbad => ⟨hstop (by omega), hbd⟩, fun hok => ?_⟩, fun h => absurd h (by omega)⟩
            obtain ⟨k1, k2⟩ := hcont (.inr hok) c2
            exact ⟨⟨by omega, by omega⟩, ⟨i + 1, rfl, by omega, k1, k2, hbd⟩, by rw [h7]; simp only [intOf]; omega⟩
          · push_cast -dsimp [f0, eidx]
            refine ⟨fun h => absurd h (by omega), fun _ => ?_⟩
            obtain ⟨k1, k2⟩ := hcont (.inl (by omega)) c2
            exact ⟨⟨by omega, by omega⟩, ⟨i + 1, rfl, by omega, k1, k2, hbd⟩, by rw [h7]; simp only [intOf]; omega⟩
        · rw [decide_eq_false c2]
          push_cast -dsimp
          exact ⟨hstop (by omega), hbd⟩
      · rw [decide_eq_false c1]
        push_cast -dsimp
        refine ⟨hstop ?_, hbd⟩
        rcases Nat.eq_zero_or_pos i with h | h
        · have := hneg h; omega
        · have := hL h; omega
    · rw [List.drop_eq_nil_of_le (by omega), setRight] at hR
      exact ⟨by rw [← hR], hb⟩

theorem hasR_c (s : List Rg) (p : Int) (hs : s.length < 1000000000) (X : Nat → Prop) (v : Value) (w : World) (hv : Sl X 2 (En encR) w v s) :
    Fun Tryz.prog 10 [v, .int .i64 p] w fun r w' => r = .bool (hasP s p) ∧ Below w.heap.size w w' := by
  obtain ⟨a, c, rfl, hc⟩ := hv.shape
  refine fun_of_vc Tryz.func10 rfl (by kernel_rfl) [4] rfl ?_
  push_cast -dsimp (maxSteps := 4000000) [Tryz.ntmps10]
  refine wpL_loop [4, 6, 9, 10, 11, 12, 13, 14, 15, 16, 17, 18, 19, 20, 21, 22, 23] (fun z wx => ∃ (i : Nat), z 9 = .int .i64 i ∧ i ≤ s.length ∧ (∀ r ∈ s.take i, ¬ (r.1 ≤ p ∧ p ≤ r.2)) ∧ Below w.heap.size w wx) (fun z _ => s.length - (intOf (z 9)).toNat) ?_ ?_
  · exact ⟨0, rfl, Nat.zero_le _, by simp, Below.refl _ _⟩
  · intro z wx hI
    obtain ⟨i, h9, hi, hok, hb⟩ := hI
    have szx := hb.size
    push_cast -dsimp [h9]
    refine ⟨fun hlt => ?_, fun hge => ?_⟩
    · obtain ⟨r, hex⟩ := lt_get (l := s) (i := i) (by omega)
      have hrm := hex.2.1
      have ht := hex.2.2.2
      have hget := (hv.below hb).get hex.1
      obtain ⟨b, o, rfl, hX, hcell⟩ := hget
      have ce : cellsAt wx ⟨b, o + i * 2, none⟩ 0 2 = some [.int .i64 r.1, .int .i64 r.2] := cellsAt_of (encR r) 0 (fun k u hu => by simpa using hcell k u hu)
      push_cast -dsimp [ce]
      refine ⟨⟨by omega, by omega⟩, ?_⟩
      refine allocK (z := [.int .i64 0, .int .i64 0]) (by kernel_rfl) ?_
      intro w1 hw1
      push_cast -dsimp
      refine storeAgg (n := 2) (by kernel_rfl) hw1.blk rfl (by simp) (by simp [Value.oneCell']) ?_
      intro w2 hw2
      have sz1 := hw1.size
      have hB2 : Blk w2 wx.heap.size 42 [.int .i64 r.1, .int .i64 r.2] := hw2.blk
      have f0 : w2.cell? ⟨wx.heap.size, 0, none⟩ = some (.int .i64 r.1) := hB2.cell rfl
      have f1 : w2.cell? ⟨wx.heap.size, 1, none⟩ = some (.int .i64 r.2) := hB2.cell rfl
      have hb2 : Below w.heap.size w w2 := hb.trans ((hw1.below.mono szx).trans (hw2.kept.below (by omega) (fun _ h => by omega)))
      have hyes : (r.1 ≤ p ∧ p ≤ r.2) → Value.bool true = Value.bool (hasP s p) := fun h => by
        congr 1; unfold hasP
        exact (List.any_eq_true.2 ⟨r, hrm, decide_eq_true h⟩).symm
      have hno : ¬ (r.1 ≤ p ∧ p ≤ r.2) → ∀ y ∈ s.take (i + 1), ¬ (y.1 ≤ p ∧ p ≤ y.2) := fun h y hy => by
        rw [ht, List.mem_append, List.mem_singleton] at hy
        rcases hy with hy | rfl
        · exact hok y hy
        · exact h
      push_cast -dsimp [f0, f1]
      exact ⟨fun q1 => ⟨fun q2 => ⟨hyes ⟨q1, q2⟩, hb2⟩, fun q2 => ⟨⟨by omega, by omega⟩, ⟨i + 1, rfl, by omega, hno (fun h => q2 h.2), hb2⟩, by rw [h9]; simp only [intOf]; omega⟩⟩,
        fun q1 => ⟨⟨by omega, by omega⟩, ⟨i + 1, rfl, by omega, hno (fun h => q1 h.1), hb2⟩, by rw [h9]; simp only [intOf]; omega⟩⟩
    · rw [List.take_of_length_le (by omega)] at hok
      refine ⟨?_, hb⟩
      congr 1
      unfold hasP
      exact (List.any_eq_false.2 (fun r hr h => hok r hr (of_decide_eq_true h))).symm
end Go.Proofs.YtplbgmoeannobaaGreatDoor
