import Derived.Test.YtonedboaomehaaaDoorEq
namespace Go.Proofs.YtonedboaomehaaaDoor
open Go.Vc Go.Proofs Go.RowKit Cae
set_option maxRecDepth 100000
set_option linter.unusedSimpArgs false
set_option linter.unusedVariables false
attribute [local irreducible] wpL callK valK unitK runK Fun Sl Own vc vcOps opK pureK

theorem badfn_c (x : Int) (w : World) : Fun Tryd.prog 11 [.int .i64 x] w fun v w' => v = .bool (decide (¬ okPoint x)) ∧ w' = w := by
  refine fun_of_vc Tryd.func11 rfl (by kernel_rfl) [2] rfl ?_
  simp -dsimp only [push_cast, fr0, Tryd.ntmps11, List.length_cons, List.length_nil, Nat.reduceAdd, Nat.reduceSub, List.replicate_succ, List.replicate_zero]
  repeat' first | apply And.intro | intro _
  all_goals first
  | (rw [decide_eq_true]; unfold okPoint; omega)
  | (rw [decide_eq_false]; unfold okPoint; omega)
  | (congr 1; rw [decide_eq_decide]; unfold okPoint; omega)

theorem indexBad_c (l : List Int) (hl : l.length < 10000000) (X : Nat → Prop) (v : Value) (w : World) (hv : Sl X 1 (En encI) w v l) :
    Fun Tryd.prog 19 [v, .func (.func 11) #[] #[]] w fun r w' => (∃ n : Int, r = .int .i64 n ∧ (0 ≤ n ↔ ∃ x ∈ l, ¬ okPoint x)) ∧ Below w.heap.size w w' := by
  obtain ⟨a, c, rfl, hc⟩ := hv.shape
  refine fun_of_vc Tryd.func19 rfl (by kernel_rfl) [4] rfl ?_
  simp -dsimp only [push_cast, fr0, Tryd.ntmps19, List.length_cons, List.length_nil, Nat.reduceAdd, Nat.reduceSub, List.replicate_succ, List.replicate_zero]
  refine wpL_loop [4, 5, 8, 9, 10, 11, 12, 13, 14, 15, 16, 17, 18] (fun z wx => ∃ (i : Nat), z 8 = .int .i64 i ∧ i ≤ l.length ∧ (∀ x ∈ l.take i, okPoint x) ∧ Below w.heap.size w wx) (fun z _ => l.length - (intOf (z 8)).toNat) ?_ ?_
  · exact ⟨0, rfl, Nat.zero_le _, by simp, Below.refl _ _⟩
  · intro z wx hI
    obtain ⟨i, h8, hi, hok, hb⟩ := hI
    simp -dsimp only [push_cast, Nat.reduceAdd, Nat.reduceLeDiff, decide_true, h8]
    refine ⟨fun hlt => ?_, fun hge => ?_⟩
    · obtain ⟨x, hx, hxm, hd, ht⟩ := lt_get (l := l) (i := i) (by omega)
      obtain ⟨b, o, rfl, hX, hcell⟩ := (hv.below hb).get hx
      have c0 : wx.cell? ⟨b, o + i, none⟩ = some (.int .i64 x) := by simpa using hcell 0 _ rfl
      simp -dsimp only [push_cast, Nat.reduceAdd, Nat.reduceLeDiff, decide_true, c0]
      refine ⟨⟨by omega, by omega⟩, callK_of (badfn_c x wx) ?_⟩
      rintro v w1 ⟨rfl, rfl⟩
      simp -dsimp only [push_cast, Nat.reduceAdd, Nat.reduceLeDiff, decide_true]
      refine ⟨fun hbad => ?_, fun hgood => ?_⟩
      · exact ⟨⟨i, rfl, ⟨fun _ => ⟨x, hxm, hbad⟩, fun _ => by omega⟩⟩, hb⟩
      · have hgood : okPoint x := Classical.byContradiction hgood
        refine ⟨⟨by omega, by omega⟩, ⟨i + 1, rfl, by omega, ?_, hb⟩, by rw [h8]; simp only [intOf]; omega⟩
        intro y hy
        rw [ht, List.mem_append, List.mem_singleton] at hy
        rcases hy with hy | rfl
        · exact hok y hy
        · exact hgood
    · refine ⟨⟨-1, rfl, ?_⟩, hb⟩
      rw [List.take_of_length_le (by omega)] at hok
      constructor
      · intro h; omega
      · rintro ⟨x, hx, hn⟩; exact absurd (hok x hx) hn

theorem containsBad_c (l : List Int) (hl : l.length < 10000000) (X : Nat → Prop) (v : Value) (w : World) (hv : Sl X 1 (En encI) w v l) :
    Fun Tryd.prog 10 [v, .func (.func 11) #[] #[]] w fun r w' => (∃ b : Bool, r = .bool b ∧ (b = true ↔ ∃ x ∈ l, ¬ okPoint x)) ∧ Below w.heap.size w w' := by
  refine fun_of_vc Tryd.func10 rfl (by kernel_rfl) [4] rfl ?_
  simp -dsimp only [push_cast, fr0, Tryd.ntmps10, List.length_cons, List.length_nil, Nat.reduceAdd, Nat.reduceSub, List.replicate_succ, List.replicate_zero]
  refine callK_of (indexBad_c l hl X v w hv) ?_
  rintro r w1 ⟨⟨n, rfl, hn⟩, hb⟩
  simp -dsimp only [push_cast, Nat.reduceAdd, Nat.reduceLeDiff, decide_true]
  exact ⟨⟨_, rfl, by rw [decide_eq_true_iff]; exact hn⟩, hb⟩

theorem indexI_c (l : List Int) (hl : l.length < 10000000) (y : Int) (X : Nat → Prop) (v : Value) (w : World) (hv : Sl X 1 (En encI) w v l) :
    Fun Tryd.prog 20 [v, .int .i64 y] w fun r w' => (∃ n : Int, r = .int .i64 n ∧ (0 ≤ n ↔ y ∈ l)) ∧ Below w.heap.size w w' := by
  obtain ⟨a, c, rfl, hc⟩ := hv.shape
  refine fun_of_vc Tryd.func20 rfl (by kernel_rfl) [4] rfl ?_
  simp -dsimp only [push_cast, fr0, Tryd.ntmps20, List.length_cons, List.length_nil, Nat.reduceAdd, Nat.reduceSub, List.replicate_succ, List.replicate_zero]
  refine wpL_loop [4, 5, 8, 9, 10, 11, 12, 13, 14, 15, 16, 17, 18] (fun z wx => ∃ (i : Nat), z 8 = .int .i64 i ∧ i ≤ l.length ∧ (y ∉ l.take i) ∧ Below w.heap.size w wx) (fun z _ => l.length - (intOf (z 8)).toNat) ?_ ?_
  · exact ⟨0, rfl, Nat.zero_le _, by simp, Below.refl _ _⟩
  · intro z wx hI
    obtain ⟨i, h8, hi, hok, hb⟩ := hI
    simp -dsimp only [push_cast, Nat.reduceAdd, Nat.reduceLeDiff, decide_true, h8]
    refine ⟨fun hlt => ?_, fun hge => ?_⟩
    · obtain ⟨x, hx, hxm, hd, ht⟩ := lt_get (l := l) (i := i) (by omega)
      obtain ⟨b, o, rfl, hX, hcell⟩ := (hv.below hb).get hx
      have c0 : wx.cell? ⟨b, o + i, none⟩ = some (.int .i64 x) := by simpa using hcell 0 _ rfl
      simp -dsimp only [push_cast, Nat.reduceAdd, Nat.reduceLeDiff, decide_true, c0]
      refine ⟨⟨by omega, by omega⟩, fun heq => ?_, fun hne => ?_⟩
      · exact ⟨⟨i, rfl, ⟨fun _ => by rw [heq]; exact hxm, fun _ => by omega⟩⟩, hb⟩
      · refine ⟨⟨by omega, by omega⟩, ⟨i + 1, rfl, by omega, ?_, hb⟩, by rw [h8]; simp only [intOf]; omega⟩
        rw [ht, List.mem_append, List.mem_singleton]
        rintro (hy | rfl)
        · exact hok hy
        · exact hne rfl
    · refine ⟨⟨-1, rfl, ?_⟩, hb⟩
      rw [List.take_of_length_le (by omega)] at hok
      constructor
      · intro h; omega
      · intro h; exact absurd h hok

theorem containsI_c (l : List Int) (hl : l.length < 10000000) (y : Int) (X : Nat → Prop) (v : Value) (w : World) (hv : Sl X 1 (En encI) w v l) :
    Fun Tryd.prog 14 [v, .int .i64 y] w fun r w' => (∃ b : Bool, r = .bool b ∧ (b = true ↔ y ∈ l)) ∧ Below w.heap.size w w' := by
  refine fun_of_vc Tryd.func14 rfl (by kernel_rfl) [4] rfl ?_
  simp -dsimp only [push_cast, fr0, Tryd.ntmps14, List.length_cons, List.length_nil, Nat.reduceAdd, Nat.reduceSub, List.replicate_succ, List.replicate_zero]
  refine callK_of (indexI_c l hl y X v w hv) ?_
  rintro r w1 ⟨⟨n, rfl, hn⟩, hb⟩
  simp -dsimp only [push_cast, Nat.reduceAdd, Nat.reduceLeDiff, decide_true]
  exact ⟨⟨_, rfl, by rw [decide_eq_true_iff]; exact hn⟩, hb⟩

end Go.Proofs.YtonedboaomehaaaDoor
