import Derived.Test.YtonedboaomehaaaDoorEnc
namespace Go.Proofs.YtonedboaomehaaaDoor
open Go.Vc Go.Proofs Go.RowKit Cae
set_option maxRecDepth 100000
set_option linter.unusedSimpArgs false
set_option linter.unusedVariables false
attribute [local irreducible] wpL callK valK unitK runK Fun Sl Own vc vcOps opK pureK

theorem equalI_c (l l' : List Int) (hl : l.length < 10000000) (X X' : Nat → Prop) (v v' : Value) (w : World) (hv : Sl X 1 (En encI) w v l) (hv' : Sl X' 1 (En encI) w v' l') :
    Fun Tryd.prog 13 [v, v'] w fun r w' => r = .bool (decide (l = l')) ∧ Below w.heap.size w w' := by
  obtain ⟨a, c, rfl, hc⟩ := hv.shape
  obtain ⟨a', c', rfl, hc'⟩ := hv'.shape
  refine fun_of_vc Tryd.func13 rfl (by kernel_rfl) [4] rfl ?_
  simp -dsimp only [push_cast, fr0, Tryd.ntmps13, List.length_cons, List.length_nil, Nat.reduceAdd, Nat.reduceSub, List.replicate_succ, List.replicate_zero]
  refine ⟨fun hne => ⟨?_, Below.refl _ _⟩, fun he => ?_⟩
  · rw [decide_eq_false]
    intro h; subst h; omega
  have he' : l.length = l'.length := by omega
  refine wpL_loop [4, 5, 13, 14, 15, 16, 17, 18, 19, 20, 21, 22, 23, 24, 25] (fun z wx => ∃ (i : Nat), z 13 = .int .i64 i ∧ i ≤ l.length ∧ l.take i = l'.take i ∧ Below w.heap.size w wx) (fun z _ => l.length - (intOf (z 13)).toNat) ?_ ?_
  · exact ⟨0, rfl, Nat.zero_le _, rfl, Below.refl _ _⟩
  · intro z wx hI
    obtain ⟨i, h13, hi, hok, hb⟩ := hI
    simp -dsimp only [push_cast, Nat.reduceAdd, Nat.reduceLeDiff, decide_true, h13]
    refine ⟨fun hlt => ?_, fun hge => ?_⟩
    · obtain ⟨x, hx, hxm, hd, ht⟩ := lt_get (l := l) (i := i) (by omega)
      obtain ⟨b, o, rfl, hX, hcell⟩ := (hv.below hb).get hx
      obtain ⟨x', hx', hxm', hd', ht'⟩ := lt_get (l := l') (i := i) (by omega)
      obtain ⟨b', o', rfl, hX', hcell'⟩ := (hv'.below hb).get hx'
      refine wpL_draw (fun w' => ∀ a, w'.cell? a = wx.cell? a) mixed (by kernel_rfl) (fun _ => rfl) ?_
      have c0 : wx.cell? ⟨b, o + i, none⟩ = some (.int .i64 x) := by simpa using hcell 0 _ rfl
      have c0' : wx.cell? ⟨b', o' + i, none⟩ = some (.int .i64 x') := by simpa using hcell' 0 _ rfl
      have d0 : wx.drew.cell? ⟨b, o + i, none⟩ = some (.int .i64 x) := c0
      have d0' : wx.drew.cell? ⟨b', o' + i, none⟩ = some (.int .i64 x') := c0'
      simp -dsimp only [push_cast, Nat.reduceAdd, Nat.reduceLeDiff, decide_true, d0, d0']
      refine ⟨⟨by omega, by omega⟩, fun w'' hC => by rw [hC, c0]; exact rfl, ⟨by omega, by omega⟩, fun w'' hC => by rw [hC, c0']; exact rfl, fun hne => ?_, fun heq => ?_⟩
      · refine ⟨?_, hb.drew⟩
        rw [decide_eq_false]
        intro h; subst h; rw [hx] at hx'; cases hx'; exact hne rfl
      · have heq : x = x' := Classical.byContradiction fun h => heq h
        exact ⟨⟨by omega, by omega⟩, ⟨i + 1, rfl, by omega, by rw [ht, ht', hok, heq], hb.drew⟩, by rw [h13]; simp only [intOf]; omega⟩
    · refine ⟨?_, hb⟩
      rw [List.take_of_length_le (by omega), List.take_of_length_le (by omega)] at hok
      rw [decide_eq_true hok]
theorem equalU_c (l l' : List U) (hl : l.length < 10000000) (X X' : Nat → Prop) (v v' : Value) (w : World) (hv : Sl X 3 (En encU) w v l) (hv' : Sl X' 3 (En encU) w v' l') :
    Fun Tryd.prog 8 [v, v'] w fun r w' => r = .bool (decide (l = l')) ∧ Below w.heap.size w w' := by
  obtain ⟨a, c, rfl, hc⟩ := hv.shape
  obtain ⟨a', c', rfl, hc'⟩ := hv'.shape
  refine fun_of_vc Tryd.func8 rfl (by kernel_rfl) [4] rfl ?_
  simp -dsimp only [push_cast, fr0, Tryd.ntmps8, List.length_cons, List.length_nil, Nat.reduceAdd, Nat.reduceSub, List.replicate_succ, List.replicate_zero]
  refine ⟨fun hne => ⟨?_, Below.refl _ _⟩, fun he => ?_⟩
  · rw [decide_eq_false]
    intro h; subst h; omega
  have he' : l.length = l'.length := by omega
  refine wpL_loop [4, 5, 13, 14, 15, 16, 17, 18, 19, 20, 21, 22, 23, 24, 25] (fun z wx => ∃ (i : Nat), z 13 = .int .i64 i ∧ i ≤ l.length ∧ l.take i = l'.take i ∧ Below w.heap.size w wx) (fun z _ => l.length - (intOf (z 13)).toNat) ?_ ?_
  · exact ⟨0, rfl, Nat.zero_le _, rfl, Below.refl _ _⟩
  · intro z wx hI
    obtain ⟨i, h13, hi, hok, hb⟩ := hI
    simp -dsimp only [push_cast, Nat.reduceAdd, Nat.reduceLeDiff, decide_true, h13]
    refine ⟨fun hlt => ?_, fun hge => ?_⟩
    · obtain ⟨x, hx, hxm, hd, ht⟩ := lt_get (l := l) (i := i) (by omega)
      obtain ⟨b, o, rfl, hX, hcell⟩ := (hv.below hb).get hx
      obtain ⟨x', hx', hxm', hd', ht'⟩ := lt_get (l := l') (i := i) (by omega)
      obtain ⟨b', o', rfl, hX', hcell'⟩ := (hv'.below hb).get hx'
      refine wpL_draw (fun w' => ∀ a, w'.cell? a = wx.cell? a) mixed (by kernel_rfl) (fun _ => rfl) ?_
      have g0 : ∀ w'' : World, (∀ a, w''.cell? a = wx.cell? a) → cellsAt w'' ⟨b, o + i * 3, none⟩ 0 3 = some [.int .i64 x.p, .int .i64 x.at_, .int .i64 x.n] := fun w'' hC => cellsAt_of (encU x) 0 (fun j u hu => by rw [hC]; simpa using hcell j u hu)
      have g0' : ∀ w'' : World, (∀ a, w''.cell? a = wx.cell? a) → cellsAt w'' ⟨b', o' + i * 3, none⟩ 0 3 = some [.int .i64 x'.p, .int .i64 x'.at_, .int .i64 x'.n] := fun w'' hC => cellsAt_of (encU x') 0 (fun j u hu => by rw [hC]; simpa using hcell' j u hu)
      have d0 := g0 wx.drew (fun _ => rfl)
      have d0' := g0' wx.drew (fun _ => rfl)
      simp -dsimp only [push_cast, Nat.reduceAdd, Nat.reduceLeDiff, decide_true, d0, d0']
      have hext : (((x.p : Int) = x'.p ∧ (x.at_ : Int) = x'.at_ ∧ (x.n : Int) = x'.n)) ↔ x = x' := by
        cases x; cases x'; simp only [U.mk.injEq]; omega
      rw [hext]
      refine ⟨⟨by omega, by omega⟩, fun w'' hC => by rw [g0 w'' hC]; exact rfl, ⟨by omega, by omega⟩, fun w'' hC => by rw [g0' w'' hC]; exact rfl, fun hne => ?_, fun heq => ?_⟩
      · refine ⟨?_, hb.drew⟩
        rw [decide_eq_false]
        intro h; subst h; rw [hx] at hx'; cases hx'; exact hne rfl
      · have heq : x = x' := Classical.byContradiction fun h => heq h
        exact ⟨⟨by omega, by omega⟩, ⟨i + 1, rfl, by omega, by rw [ht, ht', hok, heq], hb.drew⟩, by rw [h13]; simp only [intOf]; omega⟩
    · refine ⟨?_, hb⟩
      rw [List.take_of_length_le (by omega), List.take_of_length_le (by omega)] at hok
      rw [decide_eq_true hok]
end Go.Proofs.YtonedboaomehaaaDoor
