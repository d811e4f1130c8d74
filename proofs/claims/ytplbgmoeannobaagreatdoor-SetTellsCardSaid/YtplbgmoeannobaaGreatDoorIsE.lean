import Derived.Test.YtplbgmoeannobaaGreatDoorSet
import Derived.Test.YtplbgmoeannobaaGreatDoorTellP
/- What an error is, and that two sets are the same. -/
namespace Go.Proofs.YtplbgmoeannobaaGreatDoor
open Go.Vc Go.Proofs Go.RowKit Cae
set_option maxRecDepth 100000
set_option linter.unusedSimpArgs false
set_option linter.unusedVariables false
attribute [local irreducible] wpL callK valK unitK runK Fun Sl Own vc vcOps opK pureK
set_option maxHeartbeats 4000000

/-- An error and what it tells. -/
def Errs (w : World) (v : Value) (n p : Int) : Prop := (v = .nilIface ∧ n = 0 ∧ p = -1) ∨ Placed w v n p
theorem Errs.below {w w' : World} {v : Value} {n p : Int} (h : Errs w v n p) (hk : Below w.heap.size w w') : Errs w' v n p := h.imp id fun h => h.below hk

theorem placeE_c (v : Value) (n p : Int) (w : World) (hE : ErrVar w) (hv : Errs w v n p) : Fun Tryz.prog 72 [v] w fun r w' => r = .tuple #[.int .i64 n, .int .i64 p] ∧ Below w.heap.size w w' := by
  rcases hv with ⟨rfl, rfl, rfl⟩ | hv
  · exact (place0_c w).mono fun r w' ⟨h, hw⟩ => ⟨h, by subst hw; exact Below.refl _ _⟩
  · exact place_c v n p w hE hv

theorem is_c (v : Value) (n p a b : Int) (w : World) (hE : ErrVar w) (hv : Errs w v n p) : Fun Tryz.prog 46 [v, .agg #[.int .i64 a, .int .i64 b]] w fun r w' => r = .bool (decide (n = a ∧ p = b)) ∧ Below w.heap.size w w' := by
  refine fun_of_vc Tryz.func46 rfl (by kernel_rfl) [4] rfl ?_
  push_cast -dsimp (maxSteps := 4000000) [Tryz.ntmps46]
  refine boxK_of ?_
  intro w1 hw1
  push_cast -dsimp
  refine callK_of (placeE_c v n p w1 ((Kept.new hw1 (X := fun _ => False)).cell hE id) (hv.below hw1.below)) ?_
  rintro _ w2 ⟨rfl, hb2⟩
  have c0 : w2.cell? ⟨w.heap.size, 0, none⟩ = some (.int .i64 a) := (hb2.cell (by have := hw1.size; show w.heap.size < _; omega)).trans (hw1.cell rfl)
  have c1 : w2.cell? ⟨w.heap.size, 1, none⟩ = some (.int .i64 b) := (hb2.cell (by have := hw1.size; show w.heap.size < _; omega)).trans (hw1.cell rfl)
  push_cast -dsimp [c0, c1]
  have hb : Below w.heap.size w w2 := hw1.below.trans (hb2.mono (by have := hw1.size; omega))
  constructor
  · intro h; subst h; exact ⟨by simp, hb⟩
  · intro h; exact ⟨by simp [h], hb⟩

theorem Bare_c (e : Int) (w : World) : Fun Tryz.prog 47 [.int .i64 e] w fun r w' => r = .agg #[.int .i64 e, .int .i64 (-1)] ∧ Below w.heap.size w w' := by
  refine fun_of_vcC Tryz.func47 rfl (by kernel_rfl) [.cell 2 69] rfl ?_
  push_cast -dsimp (maxSteps := 4000000) [Tryz.ntmps47]
  refine allocK (z := [.int .i64 0, .int .i64 0]) (by kernel_rfl) ?_
  intro w1 hw1
  push_cast -dsimp
  refine storeAgg (n := 2) (by kernel_rfl) hw1.blk rfl (by simp) (by simp [Value.oneCell']) ?_
  intro w2 hw2
  have c2 : cellsAt w2 ⟨w.heap.size, 0, none⟩ 0 2 = some [.int .i64 e, .int .i64 (-1)] := hw2.blk.cellsAt
  have sz1 := hw1.size
  push_cast -dsimp [c2]
  exact hw1.below.trans (hw2.kept.below (by omega) (fun _ h => by omega))

theorem keptErr {w w' : World} (h : Below w.heap.size w w') (hE : ErrVar w) : ErrVar w' := (Kept.of_below h (X := fun _ => False) (fun k hk hl => by omega)).cell hE id

theorem bare_c (v : Value) (n p e : Int) (w : World) (hE : ErrVar w) (hv : Errs w v n p) : Fun Tryz.prog 21 [v, .int .i64 e] w fun r w' => r = .bool (decide (n = e ∧ p = -1)) ∧ Below w.heap.size w w' := by
  refine fun_of_vc Tryz.func21 rfl (by kernel_rfl) [4] rfl ?_
  push_cast -dsimp (maxSteps := 4000000) [Tryz.ntmps21]
  refine callK_of (Bare_c e w) ?_
  rintro _ w1 ⟨rfl, hb1⟩
  push_cast -dsimp
  refine callK_of (is_c v n p e (-1) w1 (keptErr hb1 hE) (hv.below hb1)) ?_
  rintro _ w2 ⟨rfl, hb2⟩
  push_cast -dsimp
  exact hb1.trans (hb2.mono hb1.size)

theorem sameSet_c (l : List Rg) (hl : l.length < 1000000000) (X X' : Nat → Prop) (v v' : Value) (w : World) (hv : Sl X 2 (En encR) w v l) (hv' : Sl X' 2 (En encR) w v' l) :
    Fun Tryz.prog 7 [v, v'] w fun r w' => r = .bool true ∧ Below w.heap.size w w' := by
  obtain ⟨a, c, rfl, hc⟩ := hv.shape
  obtain ⟨a', c', rfl, hc'⟩ := hv'.shape
  refine fun_of_vc Tryz.func7 rfl (by kernel_rfl) [4] rfl ?_
  push_cast -dsimp (maxSteps := 4000000) [Tryz.ntmps7]
  refine wpL_loop [4, 5, 11, 12, 13, 14, 15, 16, 17, 18, 19, 20, 21, 22, 23, 24, 25] (fun z wx => ∃ (i : Nat), z 5 = .int .i64 i ∧ i ≤ l.length ∧ Below w.heap.size w wx) (fun z _ => l.length - (intOf (z 5)).toNat) ?_ ?_
  · exact ⟨0, rfl, Nat.zero_le _, Below.refl _ _⟩
  · intro z wx hI
    obtain ⟨i, h5, hi, hb⟩ := hI
    push_cast -dsimp [h5]
    refine ⟨fun hlt => ?_, fun hge => ?_⟩
    · obtain ⟨x, hx, hxm, hd, ht⟩ := lt_get (l := l) (i := i) (by omega)
      obtain ⟨b, o, rfl, hX, hcell⟩ := (hv.below hb).get hx
      obtain ⟨b', o', rfl, hX', hcell'⟩ := (hv'.below hb).get hx
      refine wpL_draw (fun w' => ∀ a, w'.cell? a = wx.cell? a) mixed (by kernel_rfl) (fun _ => rfl) ?_
      have g0 : ∀ w'' : World, (∀ a, w''.cell? a = wx.cell? a) → cellsAt w'' ⟨b, o + i * 2, none⟩ 0 2 = some (encR x) := fun w'' hC => cellsAt_of (encR x) 0 (fun j u hu => by rw [hC]; simpa using hcell j u hu)
      have g0' : ∀ w'' : World, (∀ a, w''.cell? a = wx.cell? a) → cellsAt w'' ⟨b', o' + i * 2, none⟩ 0 2 = some (encR x) := fun w'' hC => cellsAt_of (encR x) 0 (fun j u hu => by rw [hC]; simpa using hcell' j u hu)
      have d0 := g0 wx.drew (fun _ => rfl)
      have d0' := g0' wx.drew (fun _ => rfl)
      unfold encR at d0 d0'
      push_cast -dsimp [d0, d0']
      refine ⟨⟨by omega, by omega⟩, fun w'' hC => by rw [g0 w'' hC]; exact rfl, ⟨by omega, by omega⟩, fun w'' hC => by rw [g0' w'' hC]; exact rfl, ?_⟩
      exact ⟨⟨by omega, by omega⟩, ⟨i + 1, rfl, by omega, hb.drew⟩, by rw [h5]; simp only [intOf]; omega⟩
    · exact hb
end Go.Proofs.YtplbgmoeannobaaGreatDoor
