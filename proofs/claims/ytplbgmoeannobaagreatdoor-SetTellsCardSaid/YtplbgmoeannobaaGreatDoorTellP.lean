import Derived.Test.YtplbgmoeannobaaGreatDoorTell
namespace Go.Proofs.YtplbgmoeannobaaGreatDoor
open Go.Vc Go.Proofs Go.RowKit Cae
set_option maxRecDepth 100000
set_option linter.unusedSimpArgs false
set_option linter.unusedVariables false
attribute [local irreducible] wpL callK valK unitK runK Fun Sl Own vc vcOps opK pureK
open Go.RowKit Go.Extern.Stop Go.Stop Go.Extern
set_option maxHeartbeats 4000000

/-- What plain.Place says of an error. -/
inductive Placed (w : World) : Value → Int → Int → Prop
  | bare (n : Int) : Placed w (.iface 31 (.int .i64 n)) n (-1)
  | at_ (b : Nat) (n p : Int) : w.cell? ⟨b, 0, none⟩ = some (.int .i64 n) → w.cell? ⟨b, 1, none⟩ = some (.int .i64 p) → Placed w (.iface 136 (.pointer (some ⟨b, 0, none⟩))) n p

theorem Placed.isErr {w : World} {v : Value} {n p : Int} (h : Placed w v n p) : IsErr w v n := by
  cases h with
  | bare => exact .bare _
  | at_ b _ _ h1 _ => exact .at_ b _ h1
theorem Placed.mono {w w' : World} {v : Value} {n p : Int} {X : Nat → Prop} (h : Placed w v n p) (hk : Kept X w w') (hX : ∀ b o, v = .iface 136 (.pointer (some ⟨b, o, none⟩)) → ¬ X b) : Placed w' v n p := by
  cases h with
  | bare n => exact .bare n
  | at_ b n p h1 h2 => exact .at_ b n p (hk.cell h1 (hX _ _ rfl)) (hk.cell h2 (hX _ _ rfl))
theorem Placed.below {w w' : World} {v : Value} {n p : Int} (h : Placed w v n p) (hk : Below w.heap.size w w') : Placed w' v n p := by
  cases h with
  | bare n => exact .bare n
  | at_ b n p h1 h2 => exact .at_ b n p ((hk.cell (World.block_lt_of_cell? w _ h1)).trans h1) ((hk.cell (World.block_lt_of_cell? w _ h2)).trans h2)

theorem place0_c (w : World) : Fun Tryz.prog 72 [.nilIface] w fun r w' => r = .tuple #[.int .i64 0, .int .i64 (-1)] ∧ w' = w := by
  refine fun_of_vc Tryz.func72 rfl (by kernel_rfl) [2, 3] rfl ?_
  push_cast -dsimp (maxSteps := 4000000) [Tryz.ntmps72]
  refine callK_of (tell0_c w) ?_
  rintro _ w1 ⟨rfl, hw1⟩
  push_cast -dsimp
  refine wpL_loop [0, 2, 3, 5, 6, 7, 8, 11, 12, 13, 14, 15, 16, 17, 18, 19, 20, 21, 22, 23, 24, 25, 26, 27, 28, 29, 30, 31, 32, 33, 34, 35, 36] (fun z wx => z 0 = .nilIface ∧ wx = w1) (fun _ _ => 0) ⟨rfl, rfl⟩ ?_
  intro z wx hI
  obtain ⟨h0, hw⟩ := hI
  push_cast -dsimp [h0]
  exact hw.trans hw1

theorem place_c (v : Value) (n p : Int) (w : World) (hE : ErrVar w) (hv : Placed w v n p) : Fun Tryz.prog 72 [v] w fun r w' => r = .tuple #[.int .i64 n, .int .i64 p] ∧ Below w.heap.size w w' := by
  refine fun_of_vc Tryz.func72 rfl (by kernel_rfl) [2, 3] rfl ?_
  push_cast -dsimp (maxSteps := 4000000) [Tryz.ntmps72]
  refine callK_of (tell_c v n w hE hv.isErr) ?_
  rintro _ w1 ⟨rfl, hb1⟩
  push_cast -dsimp
  refine wpL_loop [0, 2, 3, 5, 6, 7, 8, 11, 12, 13, 14, 15, 16, 17, 18, 19, 20, 21, 22, 23, 24, 25, 26, 27, 28, 29, 30, 31, 32, 33, 34, 35, 36] (fun z wx => z 0 = v ∧ wx = w1) (fun _ _ => 0) ⟨rfl, rfl⟩ ?_
  rintro z wx ⟨h0, rfl⟩
  have hv1 := hv.below hb1
  cases hv1 with
  | bare n =>
    push_cast -dsimp [h0]
    refine valK_of (v := .tuple #[.pointer none, .bool false]) (w' := wx) (by kernel_rfl) ?_
    push_cast -dsimp
    refine assert_lacks (z := .nilIface) Tryz.underlying139 (by kernel_rfl) (by kernel_rfl) ?_
    push_cast -dsimp
    exact hb1
  | at_ b n p h1 h2 =>
    push_cast -dsimp [h0]
    refine valK_of (v := .tuple #[.pointer (some ⟨b, 0, none⟩), .bool true]) (w' := wx) (by kernel_rfl) ?_
    push_cast -dsimp
    refine wpL_draw (fun w' => w' = wx.drew) mixed (by kernel_rfl) rfl ?_
    have d2 : wx.drew.cell? ⟨b, 1, none⟩ = some (.int .i64 p) := h2
    push_cast -dsimp [d2]
    exact ⟨fun w'' hw => by subst hw; rw [d2]; exact rfl, hb1.drew⟩
end Go.Proofs.YtplbgmoeannobaaGreatDoor
