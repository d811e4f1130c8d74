import Derived.Test.YtplbgmoeannobaaGreatDoorFacts
import Derived.Test.YtplbgmoeannobaaGreatDoorV
import Derived.Test.YtplbgmoeannobaaGreatDoorP
namespace Go.Proofs.YtplbgmoeannobaaGreatDoor
open Go.Vc Go.Proofs Go.RowKit Cae
set_option maxRecDepth 100000
set_option linter.unusedSimpArgs false
set_option linter.unusedVariables false
attribute [local irreducible] wpL callK valK unitK runK Fun Sl Own vc vcOps opK pureK
set_option maxHeartbeats 4000000

def encR (r : Rg) : List Value := [.int .i64 r.1, .int .i64 r.2]

theorem setRight_cons (last : Int) (r : Rg) (s : List Rg) : setRight last (r :: s) = if r.1 ≤ last + 1 ∨ r.2 < r.1 ∨ 1114111 < r.2 then false else setRight r.2 s := rfl

theorem setRight_c (s : List Rg) (hs : s.length < 1000000000) (X : Nat → Prop) (v : Value) (w : World) (hv : Sl X 2 (En encR) w v s) :
    Fun Tryz.prog 4 [v] w fun r w' => r = .bool (setRight (-2) s) ∧ Below w.heap.size w w' := by
  obtain ⟨a, c, rfl, hc⟩ := hv.shape
  refine fun_of_vc Tryz.func4 rfl (by kernel_rfl) [2] rfl ?_
  push_cast -dsimp (maxSteps := 4000000) [Tryz.ntmps4]
  refine wpL_loop [2, 3, 5, 8, 9, 10, 11, 12, 13, 14, 15, 16, 17, 18, 19, 20, 21, 22, 23, 24, 25, 26, 27, 28, 29, 30, 31] (fun z wx => ∃ (i : Nat) (last : Int), z 8 = .int .i64 i ∧ z 3 = .int .i64 last ∧ i ≤ s.length ∧ (-2 ≤ last ∧ last ≤ 1114111) ∧ setRight last (s.drop i) = setRight (-2) s ∧ Below w.heap.size w wx) (fun z _ => s.length - (intOf (z 8)).toNat) ?_ ?_
  · exact ⟨0, -2, rfl, rfl, Nat.zero_le _, by omega, rfl, Below.refl _ _⟩
  · intro z wx hI
    obtain ⟨i, last, h8, h3, hi, hl, hd, hb⟩ := hI
    push_cast -dsimp [h8, h3]
    refine ⟨fun hlt => ?_, fun hge => ?_⟩
    · obtain ⟨x, hx, hxm, hdx, ht⟩ := lt_get (l := s) (i := i) (by omega)
      obtain ⟨b, o, rfl, hX, hcell⟩ := (hv.below hb).get hx
      have c0 : cellsAt wx ⟨b, o + i * 2, none⟩ 0 2 = some [.int .i64 x.1, .int .i64 x.2] := cellsAt_of (encR x) 0 (fun j u hu => by simpa using hcell j u hu)
      push_cast -dsimp [c0]
      refine ⟨⟨by omega, by omega⟩, ?_⟩
      refine allocK (z := [.int .i64 0, .int .i64 0]) (by kernel_rfl) ?_
      intro w1 hw1
      push_cast -dsimp
      refine storeAgg (n := 2) (by kernel_rfl) hw1.blk rfl (by simp) (by simp [Value.oneCell']) ?_
      intro w2 hw2
      have c1 : w2.cell? ⟨wx.heap.size, 0, none⟩ = some (.int .i64 x.1) := hw2.blk.cell rfl
      have c2 : w2.cell? ⟨wx.heap.size, 1, none⟩ = some (.int .i64 x.2) := hw2.blk.cell rfl
      have hb2 : Below w.heap.size w w2 := hb.trans ((hw1.below.mono hb.size).trans (hw2.kept.below (by have := hw1.size; have := hb.size; omega) (fun _ h => by have := hb.size; omega)))
      rw [hdx, setRight_cons] at hd
      push_cast -dsimp [c1, c2]
      refine ⟨⟨by omega, by omega⟩, fun h1 => ⟨fun h2 => ⟨fun h3 => ?_, fun h3 => ?_⟩, fun h2 => ?_⟩, fun h1 => ?_⟩
      · rw [if_pos (by omega)] at hd; exact ⟨by rw [hd], hb2⟩
      · rw [if_neg (by omega)] at hd
        exact ⟨⟨by omega, by omega⟩, ⟨i + 1, x.2, rfl, rfl, by omega, by omega, hd, hb2⟩, by rw [h8]; simp only [intOf]; omega⟩
      · rw [if_pos (by omega)] at hd; exact ⟨by rw [hd], hb2⟩
      · rw [if_pos (by omega)] at hd; exact ⟨by rw [hd], hb2⟩
    · rw [List.drop_eq_nil_of_le (by omega)] at hd
      exact ⟨by rw [← hd]; rfl, hb⟩
end Go.Proofs.YtplbgmoeannobaaGreatDoor
