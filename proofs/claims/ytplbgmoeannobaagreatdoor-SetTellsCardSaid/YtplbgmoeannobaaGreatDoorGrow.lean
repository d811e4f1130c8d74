import Derived.Test.YtplbgmoeannobaaGreatDoorSo1
import Derived.Shelf.Spec.SlicesGrow
namespace Go.Proofs.YtplbgmoeannobaaGreatDoor
open Go.Vc Go.Proofs Go.RowKit Cae
set_option maxRecDepth 100000
set_option linter.unusedSimpArgs false
set_option linter.unusedVariables false
attribute [local irreducible] wpL callK valK unitK runK Fun Sl Own vc vcOps opK pureK

def growR_ren : Go.Shelf.Ren := ⟨fun | 4 => 55 | n => n, fun | 22 => 24 | 25 => 42 | 3 => 3 | 4 => 4 | 9 => 9 | 20 => 20 | 0 => 0 | 2 => 3 | n => n, fun | n => n⟩
theorem growR : Go.Proofs.Lays8.n4 Tryz.prog growR_ren := {
  mixed := by kernel_rfl
  f4 := ⟨ "slices.Grow[caesura/api.Set,caesura/api.Range]", by decide, Tryz.func55.trans (congrArg some (by kernel_rfl))⟩
  t0 := Tryz.underlying0
  a0 := Tryz.isAgg0
  z0 := Tryz.sizeOf0
  v0 := Tryz.zeroValue0
  t3 := Tryz.underlying3
  a3 := Tryz.isAgg3
  z3 := Tryz.sizeOf3
  v3 := Tryz.zeroValue3
  t4 := Tryz.underlying4
  a4 := Tryz.isAgg4
  z4 := Tryz.sizeOf4
  v4 := Tryz.zeroValue4
  t9 := Tryz.underlying9
  a9 := Tryz.isAgg9
  z9 := Tryz.sizeOf9
  v9 := Tryz.zeroValue9
  t20 := Tryz.underlying20
  a20 := Tryz.isAgg20
  z20 := Tryz.sizeOf20
  v20 := Tryz.zeroValue20
  t22 := Tryz.underlying24
  a22 := Tryz.isAgg24
  z22 := Tryz.sizeOf24
  v22 := Tryz.zeroValue24 }

theorem grow_c (n : Nat) (hn : n < 1000000000) (w : World) :
    Fun Tryz.prog 55 [.slice none 0 0, .int .i64 (n : Int)] w fun r w' => Own w.heap.size 42 2 encR w' r ([] : List Rg) ∧ Below w.heap.size w w' := by
  refine fun_of_calls Tryz.func55 (by kernel_rfl) (by kernel_rfl) ?_
  rcases Nat.eq_zero_or_pos n with h0 | h0
  · subst h0
    refine Calls.mono (Any8.slices_Grow_room growR none 0 0 0 w (by omega) (by omega) (by omega) (by omega)) ?_
    rintro e w' ⟨rfl, rfl⟩
    exact ⟨_, rfl, Own.nil (enc := encR) _ _ (fun _ => rfl) _, Below.refl _ _⟩
  · have he := elI_spec elI_24
    obtain ⟨hu, i, z, hi, hz, hk0, hby, hzs, hk, hb0⟩ := he
    refine Calls.mono (Any8.slices_Grow_grow growR i z hi hz (by omega) none 0 0 n [] w (by omega) (by omega) (by rw [hby]; omega) (by omega) (by simp) (fun _ => rfl) (fun a h => by cases h)) ?_
    rintro e w' ⟨rfl, rfl⟩
    have hG := grownCap_le_maxLen w (0 + n) 0 42 (by unfold maxLen; omega)
    have hG2 := grownCap_ge w (0 + n) 0 42
    have hE : growR_ren.t 25 = 42 := rfl
    rw [hE]
    generalize grownCap w (0 + n) 0 42 = G at hG hG2
    refine ⟨_, rfl, ownFresh (fun _ => rfl) (Array.getElem?_push_size) hG ?_, ?_⟩
    · simp only [Array.size_append, size_zeroCells, hzs, hk0]
      simp
      omega
    · exact ⟨rfl, rfl, rfl, by show w.heap.size ≤ (w.heap.push _).size; rw [Array.size_push]; omega, fun i hi => by show (w.heap.push _)[i]? = _; rw [Array.getElem?_push, if_neg (by omega)]⟩
end Go.Proofs.YtplbgmoeannobaaGreatDoor
