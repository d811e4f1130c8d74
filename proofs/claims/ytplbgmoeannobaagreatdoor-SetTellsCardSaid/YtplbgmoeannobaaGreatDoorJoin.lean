import Derived.Test.YtplbgmoeannobaaGreatDoorSo0
import Derived.Shelf.Strings.OnBuilder
namespace Go.Vc
open Go.RowKit
/-- A string, in a cell. -/
def encS (b : List UInt8) : List Value := [str b]
theorem Sl.strs {X : Nat → Prop} {w : World} {v : Value} {x : List UInt8} {l : List (List UInt8)} (h : Sl X 1 (En encS) w v (x :: l)) : ∃ b o c, v = .slice (some ⟨b, o, none⟩) (x :: l).length c ∧ (x :: l).length ≤ c ∧ b < w.heap.size ∧ ∀ (j : Nat) y, ((x :: l).map fun t : List UInt8 => (⟨t.toArray⟩ : ByteArray))[j]? = some y → w.cell? ⟨b, o + j, none⟩ = some (.string y) := by
  obtain ⟨a, c, rfl, hc, hel⟩ := h
  have h0 := hel 0 x rfl
  obtain ⟨b, o, cs, rfl, hb, hcs, hcell, hr⟩ := h0
  have hall : ∀ (j : Nat) y, ((x :: l).map fun t : List UInt8 => (⟨t.toArray⟩ : ByteArray))[j]? = some y → w.cell? ⟨b, o + j, none⟩ = some (.string y) := by
    intro j y hy
    rw [List.getElem?_map] at hy
    cases hx : (x :: l)[j]? with
    | none => rw [hx] at hy; cases hy
    | some t =>
      rw [hx] at hy
      cases hy
      have h1 := hel j t hx
      obtain ⟨b1, o1, cs1, he, hb1, hcs1, hcell1, hr1⟩ := h1
      cases he
      have := hcell1 0 (str t) (by rw [hr1]; rfl)
      rwa [Nat.mul_one, Nat.add_zero] at this
  exact ⟨b, o, c, rfl, hc, World.block_lt_of_cell? w _ (hall 0 _ rfl), hall⟩
end Go.Vc
namespace Go.Proofs.YtplbgmoeannobaaGreatDoor
open Go.Vc Go.Proofs Go.RowKit Cae
set_option maxRecDepth 100000
set_option linter.unusedSimpArgs false
set_option linter.unusedVariables false
attribute [local irreducible] wpL callK valK unitK runK Fun Sl Own vc vcOps opK pureK
set_option maxHeartbeats 4000000

def joinR_ren : Go.Shelf.Ren := ⟨fun | 156 => 49 | 165 => 73 | 166 => 74 | 169 => 75 | 240 => 106 | 241 => 107 | 276 => 135 | 277 => 136 | n => n, fun | 31 => 54 | 9 => 9 | 3 => 3 | 4 => 4 | 0 => 0 | 20 => 20 | 72 => 100 | 76 => 102 | 70 => 97 | 37 => 98 | 75 => 35 | 127 => 142 | 164 => 176 | 5 => 5 | 80 => 104 | n => n, fun | n => n⟩
theorem joinR : Go.Proofs.Lays.n156 Tryz.prog joinR_ren := {
  mixed := by kernel_rfl
  f156 := Tryz.func49.trans (congrArg some (by kernel_rfl))
  f165 := Tryz.func73.trans (congrArg some (by kernel_rfl))
  f166 := Tryz.func74.trans (congrArg some (by kernel_rfl))
  f169 := Tryz.func75.trans (congrArg some (by kernel_rfl))
  f240 := Tryz.func106.trans (congrArg some (by kernel_rfl))
  f241 := Tryz.func107.trans (congrArg some (by kernel_rfl))
  f276 := Tryz.func135.trans (congrArg some (by kernel_rfl))
  f277 := Tryz.func136.trans (congrArg some (by kernel_rfl))
  t0 := Tryz.underlying0
  a0 := Tryz.isAgg0
  z0 := Tryz.sizeOf0
  v0 := Tryz.zeroValue0
  t3 := Tryz.underlying3
  a3 := Tryz.isAgg3
  z3 := Tryz.sizeOf3
  v3 := Tryz.zeroValue3
  t4 := Tryz.underlying4
  a4 := Tryz.isAgg4
  z4 := Tryz.sizeOf4
  v4 := Tryz.zeroValue4
  t9 := Tryz.underlying9
  a9 := Tryz.isAgg9
  z9 := Tryz.sizeOf9
  v9 := Tryz.zeroValue9
  t20 := Tryz.underlying20
  a20 := Tryz.isAgg20
  z20 := Tryz.sizeOf20
  v20 := Tryz.zeroValue20
  t31 := Tryz.underlying54
  a31 := Tryz.isAgg54
  z31 := Tryz.sizeOf54
  v31 := Tryz.zeroValue54
  t37 := Tryz.underlying98
  a37 := Tryz.isAgg98
  z37 := Tryz.sizeOf98
  v37 := Tryz.zeroValue98
  t70 := Tryz.underlying97
  a70 := Tryz.isAgg97
  z70 := Tryz.sizeOf97
  v70 := Tryz.zeroValue97
  t72 := Tryz.underlying100
  a72 := Tryz.isAgg100
  z72 := Tryz.sizeOf100
  v72 := Tryz.zeroValue100
  t75 := Tryz.underlying35
  a75 := Tryz.isAgg35
  z75 := Tryz.sizeOf35
  v75 := Tryz.zeroValue35
  t76 := Tryz.underlying102
  a76 := Tryz.isAgg102
  z76 := Tryz.sizeOf102
  v76 := Tryz.zeroValue102
  t127 := Tryz.underlying142
  a127 := Tryz.isAgg142
  z127 := Tryz.sizeOf142
  v127 := Tryz.zeroValue142
  t164 := Tryz.underlying176
  a164 := Tryz.isAgg176
  z164 := Tryz.sizeOf176
  v164 := Tryz.zeroValue176 }

theorem joinX : Builder.Extra Tryz.prog joinR_ren where
  sizeBuilder := by kernel_rfl
  liesBuilder := by kernel_rfl
  t5 := by kernel_rfl
  a5 := fun w => (tyK_one (P := Tryz.prog) (by kernel_rfl) w).1
  z5 := fun w => (tyK_one (P := Tryz.prog) (by kernel_rfl) w).2
  v5 := by intro w; rfl
  infoByte := by kernel_rfl
  cellsByte := by kernel_rfl
  sizeByte := by kernel_rfl
  neB5 := by decide
theorem join_c (l : List (List UInt8)) (sep : List UInt8) (hN : l.length < 1000000000) (hlen : (Lib.join l sep).length ≤ 140737488355328) (X : Nat → Prop) (v : Value) (w : World) (hv : Sl X 1 (En encS) w v l) :
    Fun Tryz.prog 49 [v, str sep] w fun r w' => r = str (Lib.join l sep) ∧ Below w.heap.size w w' := by
  refine fun_of_calls Tryz.func49 (by kernel_rfl) (by kernel_rfl) ?_
  cases l with
  | nil =>
    have hsh := hv.shape
    obtain ⟨a, c, rfl, hc⟩ := hsh
    refine Calls.mono (Any.strings_Join_none joinR joinX a c ⟨sep.toArray⟩ w) ?_
    rintro e w' ⟨rfl, rfl⟩
    exact ⟨_, rfl, rfl, Below.refl _ _⟩
  | cons x l =>
    have hsl := hv.strs
    obtain ⟨b, o, c, rfl, hc, hb, hcell⟩ := hsl
    have e1 : (((x :: l).map fun t : List UInt8 => (⟨t.toArray⟩ : ByteArray)).map (·.data.toList)) = x :: l := by
      rw [List.map_map]
      exact List.map_id' _
    have hj := Any.strings_Join joinR joinX b o c ((x :: l).map fun t : List UInt8 => (⟨t.toArray⟩ : ByteArray)) ⟨sep.toArray⟩ w hcell hb (by rw [List.length_map]; omega) (by rw [List.length_map]; exact hc) (by rw [e1]; exact hlen)
    rw [e1, List.length_map] at hj
    refine Calls.mono hj ?_
    rintro e w' ⟨rfl, hbl⟩
    exact ⟨_, rfl, rfl, hbl⟩
end Go.Proofs.YtplbgmoeannobaaGreatDoor
