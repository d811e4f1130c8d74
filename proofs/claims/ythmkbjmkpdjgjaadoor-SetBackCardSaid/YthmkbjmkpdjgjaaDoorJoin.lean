import Derived.Test.YthmkbjmkpdjgjaaDoorSo1
import Derived.Shelf.Strings.OnBuilder
namespace Go.Vc
open Go.RowKit
/-- A string, in a cell. -/
def encS (b : List UInt8) : List Value := [str b]
theorem Sl.strs {X : Nat → Prop} {w : World} {v : Value} {x : List UInt8} {l : List (List UInt8)} (h : Sl X 1 (En encS) w v (x :: l)) : ∃ b o c, v = .slice (some ⟨b, o, none⟩) (x :: l).length c ∧ (x :: l).length ≤ c ∧ b < w.heap.size ∧ ∀ (j : Nat) y, ((x :: l).map fun t : List UInt8 => (⟨t.toArray⟩ : ByteArray))[j]? = some y → w.cell? ⟨b, o + j, none⟩ = some (.string y) := by
  obtain ⟨a, c, rfl, hc, hel⟩ := h
  have h0 := hel 0 x rfl
  obtain ⟨b, o, cs, rfl, hb, hcs, hcell, hr⟩ := h0
  have hall : ∀ (j : Nat) y, ((x :: l).map fun t : List UInt8 => (⟨t.toArray⟩ : ByteArray))[j]? = some y → w.cell? ⟨b, o + j, none⟩ = some (.string y) := by
    intro j y hy
    rw [List.getElem?_map] at hy
    cases hx : (x :: l)[j]? with
    | none => rw [hx] at hy; cases hy
    | some t =>
      rw [hx] at hy
      cases hy
      have h1 := hel j t hx
      obtain ⟨b1, o1, cs1, he, hb1, hcs1, hcell1, hr1⟩ := h1
      cases he
      have := hcell1 0 (str t) (by rw [hr1]; rfl)
      rwa [Nat.mul_one, Nat.add_zero] at this
  exact ⟨b, o, c, rfl, hc, World.block_lt_of_cell? w _ (hall 0 _ rfl), hall⟩
end Go.Vc
namespace Go.Proofs.YthmkbjmkpdjgjaaDoor
open Go.Vc Go.Proofs Go.RowKit Cae
set_option maxRecDepth 100000
set_option linter.unusedSimpArgs false
set_option linter.unusedVariables false
attribute [local irreducible] wpL callK valK unitK runK Fun Sl Own vc vcOps opK pureK
set_option maxHeartbeats 4000000

def joinR_ren : Go.Shelf.Ren := ⟨fun | 156 => 34 | 165 => 46 | 166 => 47 | 169 => 48 | 240 => 71 | 241 => 72 | 276 => 92 | 277 => 93 | n => n, fun | 31 => 62 | 9 => 9 | 3 => 3 | 4 => 4 | 0 => 0 | 20 => 20 | 72 => 76 | 76 => 78 | 70 => 73 | 37 => 74 | 75 => 38 | 127 => 103 | 164 => 121 | 5 => 5 | 80 => 80 | n => n, fun | n => n⟩
theorem joinR : Go.Proofs.Lays.n156 Tryd.prog joinR_ren := {
  mixed := by kernel_rfl
  f156 := Tryd.func34.trans (congrArg some (by kernel_rfl))
  f165 := Tryd.func46.trans (congrArg some (by kernel_rfl))
  f166 := Tryd.func47.trans (congrArg some (by kernel_rfl))
  f169 := Tryd.func48.trans (congrArg some (by kernel_rfl))
  f240 := Tryd.func71.trans (congrArg some (by kernel_rfl))
  f241 := Tryd.func72.trans (congrArg some (by kernel_rfl))
  f276 := Tryd.func92.trans (congrArg some (by kernel_rfl))
  f277 := Tryd.func93.trans (congrArg some (by kernel_rfl))
  t0 := Tryd.underlying0
  a0 := Tryd.isAgg0
  z0 := Tryd.sizeOf0
  v0 := Tryd.zeroValue0
  t3 := Tryd.underlying3
  a3 := Tryd.isAgg3
  z3 := Tryd.sizeOf3
  v3 := Tryd.zeroValue3
  t4 := Tryd.underlying4
  a4 := Tryd.isAgg4
  z4 := Tryd.sizeOf4
  v4 := Tryd.zeroValue4
  t9 := Tryd.underlying9
  a9 := Tryd.isAgg9
  z9 := Tryd.sizeOf9
  v9 := Tryd.zeroValue9
  t20 := Tryd.underlying20
  a20 := Tryd.isAgg20
  z20 := Tryd.sizeOf20
  v20 := Tryd.zeroValue20
  t31 := Tryd.underlying62
  a31 := Tryd.isAgg62
  z31 := Tryd.sizeOf62
  v31 := Tryd.zeroValue62
  t37 := Tryd.underlying74
  a37 := Tryd.isAgg74
  z37 := Tryd.sizeOf74
  v37 := Tryd.zeroValue74
  t70 := Tryd.underlying73
  a70 := Tryd.isAgg73
  z70 := Tryd.sizeOf73
  v70 := Tryd.zeroValue73
  t72 := Tryd.underlying76
  a72 := Tryd.isAgg76
  z72 := Tryd.sizeOf76
  v72 := Tryd.zeroValue76
  t75 := Tryd.underlying38
  a75 := Tryd.isAgg38
  z75 := Tryd.sizeOf38
  v75 := Tryd.zeroValue38
  t76 := Tryd.underlying78
  a76 := Tryd.isAgg78
  z76 := Tryd.sizeOf78
  v76 := Tryd.zeroValue78
  t127 := Tryd.underlying103
  a127 := Tryd.isAgg103
  z127 := Tryd.sizeOf103
  v127 := Tryd.zeroValue103
  t164 := Tryd.underlying121
  a164 := Tryd.isAgg121
  z164 := Tryd.sizeOf121
  v164 := Tryd.zeroValue121 }

theorem joinX : Builder.Extra Tryd.prog joinR_ren where
  sizeBuilder := by kernel_rfl
  liesBuilder := by kernel_rfl
  t5 := by kernel_rfl
  a5 := fun w => (tyK_one (P := Tryd.prog) (by kernel_rfl) w).1
  z5 := fun w => (tyK_one (P := Tryd.prog) (by kernel_rfl) w).2
  v5 := by intro w; rfl
  infoByte := by kernel_rfl
  cellsByte := by kernel_rfl
  sizeByte := by kernel_rfl
  neB5 := by decide
theorem join_c (l : List (List UInt8)) (sep : List UInt8) (hN : l.length < 1000000000) (hlen : (Lib.join l sep).length ≤ 140737488355328) (X : Nat → Prop) (v : Value) (w : World) (hv : Sl X 1 (En encS) w v l) :
    Fun Tryd.prog 34 [v, str sep] w fun r w' => r = str (Lib.join l sep) ∧ Below w.heap.size w w' := by
  refine fun_of_calls Tryd.func34 (by kernel_rfl) (by kernel_rfl) ?_
  cases l with
  | nil =>
    have hsh := hv.shape
    obtain ⟨a, c, rfl, hc⟩ := hsh
    refine Calls.mono (Any.strings_Join_none joinR joinX a c ⟨sep.toArray⟩ w) ?_
    rintro e w' ⟨rfl, rfl⟩
    exact ⟨_, rfl, rfl, Below.refl _ _⟩
  | cons x l =>
    have hsl := hv.strs
    obtain ⟨b, o, c, rfl, hc, hb, hcell⟩ := hsl
    have e1 : (((x :: l).map fun t : List UInt8 => (⟨t.toArray⟩ : ByteArray)).map (·.data.toList)) = x :: l := by
      rw [List.map_map]
      exact List.map_id' _
    have hj := Any.strings_Join joinR joinX b o c ((x :: l).map fun t : List UInt8 => (⟨t.toArray⟩ : ByteArray)) ⟨sep.toArray⟩ w hcell hb (by rw [List.length_map]; omega) (by rw [List.length_map]; exact hc) (by rw [e1]; exact hlen)
    rw [e1, List.length_map] at hj
    refine Calls.mono hj ?_
    rintro e w' ⟨rfl, hbl⟩
    exact ⟨_, rfl, rfl, hbl⟩
end Go.Proofs.YthmkbjmkpdjgjaaDoor
