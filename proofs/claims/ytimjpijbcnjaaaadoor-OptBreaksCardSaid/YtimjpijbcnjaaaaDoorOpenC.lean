import Derived.Test.YtimjpijbcnjaaaaDoorOpen
import Derived.Test.YtimjpijbcnjaaaaDoorRightb
namespace Go.Proofs.YtimjpijbcnjaaaaDoor
open Go.Vc Go.Proofs Go.RowKit Cae
set_option maxRecDepth 100000
set_option linter.unusedSimpArgs false
set_option linter.unusedVariables false
attribute [local irreducible] wpL callK valK unitK runK Fun Sl Own vc vcOps opK pureK
open Go.Deep Go.ChangeShapes Go.WideShapes Go.ChangeAt

section
variable {H : Type} {enc : TypeId × Value → H} {W : World} {base : Nat} {sp : Nat → Bool} {held : Bool}
theorem c_int : Tryd.prog.cellsOf 3 = 1 := by kernel_rfl
theorem open_int {n : Nat} {cs : List Value} {y : DataW H × List MemPlace} (h : DataW.trod enc Tryd.prog W base sp held n 3 cs = some y) : ∃ z : Int, cs = [.int .i64 z] := by
  obtain ⟨z, hz, _⟩ := DataW.trod_int Tryd.underlying3 h
  exact ⟨z, hz⟩
theorem open_range {n : Nat} {cs : List Value} {y : DataW H × List MemPlace} (h : DataW.trod enc Tryd.prog W base sp held n 79 cs = some y) : ∃ r : Rg, cs = encR r := by
  obtain ⟨y0, y1, m, _, hl, h0, h1⟩ := trod_struct2 Tryd.underlying79 h
  rw [show Tryd.prog.cellsOf 79 = 2 by kernel_rfl] at hl
  match cs, hl with
  | [a, b], _ =>
    have h0' : DataW.trod enc Tryd.prog W base sp held m 3 (List.take (Tryd.prog.cellsOf 3) [a, b]) = some y0 := h0
    have h1' : DataW.trod enc Tryd.prog W base sp held m 3 (List.take (Tryd.prog.cellsOf 3) [b]) = some y1 := h1
    rw [c_int] at h0' h1'
    obtain ⟨z0, e0⟩ := open_int h0'
    obtain ⟨z1, e1⟩ := open_int h1'
    simp at e0 e1
    subst e0 e1
    exact ⟨(z0, z1), rfl⟩
theorem open_inst {n : Nat} {cs : List Value} {y : DataW H × List MemPlace} (h : DataW.trod enc Tryd.prog W base sp held n 37 cs = some y) : ∃ r : I3, cs = encIn r := by
  obtain ⟨y0, y1, y2, m, _, hl, h0, h1, h2⟩ := trod_struct3 Tryd.underlying37 h
  rw [show Tryd.prog.cellsOf 37 = 3 by kernel_rfl] at hl
  match cs, hl with
  | [a, b, c], _ =>
    have h0' : DataW.trod enc Tryd.prog W base sp held m 3 (List.take (Tryd.prog.cellsOf 3) [a, b, c]) = some y0 := h0
    have h1' : DataW.trod enc Tryd.prog W base sp held m 3 (List.take (Tryd.prog.cellsOf 3) [b, c]) = some y1 := h1
    have h2' : DataW.trod enc Tryd.prog W base sp held m 3 (List.take (Tryd.prog.cellsOf 3) [c]) = some y2 := h2
    rw [c_int] at h0' h1' h2'
    obtain ⟨z0, e0⟩ := open_int h0'
    obtain ⟨z1, e1⟩ := open_int h1'
    obtain ⟨z2, e2⟩ := open_int h2'
    simp at e0 e1 e2
    subst e0 e1 e2
    exact ⟨⟨z0, z1, z2⟩, rfl⟩
theorem open_ints {n : Nat} {cs : List Value} {y : DataW H × List MemPlace} (h : DataW.trod enc Tryd.prog W base sp held n 26 cs = some y) : ∃ v l, cs = [v] ∧ Sl (fun _ => False) 1 (En encI) W v l :=
  open_slice Tryd.underlying26 c_int (by omega) h fun n cs y _ hh => open_int hh
theorem open_set {n : Nat} {cs : List Value} {y : DataW H × List MemPlace} (h : DataW.trod enc Tryd.prog W base sp held n 76 cs = some y) : ∃ s, SetR (fun _ => False) W cs s := by
  obtain ⟨v, l, hcs, hl⟩ := open_slice (k := 2) (R := En encR) Tryd.underlying76 (by kernel_rfl) (by omega) h fun n cs y _ hh => open_range hh
  exact ⟨l, v, hcs, hl⟩
theorem open_code {n : Nat} {cs : List Value} {y : DataW H × List MemPlace} (h : DataW.trod enc Tryd.prog W base sp held n 25 cs = some y) : ∃ (sv iv : Value) (c : CodeP), cs = [sv, iv] ∧ SetsV (fun _ => False) W sv c.sets ∧ Sl (fun _ => False) 3 (En encIn) W iv c.ins := by
  obtain ⟨y0, y1, m, _, hl, h0, h1⟩ := trod_struct2 Tryd.underlying25 h
  rw [show Tryd.prog.cellsOf 25 = 2 by kernel_rfl] at hl
  match cs, hl with
  | [a, b], _ =>
    have h0' : DataW.trod enc Tryd.prog W base sp held m 22 (List.take (Tryd.prog.cellsOf 22) [a, b]) = some y0 := h0
    have h1' : DataW.trod enc Tryd.prog W base sp held m 23 (List.take (Tryd.prog.cellsOf 23) [b]) = some y1 := h1
    rw [show Tryd.prog.cellsOf 22 = 1 by kernel_rfl] at h0'
    rw [show Tryd.prog.cellsOf 23 = 1 by kernel_rfl] at h1'
    obtain ⟨sv, sets, e0, hs⟩ := open_slice (k := 1) (R := SetR (fun _ => False) W) Tryd.underlying22 (by kernel_rfl) (by omega) h0' fun n cs y _ hh => open_set hh
    obtain ⟨iv, ins, e1, hi⟩ := open_slice (k := 3) (R := En encIn) Tryd.underlying23 (by kernel_rfl) (by omega) h1' fun n cs y _ hh => open_inst hh
    simp at e0 e1
    subst e0 e1
    exact ⟨a, b, ⟨sets, ins⟩, rfl, hs, hi⟩
end
end Go.Proofs.YtimjpijbcnjaaaaDoor
