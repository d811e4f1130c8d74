import Derived.Test.YtimjpijbcnjaaaaDoorOpenC
import Derived.Test.YtimjpijbcnjaaaaDoorImg3
import Derived.ChangeArms
namespace Go.Proofs.YtimjpijbcnjaaaaDoor
open Go.Vc Go.Proofs Go.RowKit Cae
set_option maxRecDepth 100000
set_option linter.unusedSimpArgs false
set_option linter.unusedVariables false
attribute [local irreducible] wpL callK valK unitK runK Fun Sl Own vc vcOps opK pureK
open Go.Deep Go.ChangeShapes Go.WideShapes Go.ChangeAt

section
variable {H : Type} {enc : TypeId × Value → H} {W : World} {base : Nat} {sp : Nat → Bool} {held : Bool}
theorem c_bool : Tryd.prog.cellsOf 4 = 1 := by kernel_rfl
theorem c_code : Tryd.prog.cellsOf 25 = 2 := by kernel_rfl
theorem openBool {n : Nat} {cs : List Value} {y : DataW H × List MemPlace} (h : DataW.trod enc Tryd.prog W base sp held n 4 cs = some y) : ∃ z : Bool, cs = [.bool z] := by
  obtain ⟨z, hz, _⟩ := DataW.trod_bool Tryd.underlying4 h
  exact ⟨z, hz⟩
theorem open_pair {n : Nat} {cs : List Value} {y : DataW H × List MemPlace} (h : DataW.trod enc Tryd.prog W base sp held n 61 cs = some y) : ∃ r, PairR (fun _ => False) W cs r := by
  obtain ⟨y0, y1, y2, m, _, hl, h0, h1, h2⟩ := trod_struct3 Tryd.underlying61 h
  rw [show Tryd.prog.cellsOf 61 = 5 by kernel_rfl] at hl
  match cs, hl with
  | [a, b, c, d, e], _ =>
    have h0' : DataW.trod enc Tryd.prog W base sp held m 4 (List.take (Tryd.prog.cellsOf 4) [a, b, c, d, e]) = some y0 := h0
    have h1' : DataW.trod enc Tryd.prog W base sp held m 25 (List.take (Tryd.prog.cellsOf 25) [b, c, d, e]) = some y1 := h1
    have h2' : DataW.trod enc Tryd.prog W base sp held m 25 (List.take (Tryd.prog.cellsOf 25) [d, e]) = some y2 := h2
    rw [c_bool] at h0'
    rw [c_code] at h1' h2'
    obtain ⟨z0, e0⟩ := openBool h0'
    obtain ⟨sv1, iv1, c1, e1, hs1, hi1⟩ := open_code h1'
    obtain ⟨sv2, iv2, c2, e2, hs2, hi2⟩ := open_code h2'
    simp at e0 e1 e2
    obtain ⟨rfl, rfl⟩ := e1
    obtain ⟨rfl, rfl⟩ := e2
    subst e0
    exact ⟨⟨z0, c1, c2⟩, b, c, d, e, rfl, ⟨b, c, rfl, hs1, hi1⟩, ⟨d, e, rfl, hs2, hi2⟩⟩
theorem open_prog {n : Nat} {v : Value} {y : DataW H × List MemPlace} (h : DataW.trod enc Tryd.prog W base sp held n 43 v.cells.toList = some y) : ∃ p, ProgV (fun _ => False) W v p := by
  obtain ⟨y0, y1, m, _, hl, h0, h1⟩ := trod_struct2 Tryd.underlying43 h
  rw [show Tryd.prog.cellsOf 43 = 2 by kernel_rfl] at hl
  obtain ⟨cs, hv, hcs⟩ := cells_agg (v := v) (n := 2) (by omega) hl
  rw [hcs] at hl h0 h1
  match cs, hl, hv with
  | [a, b], _, hv =>
    have h0' : DataW.trod enc Tryd.prog W base sp held m 41 (List.take (Tryd.prog.cellsOf 41) [a, b]) = some y0 := h0
    have h1' : DataW.trod enc Tryd.prog W base sp held m 4 (List.take (Tryd.prog.cellsOf 4) [b]) = some y1 := h1
    rw [show Tryd.prog.cellsOf 41 = 1 by kernel_rfl] at h0'
    rw [c_bool] at h1'
    obtain ⟨rv, rules, e0, hr⟩ := open_slice (k := 5) (R := PairR (fun _ => False) W) Tryd.underlying41 (by kernel_rfl) (by omega) h0' fun n cs y _ hh => open_pair hh
    obtain ⟨z1, e1⟩ := openBool h1'
    simp at e0 e1
    subst e0 e1
    exact ⟨⟨rules, z1⟩, a, hv, hr⟩
end
end Go.Proofs.YtimjpijbcnjaaaaDoor
