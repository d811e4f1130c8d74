import Derived.Test.YtieaebjkbhaoaaaGreatDoorOpen
import Derived.Test.YtieaebjkbhaoaaaGreatDoorHex
import Derived.Test.YtieaebjkbhaoaaaGreatDoorTie
import Derived.WalkKit
import Derived.ProofKit
import Derived.Handy
import Derived.Lay
import Derived.OpenShut
import Derived.LaidMore
import Derived.Carry
import Derived.SevenTiedAt
import Derived.LaidHandle
import Derived.LaidSub
import Derived.LaidLaws
import Derived.Lib.LaidTab
namespace Go.Proofs.YtieaebjkbhaoaaaGreatDoor
open Go.Deep Go.ChangeShapes Go.WideShapes Go.ChangeAt Go.RowKit Go.Vc Cae
set_option maxRecDepth 100000
set_option linter.unusedSimpArgs false
set_option linter.unusedVariables false

theorem own : ownKnob Tryz.prog.godebug = none := by kernel_rfl
theorem laidOut : laidOutB Tryz.prog = true := by kernel_rfl

def dbTab : List Int := [0, 1, 56, 2, 57, 49, 28, 3, 61, 58, 42, 50, 38, 29, 17, 4, 62, 47, 59, 36, 45, 43, 51, 22, 53, 39, 33, 30, 24, 18, 12, 5, 63, 55, 48, 27, 60, 41, 37, 16, 46, 35, 44, 21, 52, 32, 23, 11, 54, 26, 40, 15, 34, 20, 31, 10, 25, 14, 19, 9, 13, 8, 7, 6]
/-- The table of trailing zeros, as the row's condition gives it. -/
theorem db_of {W : World} {l : List (String × DataW Unit)} (hl : (l.filter fun x => x.1 == "math/bits.deBruijn64tab") = [("math/bits.deBruijn64tab", Rows.laid_math_bits_deBruijn64tab)]) (h : laidMetH Tryz.prog l W) : Db W := by
  have h := h.filter (fun x => x.1 == "math/bits.deBruijn64tab")
  rw [hl, MakeChecks.laidMetH_plain _ _ _ (by kernel_rfl)] at h
  have hg : Tryz.prog.globalNamed "math/bits.deBruijn64tab" = some 7 := by kernel_rfl
  have ht : Lib.TabIs Tryz.prog W "math/bits.deBruijn64tab" .u8 dbTab := Lib.tabIs_of_head (n := 64) (t := 154) (e := 5) hg (by kernel_rfl) (by kernel_rfl) (by kernel_rfl) (by kernel_rfl) (by kernel_rfl) h
  exact ht.cell hg 15 (by decide)

section
variable {H : Type} {enc : TypeId × Value → H} {W : World} {base : Nat} {sp : Nat → Bool} {held : Bool}
theorem c_int : Tryz.prog.cellsOf 3 = 1 := by kernel_rfl
theorem open_int {n : Nat} {cs : List Value} {y : DataW H × List MemPlace} (h : DataW.trod enc Tryz.prog W base sp held n 3 cs = some y) : ∃ z : Int, cs = [.int .i64 z] := by
  obtain ⟨z, hz, _⟩ := DataW.trod_int Tryz.underlying3 h
  exact ⟨z, hz⟩
theorem open_range {n : Nat} {cs : List Value} {y : DataW H × List MemPlace} (h : DataW.trod enc Tryz.prog W base sp held n 95 cs = some y) : ∃ r : Rg, cs = encR r := by
  obtain ⟨y0, y1, m, _, hl, h0, h1⟩ := trod_struct2 Tryz.underlying95 h
  rw [show Tryz.prog.cellsOf 95 = 2 by kernel_rfl] at hl
  match cs, hl with
  | [a, b], _ =>
    have h0' : DataW.trod enc Tryz.prog W base sp held m 3 (List.take (Tryz.prog.cellsOf 3) [a, b]) = some y0 := h0
    have h1' : DataW.trod enc Tryz.prog W base sp held m 3 (List.take (Tryz.prog.cellsOf 3) [b]) = some y1 := h1
    rw [c_int] at h0' h1'
    obtain ⟨z0, e0⟩ := open_int h0'
    obtain ⟨z1, e1⟩ := open_int h1'
    simp at e0 e1
    subst e0 e1
    exact ⟨(z0, z1), rfl⟩
end
theorem arg_of {H : Type} {enc : TypeId × Value → H} {W : World} {b0 : Nat} {t e : TypeId} {v : Value} {d : DataW H} {p : List MemPlace} {sp : Nat → Bool} {hd : Bool} (ht : Tryz.prog.underlying t = some (.slice e)) (h : DataW.Trod enc Tryz.prog W b0 sp hd t v d p) (hv : ∃ a n c, v = .slice a n c) : Arg v := by
  obtain ⟨a0, n', c', rfl⟩ := hv
  obtain ⟨f, h⟩ := h
  rcases DataW.trod_slice ht h with ⟨hcs, _⟩ | ⟨a, len, cap, elems, rest, n, _, hcs, _⟩
  · have : Value.slice a0 n' c' = .slice none 0 0 := by simpa [Value.cells] using hcs
    intro n c h; rw [this] at h; cases h; exact ⟨rfl, rfl⟩
  · have : Value.slice a0 n' c' = .slice (some a) len cap := by simpa [Value.cells] using hcs
    intro n c h; rw [this] at h; cases h
/-- A slice of ranges that is read as an argument. -/
theorem arg_ranges {H : Type} {enc : TypeId × Value → H} {W : World} {base b0 : Nat} {v : Value} {d : DataW H} {p : List MemPlace} {sp : Nat → Bool} {hd : Bool} (hval : Value.okWide Tryz.prog W .any base 79 v)
    (h : DataW.Trod enc Tryz.prog W b0 sp hd 79 v d p) : ∃ l, Sl (fun _ => False) 2 (En encR) W v l ∧ Arg v := by
  obtain ⟨a, len, cap, rfl⟩ := okWide_slice Tryz.underlying79 hval
  have h0 := arg_of Tryz.underlying79 h ⟨a, len, cap, rfl⟩
  obtain ⟨n, h⟩ := h
  obtain ⟨v, l, hcs, hl⟩ := open_slice (k := 2) (R := En encR) Tryz.underlying79 (by kernel_rfl) (by omega) h fun n cs y _ hh => open_range hh
  have : v = .slice a len cap := by simpa [Value.cells] using hcs.symm
  exact ⟨l, this ▸ hl, h0⟩
end Go.Proofs.YtieaebjkbhaoaaaGreatDoor
