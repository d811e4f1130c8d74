import Derived.Test.YtimjpijbcnjaaaaDoorOpenC
import Derived.Test.YtimjpijbcnjaaaaDoorTell
import Derived.Test.YtimjpijbcnjaaaaDoorTie
import Derived.WalkKit
import Derived.ProofKit
import Derived.Handy
import Derived.Lay
import Derived.OpenShut
import Derived.LaidMore
import Derived.Carry
import Derived.SevenTiedAt
import Derived.LaidHandle
import Derived.LaidSub
import Derived.LaidLaws
namespace Go.Proofs.YtimjpijbcnjaaaaDoor
open Go.ChangeShapes Go.WideShapes Go.ChangeAt Go.RowKit Go.Vc Cae
set_option maxRecDepth 100000
set_option linter.unusedSimpArgs false
set_option linter.unusedVariables false

theorem own : ownKnob Tryd.prog.godebug = none := by kernel_rfl
theorem laidOut : laidOutB Tryd.prog = true := by kernel_rfl

def laidE : List (String × DataW Unit) := [("errors.errorType", Rows.laid_errors_errorType)]

theorem errVar_of {W : World} {l : List (String × DataW Unit)} (hl : (l.filter fun x => x.2.handleName?.isSome) = laidE) (h : laidMetH Tryd.prog l W) : ErrVar W := by
  have h' := (laidMetH_iff.1 h).2
  obtain ⟨name, u, ty, e1, e2, e3, e4, e5⟩ := h' ("errors.errorType", Rows.laid_errors_errorType) (by rw [hl]; exact List.mem_singleton.2 rfl)
  have en : name = [101, 114, 114, 111, 114] := (Option.some.inj e1).symm
  subst en
  obtain rfl := Option.some.inj ((show (Tryd.prog.cutTypes.find? (·.1 == "internal/reflectlite.rtype")).map (·.2) = some 148 by kernel_rfl).symm.trans e2)
  have hm : ty ∈ (List.range Tryd.prog.types.size).filter fun t => Tryd.prog.rowNamed t [101, 114, 114, 111, 114] := List.mem_filter.2 ⟨List.mem_range.2 e3, e4⟩
  rw [show ((List.range Tryd.prog.types.size).filter fun t => Tryd.prog.rowNamed t [101, 114, 114, 111, 114]) = [30] by kernel_rfl] at hm
  obtain rfl := List.mem_singleton.1 hm
  rw [show typeHandle Tryd.prog 30 = .pointer (some ⟨2, 30, none⟩) by kernel_rfl] at e5
  have := World.var?_cell (show Tryd.prog.globalNamed "errors.errorType" = some 1 by kernel_rfl) e5 0
  unfold ErrVar
  simpa using this

theorem arg_of {H : Type} {enc : TypeId × Value → H} {W : World} {b0 : Nat} {t e : TypeId} {v : Value} {d : DataW H} {p : List MemPlace} {sp : Nat → Bool} {hd : Bool} (ht : Tryd.prog.underlying t = some (.slice e)) (h : DataW.Trod enc Tryd.prog W b0 sp hd t v d p) (hv : ∃ a n c, v = .slice a n c) :
    ∀ n c, v = .slice none n c → n = 0 ∧ c = 0 := by
  obtain ⟨a0, n', c', rfl⟩ := hv
  obtain ⟨f, h⟩ := h
  rcases DataW.trod_slice ht h with ⟨hcs, _⟩ | ⟨a, len, cap, elems, rest, n, _, hcs, _⟩
  · have : Value.slice a0 n' c' = .slice none 0 0 := by simpa [Value.cells] using hcs
    intro n c h; rw [this] at h; cases h; exact ⟨rfl, rfl⟩
  · have : Value.slice a0 n' c' = .slice (some a) len cap := by simpa [Value.cells] using hcs
    intro n c h; rw [this] at h; cases h

/-- Arguments, as they are read. -/
theorem arg_code {H : Type} {enc : TypeId × Value → H} {W : World} {b0 : Nat} {v : Value} {d : DataW H} {p : List MemPlace} {sp : Nat → Bool} {hd : Bool} (h : DataW.Trod enc Tryd.prog W b0 sp hd 25 v d p) : ∃ c, CodeV (fun _ => False) W v c := by
  obtain ⟨n, h⟩ := h
  obtain ⟨sv, iv, c, hcs, hs, hi⟩ := open_code h
  obtain ⟨cs, hv, hcs'⟩ := cells_agg (v := v) (n := 2) (by omega) (by rw [hcs]; rfl)
  rw [hcs] at hcs'
  subst hcs'
  exact ⟨c, sv, iv, hv, hs, hi⟩
theorem arg_ints {H : Type} {enc : TypeId × Value → H} {W : World} {base b0 : Nat} {v : Value} {d : DataW H} {p : List MemPlace} {sp : Nat → Bool} {hd : Bool} (hval : Value.okWide Tryd.prog W .any base 26 v)
    (h : DataW.Trod enc Tryd.prog W b0 sp hd 26 v d p) : ∃ l, Sl (fun _ => False) 1 (En encI) W v l ∧ ∀ n c, v = .slice none n c → n = 0 ∧ c = 0 := by
  obtain ⟨a, len, cap, rfl⟩ := okWide_slice Tryd.underlying26 hval
  have h0 := arg_of Tryd.underlying26 h ⟨a, len, cap, rfl⟩
  obtain ⟨n, h⟩ := h
  obtain ⟨v, ps, hcs, hs⟩ := open_ints h
  have : v = .slice a len cap := by simpa [Value.cells] using hcs.symm
  exact ⟨ps, this ▸ hs, h0⟩
end Go.Proofs.YtimjpijbcnjaaaaDoor
