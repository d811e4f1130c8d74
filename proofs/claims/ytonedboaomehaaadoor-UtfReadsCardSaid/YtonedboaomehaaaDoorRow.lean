import Derived.Test.YtonedboaomehaaaDoorLaw1
import Derived.Test.YtonedboaomehaaaDoorTie
import Derived.WalkKit
import Derived.ProofKit
import Derived.Handy
import Derived.Lay
import Derived.OpenShut
import Derived.LaidMore
import Derived.Carry
import Derived.SevenTiedAt
namespace Go.Proofs.YtonedboaomehaaaDoor
open Go.ChangeShapes Go.WideShapes Go.ChangeAt Go.RowKit Go.Vc
set_option maxRecDepth 100000
set_option linter.unusedSimpArgs false
set_option linter.unusedVariables false

theorem own : ownKnob Tryd.prog.godebug = none := by kernel_rfl
theorem laidOut : laidOutB Tryd.prog = true := by kernel_rfl

def laidLeast : List (String × DataW Unit) := [("caesura/utf.least", Rows.laid_caesura_utf_least)]

/-- The table of least code points, as the row's condition gives it. -/
theorem least_of {W : World} (h : laidMetH Tryd.prog laidLeast W) : Least W := by
  rw [MakeChecks.laidMetH_plain _ _ _ (by kernel_rfl)] at h
  obtain ⟨ps, ⟨g, t, cs, fuel, p, q, hg, ht, hv, hd, _, _⟩, _, _⟩ := h
  obtain rfl := Option.some.inj ((show Tryd.prog.globalNamed "caesura/utf.least" = some 1 by kernel_rfl).symm.trans hg)
  obtain rfl := Option.some.inj ((show (Tryd.prog.globals[1]?).map (·.type) = some 59 by kernel_rfl).symm.trans ht)
  have c5 : Tryd.prog.cellsOf 3 = 1 := by kernel_rfl
  have c29 : Tryd.prog.cellsOf 59 = 5 := by kernel_rfl
  obtain ⟨xs, m, _, ex, hlen, hl, hel⟩ := DataW.trod_array Tryd.underlying59 hd
  rw [c29] at hlen
  have key : cs = #[.int .i64 0, .int .i64 0, .int .i64 128, .int .i64 2048, .int .i64 65536] := by
    obtain ⟨l⟩ := cs
    match l, hlen with
    | [a, b, c, d, e], _ =>
      match xs, hl with
      | [x0, x1, x2, x3, x4], _ =>
        have e3 := (DataW.agg.inj (Prod.mk.inj ex).1)
        simp only [List.map_cons, List.map_nil, List.cons.injEq, and_true] at e3
        have k0 := hel 0 (by omega); have k1 := hel 1 (by omega); have k2 := hel 2 (by omega); have k3 := hel 3 (by omega); have k4 := hel 4 (by omega)
        rw [c5] at k0 k1 k2 k3 k4
        obtain ⟨z0, a0, b0, _⟩ := DataW.trod_int Tryd.underlying3 k0
        obtain ⟨z1, a1, b1, _⟩ := DataW.trod_int Tryd.underlying3 k1
        obtain ⟨z2, a2, b2, _⟩ := DataW.trod_int Tryd.underlying3 k2
        obtain ⟨z3, a3, b3, _⟩ := DataW.trod_int Tryd.underlying3 k3
        obtain ⟨z4, a4, b4, _⟩ := DataW.trod_int Tryd.underlying3 k4
        simp_all
        omega
  subst key
  intro k hk
  rw [World.var?_cell hg hv k]
  have : k = 0 ∨ k = 1 ∨ k = 2 ∨ k = 3 ∨ k = 4 := by omega
  rcases this with e | e | e | e | e <;> subst e <;> rfl

/-- A slice of ints that is read as an argument. -/
theorem open_sl {H : Type} {enc : TypeId × Value → H} {W : World} {base b0 : Nat} {v : Value} {d : DataW H} {p : List MemPlace} {sp : Nat → Bool} {hd : Bool} (hval : Value.okWide Tryd.prog W .any base 22 v)
    (h : DataW.Trod enc Tryd.prog W b0 sp hd 22 v d p) : ∃ l, Sl (fun _ => False) 1 (En encI) W v l := by
  obtain ⟨a, len, cap, rfl⟩ := okWide_slice Tryd.underlying22 hval
  obtain ⟨n, h⟩ := h
  rcases Go.ChangeShapes.open_ints Tryd.underlying22 Tryd.underlying3 (by kernel_rfl) h with ⟨hcs, _⟩ | ⟨a, len', cap', zs, hcs, hb, hl, hm, hz, _, hcell, _⟩
  · cases hcs
    exact ⟨[], Sl.nil _ _ _ _ _ _⟩
  · cases hcs
    have hzl : len ≤ zs.length := by rw [hz]; split <;> omega
    refine ⟨zs.take len, some a, cap, by rw [List.length_take, Nat.min_eq_left hzl], by rw [List.length_take]; omega, fun i x hx => ?_⟩
    have hi := (List.getElem?_eq_some_iff.1 hx).1
    rw [List.length_take] at hi
    have hc := hcell i (by omega)
    have h0 := hcell 0 (by omega)
    obtain ⟨b, o, spot⟩ := a
    have hspot : spot = none := by simpa [Addr.add] using World.cell?_spot h0
    subst hspot
    refine ⟨b, o, encI x, rfl, id, rfl, fun j u hu => ?_, rfl⟩
    have hj : j = 0 := by have := (List.getElem?_eq_some_iff.1 hu).1; simp [encI] at this; omega
    subst hj
    simp only [encI, List.getElem?_cons_zero, Option.some.injEq] at hu
    subst hu
    rw [add_lit] at hc
    rw [Nat.mul_one, Nat.add_zero, hc]
    have : zs.getD i 0 = x := by
      rw [List.getElem?_take] at hx
      split at hx
      · rw [List.getD_eq_getElem?_getD, hx]; rfl
      · cases hx
    rw [this]

theorem open_str {W : World} {base : Nat} {v : Value} (hval : Value.okWide Tryd.prog W .any base 9 v) : ∃ l, v = str l := by
  obtain ⟨s, rfl⟩ := okWide_string Tryd.underlying9 hval
  exact ⟨s.data.toList, by simp [str]⟩
end Go.Proofs.YtonedboaomehaaaDoor
