import Derived.Test.YtimjpijbcnjaaaaDoorRowV
import Derived.Test.YtimjpijbcnjaaaaDoorOp5
namespace Go.Vc
open Go.RowKit
theorem open_sliceD {H : Type} {enc : TypeId × Value → H} {P : Program} {W : World} {base : Nat} {sp : Nat → Bool} {held : Bool} {α : Type} {t e : TypeId} {k : Nat} {R : List Value → α → Prop} {D : DataW H → α → Prop} (ht : P.underlying t = some (.slice e)) (hc : P.cellsOf e = k) (hk : 0 < k)
    {fuel : Nat} {cs : List Value} {ds rs : List (DataW H)} {q : List MemPlace} (h : DataW.trod enc P W base sp held fuel t cs = some (.slice ds rs, q)) (hel : ∀ n cs y, cs.length = k → DataW.trod enc P W base sp held n e cs = some y → ∃ x, R cs x ∧ D y.1 x) :
    ∃ v l, cs = [v] ∧ Sl (fun _ => False) k R W v l ∧ l.length = ds.length ∧ ∀ (i : Nat) (d : DataW H) (y : α), ds[i]? = some d → l[i]? = some y → D d y := by
  rcases DataW.trod_slice ht h with ⟨rfl, hx⟩ | ⟨a, len, cap, elems, rest, n, _, rfl, hx, _, hlc, _, hlen, he, _⟩
  · simp at hx
  · obtain ⟨l, hl, hp⟩ := exists_list (fun i (x : α) => (∃ ci : List Value, ci.length = k ∧ (∀ j u, ci[j]? = some u → W.cell? ((a.add (i * k)).add j) = some u) ∧ R ci x) ∧ ∀ y, elems[i]? = some y → D y.1 x) len (fun i hi => by
      have hE := he i hi
      rw [hc] at hE
      have hs : elems[i]? = some elems[i] := List.getElem?_eq_getElem (by omega)
      rw [hs] at hE
      obtain ⟨ci, h1, h2⟩ := Option.bind_eq_some_iff.1 hE
      obtain ⟨h3, h4⟩ := cells_open h1
      obtain ⟨x, hx, hd⟩ := hel n ci _ h3 h2
      exact ⟨x, ⟨ci, h3, h4, hx⟩, fun y hy => by rw [hs] at hy; cases hy; exact hd⟩)
    have hds : ds = elems.map (·.1) := by
      have := (Prod.mk.inj hx).1
      injection this
    refine ⟨_, l, rfl, ⟨some a, cap, by rw [hl], by omega, fun i x hx => ?_⟩, by rw [hds, List.length_map]; omega, fun i d y hd hy => ?_⟩
    · obtain ⟨⟨ci, h1, h2, h3⟩, _⟩ := hp i x hx
      have hi0 := (List.getElem?_eq_some_iff.1 hx).1
      obtain ⟨⟨c0, g1, g2, _⟩, _⟩ := hp 0 l[0] (List.getElem?_eq_getElem (by omega))
      have h0 := g2 0 c0[0] (List.getElem?_eq_getElem (by omega))
      obtain ⟨b, o, spot⟩ := a
      have hsp : spot = none := by
        have := World.cell?_spot h0
        rw [Nat.zero_mul] at this
        simpa [Addr.add] using this
      subst hsp
      exact ⟨b, o, ci, rfl, id, h1, fun j u hu => by have := h2 j u hu; rwa [add_lit, add_lit] at this, h3⟩
    · rw [hds, List.getElem?_map] at hd
      cases hj : elems[i]? with
      | none => rw [hj] at hd; cases hd
      | some e =>
        rw [hj] at hd
        simp only [Option.map_some, Option.some.injEq] at hd
        subst hd
        exact (hp i y hy).2 e hj
end Go.Vc
namespace Go.Proofs.YtimjpijbcnjaaaaDoor
open Go.ChangeShapes Go.WideShapes Go.ChangeAt Go.Deep Go.RowKit Go.Vc Cae
set_option maxRecDepth 100000
set_option linter.unusedVariables false
section
variable {H : Type} {enc : TypeId × Value → H} {W : World} {base : Nat} {sp : Nat → Bool} {held : Bool}
theorem open_instD {n : Nat} {cs : List Value} {y : DataW H × List MemPlace} (h : DataW.trod enc Tryd.prog W base sp held n 37 cs = some y) : ∃ r : I3, cs = encIn r ∧ y.1 = .agg [.lit (.int .i64 r.op), .lit (.int .i64 r.a), .lit (.int .i64 r.b)] := by
  obtain ⟨y0, y1, y2, m, hy, hl, h0, h1, h2⟩ := trod_struct3 Tryd.underlying37 h
  rw [show Tryd.prog.cellsOf 37 = 3 by kernel_rfl] at hl
  match cs, hl with
  | [a, b, c], _ =>
    have h0' : DataW.trod enc Tryd.prog W base sp held m 3 (List.take (Tryd.prog.cellsOf 3) [a, b, c]) = some y0 := h0
    have h1' : DataW.trod enc Tryd.prog W base sp held m 3 (List.take (Tryd.prog.cellsOf 3) [b, c]) = some y1 := h1
    have h2' : DataW.trod enc Tryd.prog W base sp held m 3 (List.take (Tryd.prog.cellsOf 3) [c]) = some y2 := h2
    rw [c_int] at h0' h1' h2'
    obtain ⟨z0, e0, q0, _⟩ := DataW.trod_int Tryd.underlying3 h0'
    obtain ⟨z1, e1, q1, _⟩ := DataW.trod_int Tryd.underlying3 h1'
    obtain ⟨z2, e2, q2, _⟩ := DataW.trod_int Tryd.underlying3 h2'
    simp at e0 e1 e2
    subst e0 e1 e2 q0 q1 q2
    exact ⟨⟨z0, z1, z2⟩, rfl, by rw [hy]⟩
end

theorem neverVar_of {W : World} {l : List (String × DataW Unit)} (hl : (l.filter fun x => x.1 == "caesura/opt.never") = [("caesura/opt.never", Rows.laid_caesura_opt_never)]) (h : laidMetH Tryd.prog l W) : NeverVar W := by
  have h := h.filter (fun x => x.1 == "caesura/opt.never")
  rw [hl, MakeChecks.laidMetH_plain _ _ _ (by kernel_rfl)] at h
  obtain ⟨ps, ⟨g, t, cs, fuel, p, q, hg, ht, hv, hd, _, _⟩, _, _⟩ := h
  obtain rfl := Option.some.inj ((show Tryd.prog.globalNamed "caesura/opt.never" = some 0 by kernel_rfl).symm.trans hg)
  obtain rfl := Option.some.inj ((show (Tryd.prog.globals[0]?).map (·.type) = some 25 by kernel_rfl).symm.trans ht)
  obtain ⟨y0, y1, m, hy, hlen, h0, h1⟩ := trod_struct2 Tryd.underlying25 hd
  rw [show Tryd.prog.cellsOf 25 = 2 by kernel_rfl] at hlen
  obtain ⟨lc⟩ := cs
  match lc, hlen with
  | [a, b], _ =>
    have h1' : DataW.trod _ Tryd.prog W _ _ _ m 23 (List.take (Tryd.prog.cellsOf 23) [b]) = some y1 := h1
    rw [show Tryd.prog.cellsOf 23 = 1 by kernel_rfl] at h1'
    have hy1 := (List.cons.inj (List.cons.inj (DataW.agg.inj (Prod.mk.inj hy).1)).2).1
    obtain ⟨d1, q1⟩ := y1
    have hy1 : DataW.slice [.agg [.lit (.int .i64 1), .lit (.int .i64 0), .lit (.int .i64 0)], .agg [.lit (.int .i64 5), .lit (.int .i64 0), .lit (.int .i64 0)]] [] = d1 := hy1
    subst hy1
    obtain ⟨v, ins, e1, hi, hil, hD⟩ := open_sliceD (k := 3) (R := En encIn) (D := fun d (r : I3) => d = .agg [.lit (.int .i64 r.op), .lit (.int .i64 r.a), .lit (.int .i64 r.b)]) Tryd.underlying23 (by kernel_rfl) (by omega) h1' fun n cs y _ hh => open_instD hh
    simp only [List.take_succ_cons, List.take_zero, List.cons.injEq, and_true] at e1
    subst e1
    have hins : ins = [⟨1, 0, 0⟩, ⟨5, 0, 0⟩] := by
      match ins, hil with
      | [⟨o, x, y⟩, ⟨o', x', y'⟩], _ =>
        have k0 := hD 0 _ _ rfl rfl
        have k1 := hD 1 _ _ rfl rfl
        simp at k0 k1
        obtain ⟨rfl, rfl, rfl⟩ := k0
        obtain ⟨rfl, rfl, rfl⟩ := k1
        rfl
    subst hins
    obtain ⟨av, cv, rfl, _⟩ := hi.shape
    exact ⟨av, cv, by simpa using World.var?_cell hg hv 1, hi⟩
end Go.Proofs.YtimjpijbcnjaaaaDoor
