/- For every input 'VmMoved' returns true, and its arguments read afterwards as they read before. No condition. -/
import Derived.Test.YtnfmbobpagamhaaMovedx
import Derived.Test.YtnfmbobpagamhaaOpenC
import Derived.Test.YtnfmbobpagamhaaRows
import Derived.WalkKit
import Derived.ProofKit
import Derived.Handy
import Derived.Lay
import Derived.OpenShut
import Derived.LaidMore
import Derived.Carry
namespace Go.Proofs.Ytnfmbobpagamhaa
open Go.ChangeShapes Go.WideShapes Go.ChangeAt Go.RowKit Go.Vc Cae
set_option maxRecDepth 100000
set_option linter.unusedSimpArgs false
set_option linter.unusedVariables false

theorem own : ownKnob Try.prog.godebug = none := by kernel_rfl
theorem laidOut : laidOutB Try.prog = true := by kernel_rfl

theorem lifted (os : Os) (started : os.Started) (H : Type) (enc : TypeId × Value → H) :
    ReturnsInHanded {} Try.checked os 3 .any (Rows.vmMovedSpec.pre6 enc Try.prog Try.f3 [] false)
      (Rows.vmMovedSpec.post enc Try.prog Try.f3 false true false false) := by
  refine returnsInHanded_of_change (C := Try.checked) own started (by kernel_rfl) Try.func3
    (ChangeSpec.witness6 (enc := enc) (C := Try.checked) (os := os) false ⟨#[], #[.agg #[.slice none 0 0, .slice none 0 0], .slice none 0 0, .int .i64 0], []⟩ 8 (by kernel_rfl) (by kernel_rfl) (by kernel_rfl) (by kernel_rfl)) ?_
  intro W base args ds gs before hval0 hW _ _
  have hval : ∀ (j : Nat) t v, Try.f3.params[j]? = some t → args[j]? = some v → Value.okWide Try.prog W .any base t v := hval0
  have hlt := hW.lt
  have hW' := hW
  obtain ⟨p, q, hA0, hV, rfl, _, _⟩ := hW
  have hA : DataW.TrodAll enc Try.prog W 0 (fun _ => true) true Try.f3.params.toList args.toList ds p := hA0
  rw [Try.params3] at hA hval
  obtain ⟨v0, v1, v2, d0, d1, d2, p0, p1, p2, rfl, rfl, rfl, h0, h1, h2⟩ := trodAll_three hA
  obtain ⟨rfl, rfl⟩ := trodVars_none hV
  simp only [List.append_nil] at hW' hlt
  have hc : ∃ c, CodeV (fun _ => False) W v0 c := by
    obtain ⟨n, h⟩ := h0
    obtain ⟨sv, iv, c, hcs, hs, hi⟩ := open_code h
    obtain ⟨cs, hv, hcs'⟩ := cells_agg (v := v0) (n := 2) (by omega) (by rw [hcs]; rfl)
    rw [hcs] at hcs'
    subst hcs'
    exact ⟨c, sv, iv, hv, hs, hi⟩
  obtain ⟨c, hc⟩ := hc
  have hp : ∃ ps, Sl (fun _ => False) 1 (En encI) W v1 ps := by
    obtain ⟨n, h⟩ := h1
    obtain ⟨v, ps, hcs, hs⟩ := open_ints h
    obtain ⟨a, len, cap, rfl⟩ := okWide_slice Try.underlying26 (hval 1 26 v1 rfl rfl)
    have : v = .slice a len cap := by simpa [Value.cells] using hcs.symm
    exact ⟨ps, this ▸ hs⟩
  obtain ⟨ps, hp⟩ := hp
  obtain ⟨by_, rfl, rfl, rfl, _⟩ := ChangeShapes.open_int Try.underlying3 (hval 2 3 v2 rfl rfl) h2
  have hwalk := moved_c c ps by_ _ _ v0 v1 W hc hp
  refine hwalk.2.mono fun e W' ⟨v, he, hv, hb⟩ => ?_
  subst he; subst hv
  have st : ∀ {t v d ps} (hl : Try.prog.readableRec t = true) (hrow : t < Try.prog.types.size) (h : DataW.Trod enc Try.prog W 0 (fun _ => true) true t v d ps) (hlt : ∀ x ∈ ps, x.block < W.heap.size), DataW.Trod enc Try.prog W' 0 (fun b => decide (b < W.heap.size)) true t v d ps :=
    fun hl hrow h hlt => Below.trod laidOut hl hrow h hb hlt
  exact ⟨_, rfl, _, _, _, [], p0 ++ (p1 ++ []), [], hW', trodAll_mk1 (shut_bool Try.underlying4 _), trodAll_mk3 (st (by kernel_rfl) (of_decide_eq_true (by kernel_rfl)) h0 (fun x hx => hlt x (by simp [hx]))) (st (by kernel_rfl) (of_decide_eq_true (by kernel_rfl)) h1 (fun x hx => hlt x (by simp [hx]))) (st (by kernel_rfl) (of_decide_eq_true (by kernel_rfl)) h2 (fun x hx => absurd hx (by simp))), rfl, hb.frame _, fun h => by cases h⟩

theorem vmMoved_holds : Rows.VmMovedSaid :=
  OpenClaim.holds_of_wide 3 Try.f3 rfl rfl rfl rfl rfl rfl rfl ⟨rfl, rfl, rfl, rfl, rfl⟩ rfl rfl rfl rfl rfl (by kernel_rfl) Try.func3 (by kernel_rfl)
    (of_decide_eq_true (by kernel_rfl)) (by unfold Func.isWrapper; first | (rw [if_pos (by decide +kernel)]; kernel_rfl) | (rw [if_neg (by decide +kernel)]; exact ⟨rfl, rfl⟩))
    (fun os started H enc _ => lifted os started H enc)
#print axioms vmMoved_holds
end Go.Proofs.Ytnfmbobpagamhaa
