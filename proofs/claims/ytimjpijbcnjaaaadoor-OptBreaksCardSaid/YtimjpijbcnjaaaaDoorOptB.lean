/- For every input 'OptBreaks' returns true, and its arguments read afterwards as they read before. No condition but the row's own: the variables 'errors.errorType' and 'opt.never' are as the program lays them. -/
import Derived.Test.YtimjpijbcnjaaaaDoorRowV
import Derived.Test.YtimjpijbcnjaaaaDoorPr3
import Derived.Test.YtimjpijbcnjaaaaDoorNev
import Derived.Test.YtimjpijbcnjaaaaDoorImgO
import Derived.Test.YtimjpijbcnjaaaaDoorCards
namespace Go.Proofs.YtimjpijbcnjaaaaDoor
open Go.Deep Go.ChangeShapes Go.WideShapes Go.ChangeAt Go.RowKit Go.Vc Cae
set_option maxRecDepth 100000
set_option linter.unusedVariables false

def laidO : List (String × DataW Unit) := [("errors.errorType", Rows.laid_errors_errorType), ("caesura/opt.never", Rows.laid_caesura_opt_never)]

theorem prog_arg {H : Type} {enc : TypeId × Value → H} {W : World} {base : Nat} {sp : Nat → Bool} {held : Bool} {n : Nat} {v : Value} {y : DataW H × List MemPlace} (h : DataW.trod enc Tryd.prog W base sp held n 43 v.cells.toList = some y) : ∀ sv e, v = .agg #[sv, e] → Arg sv := by
  rintro sv e rfl
  obtain ⟨y0, y1, m, _, hl, h0, h1⟩ := trod_struct2 Tryd.underlying43 h
  have h0' : DataW.trod enc Tryd.prog W base sp held m 41 (List.take (Tryd.prog.cellsOf 41) [sv, e]) = some y0 := h0
  rw [show Tryd.prog.cellsOf 41 = 1 by kernel_rfl] at h0'
  intro n c hs
  subst hs
  rcases DataW.trod_slice Tryd.underlying41 h0' with ⟨hcs, _⟩ | ⟨a, len, cap, elems, rest, n', _, hcs, _⟩
  · simp at hcs
    exact hcs
  · simp at hcs

theorem lifted (os : Os) (started : os.Started) (H : Type) (enc : TypeId × Value → H) :
    ReturnsInHanded {} Tryd.checked os 6 .any (fun w args => (Rows.optBreaksSpec.pre enc Tryd.prog Tryd.f6 [] false w args ∧ laidMetH Tryd.prog laidO w) ∧ sizedMet enc Tryd.prog Tryd.f6 (OpenSpec.ofChange Rows.optBreaksSpec) false w args)
      (Rows.optBreaksSpec.post enc Tryd.prog Tryd.f6 false true false false) := by
  refine returnsInHanded_of_change_and (C := Tryd.checked) (X := fun w _ => laidMetH Tryd.prog laidO w) (fun _ _ _ hh h => h.of_heap hh) own started (by kernel_rfl) Tryd.func6
    (ChangeSpec.witness_shaped (enc := enc) (C := Tryd.checked) (os := os) (X := fun w _ => laidMetH Tryd.prog laidO w) false (World.doorLaid Tryd.prog 25 os) #[.agg #[.slice none 0 0, .bool false], .slice none 0 0] 8 rfl
      (World.shaped_of_ZipB (by kernel_rfl) (by kernel_rfl)) (by kernel_rfl) (by kernel_rfl) (by kernel_rfl)
      (laidMetH_of_parts (laidMet_of_run' 8 (by kernel_rfl) (by kernel_rfl)) (by kernel_rfl))) ?_
  intro W base args ds gs before hval0 hW _ _ hL _
  have hval : ∀ (j : Nat) t v, Tryd.f6.params[j]? = some t → args[j]? = some v → Value.okWide Tryd.prog W .any base t v := hval0
  have hlt := hW.lt
  have hW' := hW
  obtain ⟨p, q, hA0, hV, rfl, _, _⟩ := hW
  have hA : DataW.TrodAll enc Tryd.prog W 0 (fun _ => true) true Tryd.f6.params.toList args.toList ds p := hA0
  rw [Tryd.params6] at hA hval
  obtain ⟨v0, v1, d0, d1, p0, p1, rfl, rfl, rfl, h0, h1⟩ := trodAll_two hA
  obtain ⟨rfl, rfl⟩ := trodVars_none hV
  have hc : ∃ c, ProgV (fun _ => False) W v0 c := by
    obtain ⟨n, h⟩ := h0
    exact open_prog h
  obtain ⟨c, hc⟩ := hc
  have har : ∀ sv e, v0 = .agg #[sv, e] → Arg sv := by
    obtain ⟨n, h⟩ := h0
    exact prog_arg h
  obtain ⟨l, hl, hal⟩ := arg_ints (hval 1 26 v1 rfl rfl) h1
  simp only [List.append_nil] at hW' hlt
  have hwalk := optBreaks_c c l v0 v1 W (errVar_of (by kernel_rfl) hL) (neverVar_of (by kernel_rfl) hL) hc hl hal har
  refine hwalk.2.mono fun e W' ⟨v, he, hv, hb⟩ => ?_
  subst he; subst hv
  have st : ∀ {t v d ps} (hl : Tryd.prog.readableRec t = true) (hrow : t < Tryd.prog.types.size) (h : DataW.Trod enc Tryd.prog W 0 (fun _ => true) true t v d ps) (hlt : ∀ x ∈ ps, x.block < W.heap.size), DataW.Trod enc Tryd.prog W' 0 (fun b => decide (b < W.heap.size)) true t v d ps :=
    fun hl hrow h hlt => Below.trod laidOut hl hrow h hb hlt
  exact ⟨_, rfl, _, _, _, [], p0 ++ p1, [], hW', trodAll_mk1 (shut_bool Tryd.underlying4 _), trodAll_mk2 (st (by kernel_rfl) (of_decide_eq_true (by kernel_rfl)) h0 (fun x hx => hlt x (by simp [hx]))) (st (by kernel_rfl) (of_decide_eq_true (by kernel_rfl)) h1 (fun x hx => hlt x (by simp [hx]))), rfl, hb.frame _, fun h => by cases h⟩

theorem optBreaks_holds : Rows.OptBreaksSaid :=
  OpenClaim.holds_of_wide 6 Tryd.f6 rfl rfl rfl rfl rfl rfl rfl ⟨rfl, rfl, rfl, rfl, rfl⟩ rfl rfl rfl rfl rfl (by kernel_rfl) Tryd.func6 (by kernel_rfl)
    (of_decide_eq_true (by kernel_rfl)) (by unfold Func.isWrapper; first | (rw [if_pos (by decide +kernel)]; kernel_rfl) | (rw [if_neg (by decide +kernel)]; exact ⟨rfl, rfl⟩))
    (fun os started H enc _ => lifted os started H enc)

theorem optBreaks_card : Rows.OptBreaksCardSaid :=
  Claim7.holds_tied_plain_at .later [] [.handle, .widerDeep] true (true, "b997f1cdf38f1b991f42191a677c415d22e3a0741b05612338fa4ac781a6d151") true optBreaks_holds (fun _ h => by cases h) (by kernel_rfl) (fun _ h => by cases h) optBreaks_row_tie rfl ⟨rfl, rfl⟩ (by kernel_rfl) rfl
    (fun f fn hf hfn => by
      obtain rfl : f = 6 := Option.some.inj ((show Tryd.prog.funcNamed "caesura/caesurakeep.OptBreaks" = some 6 by kernel_rfl).symm.trans hf) |>.symm
      obtain rfl : fn = Tryd.f6 := (Option.some.inj (Tryd.func6.symm.trans hfn)).symm
      exact ⟨by kernel_rfl, fun j t ht => by
        rw [Tryd.params6] at ht
        have hm : t ∈ [43, 26] := by simpa using Array.mem_of_getElem? ht
        have hall : ([43, 26].all fun u => !Tryd.prog.wantsStandIn u) = true := by kernel_rfl
        exact (show Tryd.prog.wantsStandIn t = false by simpa using List.all_eq_true.1 hall t hm)⟩)
    (by kernel_rfl)
#print axioms optBreaks_card
end Go.Proofs.YtimjpijbcnjaaaaDoor
