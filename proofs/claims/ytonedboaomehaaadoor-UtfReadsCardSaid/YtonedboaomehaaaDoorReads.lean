import Derived.Test.YtonedboaomehaaaDoorRow
import Derived.Test.YtonedboaomehaaaDoorLaw3
import Derived.Test.YtonedboaomehaaaDoorCards
import Derived.LaidHandle
import Derived.LaidSub
import Derived.LaidLaws
namespace Go.Proofs.YtonedboaomehaaaDoor
open Go.ChangeShapes Go.WideShapes Go.ChangeAt Go.RowKit Go.Vc
set_option maxRecDepth 100000
set_option linter.unusedVariables false

def laidReads : List (String × DataW Unit) := [("errors.errorType", Rows.laid_errors_errorType), ("caesura/utf.least", Rows.laid_caesura_utf_least), ("caesura/caesuraref.Fine", Rows.laid_caesura_caesuraref_Fine)]

theorem errVar_of {W : World} (h : laidMetH Tryd.prog laidReads W) : ErrVar W := by
  have h' := (laidMetH_iff.1 h).2
  obtain ⟨name, u, ty, e1, e2, e3, e4, e5⟩ := h' ("errors.errorType", Rows.laid_errors_errorType) (by rw [show (laidReads.filter fun x => x.2.handleName?.isSome) = [("errors.errorType", Rows.laid_errors_errorType)] by kernel_rfl]; exact List.mem_singleton.2 rfl)
  have en : name = [101, 114, 114, 111, 114] := (Option.some.inj e1).symm
  subst en
  obtain rfl := Option.some.inj ((show (Tryd.prog.cutTypes.find? (·.1 == "internal/reflectlite.rtype")).map (·.2) = some 82 by kernel_rfl).symm.trans e2)
  have hm : ty ∈ (List.range Tryd.prog.types.size).filter fun t => Tryd.prog.rowNamed t [101, 114, 114, 111, 114] := List.mem_filter.2 ⟨List.mem_range.2 e3, e4⟩
  rw [show ((List.range Tryd.prog.types.size).filter fun t => Tryd.prog.rowNamed t [101, 114, 114, 111, 114]) = [30] by kernel_rfl] at hm
  obtain rfl := List.mem_singleton.1 hm
  rw [show typeHandle Tryd.prog 30 = .pointer (some ⟨3, 30, none⟩) by kernel_rfl] at e5
  have := World.var?_cell (show Tryd.prog.globalNamed "errors.errorType" = some 2 by kernel_rfl) e5 0
  unfold ErrVar
  simpa using this

theorem fineVar_of {W : World} (h : laidMetH Tryd.prog laidReads W) : FineVar W := by
  have h := h.filter (fun x => x.1 == "caesura/caesuraref.Fine")
  rw [show (laidReads.filter fun x => x.1 == "caesura/caesuraref.Fine") = [("caesura/caesuraref.Fine", Rows.laid_caesura_caesuraref_Fine)] by kernel_rfl, MakeChecks.laidMetH_plain _ _ _ (by kernel_rfl)] at h
  obtain ⟨ps, ⟨g, t, cs, fuel, p, q, hg, ht, hv, hd, _, _⟩, _, _⟩ := h
  obtain rfl := Option.some.inj ((show Tryd.prog.globalNamed "caesura/caesuraref.Fine" = some 0 by kernel_rfl).symm.trans hg)
  obtain rfl := Option.some.inj ((show (Tryd.prog.globals[0]?).map (·.type) = some 42 by kernel_rfl).symm.trans ht)
  obtain ⟨xs, m, _, ex, hlen, hl, hel⟩ := DataW.trod_struct Tryd.underlying42 hd
  rw [show Tryd.prog.cellsOf 42 = 2 by kernel_rfl] at hlen
  have key : cs = #[.int .i64 0, .int .i64 (-1)] := by
    obtain ⟨l⟩ := cs
    match l, hlen with
    | [a, b], _ =>
      match xs, hl with
      | [x0, x1], _ =>
        have e3 := (DataW.agg.inj (Prod.mk.inj ex).1)
        simp only [List.map_cons, List.map_nil, List.cons.injEq, and_true] at e3
        have k0 := hel 0 _ rfl; have k1 := hel 1 _ rfl
        obtain ⟨z0, a0, b0, _⟩ := DataW.trod_int Tryd.underlying40 k0
        obtain ⟨z1, a1, b1, _⟩ := DataW.trod_int Tryd.underlying3 k1
        have c0 : Tryd.prog.cellsOf 40 = 1 := by kernel_rfl
        have c1 : Tryd.prog.cellsOf 3 = 1 := by kernel_rfl
        have a0' : List.take (Tryd.prog.cellsOf 40) [a, b] = [.int .i64 z0] := a0
        have a1' : List.take (Tryd.prog.cellsOf 3) [b] = [.int .i64 z1] := a1
        rw [c0] at a0'
        rw [c1] at a1'
        have n0 : a = .int .i64 z0 := by simpa using a0'
        have n1 : b = .int .i64 z1 := by simpa using a1'
        subst b0 b1
        have e4 : (0 : Int) = z0 ∧ (-1 : Int) = z1 := by simpa using e3
        rw [n0, n1, ← e4.1, ← e4.2]
  subst key
  exact ⟨by simpa using World.var?_cell hg hv 0, by simpa using World.var?_cell hg hv 1⟩

theorem least_of3 {W : World} (h : laidMetH Tryd.prog laidReads W) : Least W := by
  have h := h.filter (fun x => x.1 == "caesura/utf.least")
  exact least_of (by rw [show (laidReads.filter fun x => x.1 == "caesura/utf.least") = laidLeast by kernel_rfl] at h; exact h)

theorem lifted3 (os : Os) (started : os.Started) (H : Type) (enc : TypeId × Value → H) :
    ReturnsInHanded {} Tryd.checked os 5 .any (fun w args => (Rows.utfReadsSpec.pre enc Tryd.prog Tryd.f5 [] false w args ∧ laidMetH Tryd.prog laidReads w) ∧ sizedMet enc Tryd.prog Tryd.f5 (OpenSpec.ofChange Rows.utfReadsSpec) false w args)
      (Rows.utfReadsSpec.post enc Tryd.prog Tryd.f5 false true false false) := by
  refine returnsInHanded_of_change_and (C := Tryd.checked) (X := fun w _ => laidMetH Tryd.prog laidReads w) (fun _ _ _ hh h => h.of_heap hh) own started (by kernel_rfl) Tryd.func5
    (ChangeSpec.witness_shaped (enc := enc) (C := Tryd.checked) (os := os) (X := fun w _ => laidMetH Tryd.prog laidReads w) false (World.doorLaid Tryd.prog 26 os) #[.string ⟨#[]⟩, .slice none 0 0] 8 rfl
      (World.shaped_of_ZipB (by kernel_rfl) (by kernel_rfl)) (by kernel_rfl) (by kernel_rfl) (by kernel_rfl)
      (laidMetH_of_parts (laidMet_of_run' 8 (by kernel_rfl) (by kernel_rfl)) (by kernel_rfl))) ?_
  intro W base args ds gs before hval0 hW _ _ hL _
  have hval : ∀ (j : Nat) t v, Tryd.f5.params[j]? = some t → args[j]? = some v → Value.okWide Tryd.prog W .any base t v := hval0
  have hlt := hW.lt
  have hW' := hW
  obtain ⟨p, q, hA0, hV, rfl, _, _⟩ := hW
  have hA : DataW.TrodAll enc Tryd.prog W 0 (fun _ => true) true Tryd.f5.params.toList args.toList ds p := hA0
  rw [Tryd.params5] at hA hval
  obtain ⟨v0, v1, d0, d1, p0, p1, rfl, rfl, rfl, h0, h1⟩ := trodAll_two hA
  obtain ⟨rfl, rfl⟩ := trodVars_none hV
  obtain ⟨s, rfl⟩ := open_str (hval 0 9 v0 rfl rfl)
  obtain ⟨l, hl⟩ := open_sl (hval 1 22 v1 rfl rfl) h1
  simp only [List.append_nil] at hW' hlt
  have hwalk := reads_c s l _ v1 W (least_of3 hL) (fineVar_of hL) (errVar_of hL) hl
  refine hwalk.2.mono fun e W' ⟨v, he, hv, hb⟩ => ?_
  subst he; subst hv
  have st : ∀ {t v d ps} (hl : Tryd.prog.readableRec t = true) (hrow : t < Tryd.prog.types.size) (h : DataW.Trod enc Tryd.prog W 0 (fun _ => true) true t v d ps) (hlt : ∀ x ∈ ps, x.block < W.heap.size), DataW.Trod enc Tryd.prog W' 0 (fun b => decide (b < W.heap.size)) true t v d ps :=
    fun hl hrow h hlt => Below.trod laidOut hl hrow h hb hlt
  exact ⟨_, rfl, _, _, _, [], p0 ++ p1, [], hW', trodAll_mk1 (shut_bool Tryd.underlying4 _), trodAll_mk2 (st (by kernel_rfl) (of_decide_eq_true (by kernel_rfl)) h0 (fun x hx => hlt x (by simp [hx]))) (st (by kernel_rfl) (of_decide_eq_true (by kernel_rfl)) h1 (fun x hx => hlt x (by simp [hx]))), rfl, hb.frame _, fun h => by cases h⟩

theorem utfReads_holds : Rows.UtfReadsSaid :=
  OpenClaim.holds_of_wide 5 Tryd.f5 rfl rfl rfl rfl rfl rfl rfl ⟨rfl, rfl, rfl, rfl, rfl⟩ rfl rfl rfl rfl rfl (by kernel_rfl) Tryd.func5 (by kernel_rfl)
    (of_decide_eq_true (by kernel_rfl)) (by unfold Func.isWrapper; first | (rw [if_pos (by decide +kernel)]; kernel_rfl) | (rw [if_neg (by decide +kernel)]; exact ⟨rfl, rfl⟩))
    (fun os started H enc _ => lifted3 os started H enc)

theorem utfReads_card : Rows.UtfReadsCardSaid :=
  Claim7.holds_tied_plain_at .later [] [.handle, .data, .data] true (true, "10fa899275d9cacff1d40335512882a647e14c4143b6a416ebda742cc52484f9") true utfReads_holds (fun _ h => by cases h) (by kernel_rfl) (fun _ h => by cases h) utfReads_row_tie rfl ⟨rfl, rfl⟩ (by kernel_rfl) rfl
    (fun f fn hf hfn => by
      obtain rfl : f = 5 := Option.some.inj ((show Tryd.prog.funcNamed "caesura/caesuralaw.UtfReads" = some 5 by kernel_rfl).symm.trans hf) |>.symm
      obtain rfl : fn = Tryd.f5 := (Option.some.inj (Tryd.func5.symm.trans hfn)).symm
      exact ⟨by kernel_rfl, fun j t ht => by
        rw [Tryd.params5] at ht
        have hm : t ∈ [9, 22] := by simpa using Array.mem_of_getElem? ht
        have hall : ([9, 22].all fun u => !Tryd.prog.wantsStandIn u) = true := by kernel_rfl
        exact (show Tryd.prog.wantsStandIn t = false by simpa using List.all_eq_true.1 hall t hm)⟩)
    (by kernel_rfl)
#print axioms utfReads_card
end Go.Proofs.YtonedboaomehaaaDoor
