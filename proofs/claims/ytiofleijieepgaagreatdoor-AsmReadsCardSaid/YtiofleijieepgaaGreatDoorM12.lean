/- For every input 'AsmReads' returns true, and its arguments read afterwards as they read before. No condition but the row's own: the variables that it lists are as the program lays them (the table of trailing zeros, the powers of ten, the names of operations, the two errors of package strconv, the type error's handle, the tables of white space and the fault that is none are read); the library's bound MaxLen holds whatever number it holds. -/
import Derived.Test.YtiofleijieepgaaGreatDoorM7
import Derived.Test.YtiofleijieepgaaGreatDoorM11
import Derived.Test.YtiofleijieepgaaGreatDoorCards
section
namespace Go.Proofs.YtiofleijieepgaaGreatDoor
open Go.Deep Go.ChangeShapes Go.WideShapes Go.ChangeAt Go.RowKit Go.Vc Cae
set_option maxRecDepth 100000
set_option linter.unusedVariables false

def laidB : List (String × DataW Unit) := [("math/bits.deBruijn32tab", Rows.laid_math_bits_deBruijn32tab), ("math/bits.deBruijn64tab", Rows.laid_math_bits_deBruijn64tab), ("internal/strconv.uint64pow10", Rows.laid_internal_strconv_uint64pow10), ("unicode/utf8.acceptRanges", Rows.laid_unicode_utf8_acceptRanges), ("errors.errorType", Rows.laid_errors_errorType), ("strconv.ErrRange", Rows.laid_strconv_ErrRange), ("strconv.ErrSyntax", Rows.laid_strconv_ErrSyntax), ("unicode.White_Space", Rows.laid_unicode_White_Space), ("strings.asciiSpace", Rows.laid_strings_asciiSpace), ("caesura/caesuraref.Fine", Rows.laid_caesura_caesuraref_Fine), ("caesura/asm.names", Rows.laid_caesura_asm_names), ("unicode/utf8.first", Rows.laid_unicode_utf8_first)]

/-- The witness's world: the table that is pinned lies in its variable. -/
noncomputable def wit (os : Os) : World :=
  { World.doorLaid Tryz.prog 105 os with heap := (World.doorLaid Tryz.prog 105 os).heap.modify 8 fun o => match o with
    | .cells _ t x => .cells (Go.Pinned.utf8FirstZ.map fun (n : Nat) => Value.int .u8 (n : Int)).toArray t x
    | o => o }
theorem vs_of {W : World} {l : List (String × DataW Unit)} (h1 : (l.filter fun x => x.1 == "math/bits.deBruijn64tab") = [("math/bits.deBruijn64tab", Rows.laid_math_bits_deBruijn64tab)]) (h2 : (l.filter fun x => x.1 == "strconv.ErrSyntax") = [("strconv.ErrSyntax", Rows.laid_strconv_ErrSyntax)]) (h3 : (l.filter fun x => x.1 == "strconv.ErrRange") = [("strconv.ErrRange", Rows.laid_strconv_ErrRange)])
    (h4 : (l.filter fun x => x.1 == "internal/strconv.uint64pow10") = [("internal/strconv.uint64pow10", Rows.laid_internal_strconv_uint64pow10)]) (h5 : (l.filter fun x => x.1 == "caesura/asm.names") = [("caesura/asm.names", Rows.laid_caesura_asm_names)]) (h : laidMetH Tryz.prog l W) (hs : W.ShapedOpen Tryz.prog) : Vs W :=
  ⟨db_of h1 h, errs_of h2 h3 h, pw_of h4 h, nms_of h5 h, mx_of hs⟩

theorem lifted (os : Os) (started : os.Started) (H : Type) (enc : TypeId × Value → H) :
    ReturnsInHanded {} Tryz.checked os 5 .any (fun w args => (Rows.asmReadsSpec.pre enc Tryz.prog Tryz.f5 [] false w args ∧ laidMetH Tryz.prog laidB w) ∧ sizedMet enc Tryz.prog Tryz.f5 (OpenSpec.ofChange Rows.asmReadsSpec) false w args)
      (Rows.asmReadsSpec.post enc Tryz.prog Tryz.f5 false true false false) := by
  refine handed_and (C := Tryz.checked) (X := fun w _ => laidMetH Tryz.prog laidB w) (fun _ _ _ hh h => h.of_heap hh) own started (by kernel_rfl) Tryz.func5
    (ChangeSpec.witness_shaped (enc := enc) (C := Tryz.checked) (os := os) (X := fun w _ => laidMetH Tryz.prog laidB w) false (wit os) #[.agg #[.slice none 0 0, .bool false], .string ⟨#[]⟩] 8 rfl
      (World.shaped_of_ZipB (by kernel_rfl) (by kernel_rfl)) (by kernel_rfl) (by kernel_rfl) (by kernel_rfl)
      (laidMetH_of_parts (laidMet_one 8 256 (by kernel_rfl)) (by kernel_rfl))) ?_
  intro W base args ds gs before hval0 hW _ hL hsh
  have hval : ∀ (j : Nat) t v, Tryz.f5.params[j]? = some t → args[j]? = some v → Value.okWide Tryz.prog W .any base t v := hval0
  have hlt := hW.lt
  have hW' := hW
  obtain ⟨p, q, hA0, hV, rfl, _, _⟩ := hW
  have hA : DataW.TrodAll enc Tryz.prog W 0 (fun _ => true) true Tryz.f5.params.toList args.toList ds p := hA0
  rw [Tryz.params5] at hA hval
  obtain ⟨v0, v1, d0, d1, p0, p1, rfl, rfl, rfl, h0, h1⟩ := trodAll_two hA
  obtain ⟨rfl, rfl⟩ := trodVars_none hV
  have hc : ∃ c, ProgV (fun _ => False) W v0 c := by
    obtain ⟨n, h⟩ := h0
    exact open_prog h
  obtain ⟨c, hc⟩ := hc
  obtain ⟨s1, rfl⟩ := okWide_string Tryz.underlying9 (hval 1 9 v1 rfl rfl)
  simp only [List.append_nil] at hW' hlt
  have hvs := vs_of (by kernel_rfl) (by kernel_rfl) (by kernel_rfl) (by kernel_rfl) (by kernel_rfl) hL hsh
  have hwalk := asmReads_c c s1.data.toList v0 W hvs (tv_of (by kernel_rfl) (by kernel_rfl) hL hsh) (errVar_of (by kernel_rfl) hL) (fine_of (by kernel_rfl) hL) (ng_of hsh) hc
  refine hwalk.2.mono fun e W' ⟨v, he, hv, hb⟩ => ?_
  subst he; subst hv
  have st : ∀ {t v d ps} (hl : Tryz.prog.readableRec t = true) (hrow : t < Tryz.prog.types.size) (h : DataW.Trod enc Tryz.prog W 0 (fun _ => true) true t v d ps) (hlt : ∀ x ∈ ps, x.block < W.heap.size), DataW.Trod enc Tryz.prog W' 0 (fun b => decide (b < W.heap.size)) true t v d ps :=
    fun hl hrow h hlt => Below.trod laidOut hl hrow h hb hlt
  exact ⟨_, rfl, _, _, _, [], p0 ++ p1, [], hW', trodAll_mk1 (shut_bool Tryz.underlying4 _), trodAll_mk2 (st (by kernel_rfl) (of_decide_eq_true (by kernel_rfl)) h0 (fun x hx => hlt x (by simp [hx]))) (st (by kernel_rfl) (of_decide_eq_true (by kernel_rfl)) h1 (fun x hx => hlt x (by simp [hx]))), rfl, hb.frame _, fun h => by cases h⟩

theorem asmReads_holds : Rows.AsmReadsSaid :=
  OpenClaim.holds_of_wide 5 Tryz.f5 rfl rfl rfl rfl rfl rfl rfl ⟨rfl, rfl, rfl, rfl, rfl⟩ rfl rfl rfl rfl rfl (by kernel_rfl) Tryz.func5 (by kernel_rfl)
    (of_decide_eq_true (by kernel_rfl)) (by unfold Func.isWrapper; first | (rw [if_pos (by decide +kernel)]; kernel_rfl) | (rw [if_neg (by decide +kernel)]; exact ⟨rfl, rfl⟩))
    (fun os started H enc _ => lifted os started H enc)

theorem asmReads_card : Rows.AsmReadsCardSaid :=
  Claim7.holds_tied_plain_at .later [] [.data, .data, .data, .data, .handle, .sentinel, .sentinel, .listed, .data, .data, .widerDeep, .pinned] true (true, "9cd61d8c0c761a96f97d806c1c7aab089a8a22cef5738d8b16e7f6382cb11386") true asmReads_holds (fun _ h => by cases h) (by kernel_rfl) (fun _ h => by cases h) asmReads_row_tie rfl ⟨rfl, rfl⟩ (by kernel_rfl) rfl
    (fun f fn hf hfn => by
      obtain rfl : f = 5 := Option.some.inj ((show Tryz.prog.funcNamed "caesura/caesuralaw.AsmReads" = some 5 by kernel_rfl).symm.trans hf) |>.symm
      obtain rfl : fn = Tryz.f5 := (Option.some.inj (Tryz.func5.symm.trans hfn)).symm
      exact ⟨by kernel_rfl, fun j t ht => by
        rw [Tryz.params5] at ht
        have hm : t ∈ [24, 9] := by simpa using Array.mem_of_getElem? ht
        have hall : ([24, 9].all fun u => !Tryz.prog.wantsStandIn u) = true := by kernel_rfl
        exact (show Tryz.prog.wantsStandIn t = false by simpa using List.all_eq_true.1 hall t hm)⟩)
    (by kernel_rfl)
#print axioms asmReads_card
end Go.Proofs.YtiofleijieepgaaGreatDoor
end
