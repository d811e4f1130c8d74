/- For every input 'AsmJoins' returns true, and its arguments read afterwards as they read before. No condition but the row's own: the variables that it lists are as the program lays them (the table of trailing zeros, the powers of ten, the names of operations and the two errors of package strconv are read); the library's bound MaxLen holds whatever number it holds. -/
import Derived.Test.YtiofleijieepgaaGreatDoorM8
import Derived.Test.YtiofleijieepgaaGreatDoorCards
section
namespace Go.Proofs.YtiofleijieepgaaGreatDoor
open Go.Deep Go.ChangeShapes Go.WideShapes Go.ChangeAt Go.RowKit Go.Vc Cae
set_option maxRecDepth 100000
set_option linter.unusedVariables false

def laidB : List (String × DataW Unit) := [("math/bits.deBruijn32tab", Rows.laid_math_bits_deBruijn32tab), ("math/bits.deBruijn64tab", Rows.laid_math_bits_deBruijn64tab), ("internal/strconv.uint64pow10", Rows.laid_internal_strconv_uint64pow10), ("unicode/utf8.acceptRanges", Rows.laid_unicode_utf8_acceptRanges), ("strconv.ErrRange", Rows.laid_strconv_ErrRange), ("strconv.ErrSyntax", Rows.laid_strconv_ErrSyntax), ("caesura/asm.names", Rows.laid_caesura_asm_names), ("unicode/utf8.first", Rows.laid_unicode_utf8_first)]

/-- The witness's world: the table that is pinned lies in its variable. -/
noncomputable def wit (os : Os) : World :=
  { World.doorLaid Tryz.prog 105 os with heap := (World.doorLaid Tryz.prog 105 os).heap.modify 8 fun o => match o with
    | .cells _ t x => .cells (Go.Pinned.utf8FirstZ.map fun (n : Nat) => Value.int .u8 (n : Int)).toArray t x
    | o => o }
theorem vs_of {W : World} {l : List (String × DataW Unit)} (h1 : (l.filter fun x => x.1 == "math/bits.deBruijn64tab") = [("math/bits.deBruijn64tab", Rows.laid_math_bits_deBruijn64tab)]) (h2 : (l.filter fun x => x.1 == "strconv.ErrSyntax") = [("strconv.ErrSyntax", Rows.laid_strconv_ErrSyntax)]) (h3 : (l.filter fun x => x.1 == "strconv.ErrRange") = [("strconv.ErrRange", Rows.laid_strconv_ErrRange)])
    (h4 : (l.filter fun x => x.1 == "internal/strconv.uint64pow10") = [("internal/strconv.uint64pow10", Rows.laid_internal_strconv_uint64pow10)]) (h5 : (l.filter fun x => x.1 == "caesura/asm.names") = [("caesura/asm.names", Rows.laid_caesura_asm_names)]) (h : laidMetH Tryz.prog l W) (hs : W.ShapedOpen Tryz.prog) : Vs W :=
  ⟨db_of h1 h, errs_of h2 h3 h, pw_of h4 h, nms_of h5 h, mx_of hs⟩

theorem prog_arg {H : Type} {enc : TypeId × Value → H} {W : World} {base : Nat} {sp : Nat → Bool} {held : Bool} {n : Nat} {v : Value} {y : DataW H × List MemPlace} (h : DataW.trod enc Tryz.prog W base sp held n 24 v.cells.toList = some y) : ∀ sv e, v = .agg #[sv, e] → Arg sv := by
  rintro sv e rfl
  obtain ⟨y0, y1, m, _, hl, h0, h1⟩ := trod_struct2 Tryz.underlying24 h
  have h0' : DataW.trod enc Tryz.prog W base sp held m 22 (List.take (Tryz.prog.cellsOf 22) [sv, e]) = some y0 := h0
  rw [show Tryz.prog.cellsOf 22 = 1 by kernel_rfl] at h0'
  intro n c hs
  subst hs
  rcases DataW.trod_slice Tryz.underlying22 h0' with ⟨hcs, _⟩ | ⟨a, len, cap, elems, rest, n', _, hcs, _⟩
  · simp at hcs
    exact hcs
  · simp at hcs

theorem lifted (os : Os) (started : os.Started) (H : Type) (enc : TypeId × Value → H) :
    ReturnsInHanded {} Tryz.checked os 4 .any (fun w args => (Rows.asmJoinsSpec.pre enc Tryz.prog Tryz.f4 [] false w args ∧ laidMetH Tryz.prog laidB w) ∧ sizedMet enc Tryz.prog Tryz.f4 (OpenSpec.ofChange Rows.asmJoinsSpec) false w args)
      (Rows.asmJoinsSpec.post enc Tryz.prog Tryz.f4 false true false false) := by
  refine handed_and (C := Tryz.checked) (X := fun w _ => laidMetH Tryz.prog laidB w) (fun _ _ _ hh h => h.of_heap hh) own started (by kernel_rfl) Tryz.func4
    (ChangeSpec.witness_shaped (enc := enc) (C := Tryz.checked) (os := os) (X := fun w _ => laidMetH Tryz.prog laidB w) false (wit os) #[.agg #[.slice none 0 0, .bool false], .agg #[.slice none 0 0, .bool false], .slice none 0 0] 8 rfl
      (World.shaped_of_ZipB (by kernel_rfl) (by kernel_rfl)) (by kernel_rfl) (by kernel_rfl) (by kernel_rfl)
      (laidMetH_of_parts (laidMet_of_run' 8 (by kernel_rfl) (by kernel_rfl)) (by kernel_rfl))) ?_
  intro W base args ds gs before hval0 hW _ hL hsh
  have hval : ∀ (j : Nat) t v, Tryz.f4.params[j]? = some t → args[j]? = some v → Value.okWide Tryz.prog W .any base t v := hval0
  have hlt := hW.lt
  have hW' := hW
  obtain ⟨p, q, hA0, hV, rfl, _, _⟩ := hW
  have hA : DataW.TrodAll enc Tryz.prog W 0 (fun _ => true) true Tryz.f4.params.toList args.toList ds p := hA0
  rw [Tryz.params4] at hA hval
  obtain ⟨v0, v1, v2, d0, d1, d2, p0, p1, p2, rfl, rfl, rfl, h0, h1, h2⟩ := trodAll_three hA
  obtain ⟨rfl, rfl⟩ := trodVars_none hV
  have hc : ∃ c, ProgV (fun _ => False) W v0 c := by
    obtain ⟨n, h⟩ := h0
    exact open_prog h
  obtain ⟨c, hc⟩ := hc
  have hc2 : ∃ c, ProgV (fun _ => False) W v1 c := by
    obtain ⟨n, h⟩ := h1
    exact open_prog h
  obtain ⟨c2, hc2⟩ := hc2
  have har : ∀ sv e, v0 = .agg #[sv, e] → Arg sv := by
    obtain ⟨n, h⟩ := h0
    exact prog_arg h
  have haq : ∀ sv e, v1 = .agg #[sv, e] → Arg sv := by
    obtain ⟨n, h⟩ := h1
    exact prog_arg h
  obtain ⟨l, hl, hal⟩ := arg_ints (hval 2 25 v2 rfl rfl) h2
  simp only [List.append_nil] at hW' hlt
  have hvs := vs_of (by kernel_rfl) (by kernel_rfl) (by kernel_rfl) (by kernel_rfl) (by kernel_rfl) hL hsh
  have hwalk := asmJoins_c c c2 l v0 v1 v2 W hvs (ng_of hsh) hc hc2 har haq hl hal
  refine hwalk.2.mono fun e W' ⟨v, he, hv, hb⟩ => ?_
  subst he; subst hv
  have st : ∀ {t v d ps} (hl : Tryz.prog.readableRec t = true) (hrow : t < Tryz.prog.types.size) (h : DataW.Trod enc Tryz.prog W 0 (fun _ => true) true t v d ps) (hlt : ∀ x ∈ ps, x.block < W.heap.size), DataW.Trod enc Tryz.prog W' 0 (fun b => decide (b < W.heap.size)) true t v d ps :=
    fun hl hrow h hlt => Below.trod laidOut hl hrow h hb hlt
  exact ⟨_, rfl, _, _, _, [], p0 ++ (p1 ++ p2), [], hW', trodAll_mk1 (shut_bool Tryz.underlying4 _), trodAll_mk3 (st (by kernel_rfl) (of_decide_eq_true (by kernel_rfl)) h0 (fun x hx => hlt x (by simp [hx]))) (st (by kernel_rfl) (of_decide_eq_true (by kernel_rfl)) h1 (fun x hx => hlt x (by simp [hx]))) (st (by kernel_rfl) (of_decide_eq_true (by kernel_rfl)) h2 (fun x hx => hlt x (by simp [hx]))), rfl, hb.frame _, fun h => by cases h⟩

theorem asmJoins_holds : Rows.AsmJoinsSaid :=
  OpenClaim.holds_of_wide 4 Tryz.f4 rfl rfl rfl rfl rfl rfl rfl ⟨rfl, rfl, rfl, rfl, rfl⟩ rfl rfl rfl rfl rfl (by kernel_rfl) Tryz.func4 (by kernel_rfl)
    (of_decide_eq_true (by kernel_rfl)) (by unfold Func.isWrapper; first | (rw [if_pos (by decide +kernel)]; kernel_rfl) | (rw [if_neg (by decide +kernel)]; exact ⟨rfl, rfl⟩))
    (fun os started H enc _ => lifted os started H enc)

theorem asmJoins_card : Rows.AsmJoinsCardSaid :=
  Claim7.holds_tied_plain_at .later [] [.data, .data, .data, .data, .sentinel, .sentinel, .widerDeep, .pinned] true (true, "9cd61d8c0c761a96f97d806c1c7aab089a8a22cef5738d8b16e7f6382cb11386") true asmJoins_holds (fun _ h => by cases h) (by kernel_rfl) (fun _ h => by cases h) asmJoins_row_tie rfl ⟨rfl, rfl⟩ (by kernel_rfl) rfl
    (fun f fn hf hfn => by
      obtain rfl : f = 4 := Option.some.inj ((show Tryz.prog.funcNamed "caesura/caesurakeep.AsmJoins" = some 4 by kernel_rfl).symm.trans hf) |>.symm
      obtain rfl : fn = Tryz.f4 := (Option.some.inj (Tryz.func4.symm.trans hfn)).symm
      exact ⟨by kernel_rfl, fun j t ht => by
        rw [Tryz.params4] at ht
        have hm : t ∈ [24, 25] := by simpa using Array.mem_of_getElem? ht
        have hall : ([24, 25].all fun u => !Tryz.prog.wantsStandIn u) = true := by kernel_rfl
        exact (show Tryz.prog.wantsStandIn t = false by simpa using List.all_eq_true.1 hall t hm)⟩)
    (by kernel_rfl)
#print axioms asmJoins_card
end Go.Proofs.YtiofleijieepgaaGreatDoor
end
