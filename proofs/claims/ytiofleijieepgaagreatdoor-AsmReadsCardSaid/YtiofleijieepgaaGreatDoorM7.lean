/- Texts of this claim, merged: RowD, Rset, Rtxt, CtB, CtW, Bld, Ord3, Ri1, Rpar, Pasm8, Rightb, Cl0, Cln, Thr, EqN, Smp, Pasm9, PasmB. -/
import Derived.Test.YtiofleijieepgaaGreatDoorM4
import Derived.Test.YtiofleijieepgaaGreatDoorM5
import Derived.Test.YtiofleijieepgaaGreatDoorM6
import Derived.Test.YtiofleijieepgaaGreatDoorTie
import Derived.WalkKit
import Derived.ProofKit
import Derived.Handy
import Derived.Lay
import Derived.OpenShut
import Derived.LaidMore
import Derived.Carry
import Derived.SevenTiedAt
import Derived.LaidHandle
import Derived.LaidSub
import Derived.LaidLaws
import Derived.Lib.LaidTab
import Derived.HandedShaped
import Derived.Shelf.Vars
import Derived.Lib.LaidU8
import Derived.LaidOnce
import Derived.Test.YtiofleijieepgaaGreatDoorM3
import Derived.Test.YtiofleijieepgaaGreatDoorM1
import Derived.Lib.ItoaLen
import Derived.Test.YtiofleijieepgaaGreatDoorM2
section
/- What the row lays, as the walk asks it; and its arguments. -/
namespace Go.Proofs.YtiofleijieepgaaGreatDoor
open Go.Deep Go.ChangeShapes Go.WideShapes Go.ChangeAt Go.RowKit Go.Vc Cae
set_option maxRecDepth 100000
set_option linter.unusedSimpArgs false
set_option linter.unusedVariables false
theorem own : ownKnob Tryz.prog.godebug = none := by kernel_rfl
theorem laidOut : laidOutB Tryz.prog = true := by kernel_rfl

def dbTab : List Int := [0, 1, 56, 2, 57, 49, 28, 3, 61, 58, 42, 50, 38, 29, 17, 4, 62, 47, 59, 36, 45, 43, 51, 22, 53, 39, 33, 30, 24, 18, 12, 5, 63, 55, 48, 27, 60, 41, 37, 16, 46, 35, 44, 21, 52, 32, 23, 11, 54, 26, 40, 15, 34, 20, 31, 10, 25, 14, 19, 9, 13, 8, 7, 6]
/-- The table of trailing zeros, as the row's condition gives it. -/
theorem db_of {W : World} {l : List (String × DataW Unit)} (hl : (l.filter fun x => x.1 == "math/bits.deBruijn64tab") = [("math/bits.deBruijn64tab", Rows.laid_math_bits_deBruijn64tab)]) (h : laidMetH Tryz.prog l W) : Db W := by
  have h := h.filter (fun x => x.1 == "math/bits.deBruijn64tab")
  rw [hl, MakeChecks.laidMetH_plain _ _ _ (by kernel_rfl)] at h
  have hg : Tryz.prog.globalNamed "math/bits.deBruijn64tab" = some 12 := by kernel_rfl
  have ht : Lib.TabIs Tryz.prog W "math/bits.deBruijn64tab" .u8 dbTab := Lib.tabIs_of_head (n := 64) (t := 252) (e := 5) hg (by kernel_rfl) (by kernel_rfl) (by kernel_rfl) (by kernel_rfl) (by kernel_rfl) h
  exact ht.cell hg 15 (by decide)

theorem errs_of {W : World} {l : List (String × DataW Unit)} (h1 : (l.filter fun x => x.1 == "strconv.ErrSyntax") = [("strconv.ErrSyntax", Rows.laid_strconv_ErrSyntax)]) (h2 : (l.filter fun x => x.1 == "strconv.ErrRange") = [("strconv.ErrRange", Rows.laid_strconv_ErrRange)]) (h : laidMetH Tryz.prog l W) : SErrs W := by
  constructor
  · have h := h.filter (fun x => x.1 == "strconv.ErrSyntax")
    rw [h1, MakeChecks.laidMetH_plain _ _ _ (by kernel_rfl)] at h
    obtain ⟨ps, ⟨g, t, cs, fuel, p, q, hg, ht, hv, hd, _, _⟩, _, _⟩ := h
    obtain rfl := Option.some.inj ((show Tryz.prog.globalNamed "strconv.ErrSyntax" = some 6 by kernel_rfl).symm.trans hg)
    obtain rfl := Option.some.inj ((show (Tryz.prog.globals[6]?).map (·.type) = some 29 by kernel_rfl).symm.trans ht)
    obtain ⟨_, u, v, hcs, _, _⟩ := iface_of_trod Tryz.underlying29 hd
    obtain ⟨lc⟩ := cs
    have hcs' : lc = [.iface u v] := hcs
    subst hcs'
    exact ⟨u, v, by simpa using World.var?_cell hg hv 0⟩
  · have h := h.filter (fun x => x.1 == "strconv.ErrRange")
    rw [h2, MakeChecks.laidMetH_plain _ _ _ (by kernel_rfl)] at h
    obtain ⟨ps, ⟨g, t, cs, fuel, p, q, hg, ht, hv, hd, _, _⟩, _, _⟩ := h
    obtain rfl := Option.some.inj ((show Tryz.prog.globalNamed "strconv.ErrRange" = some 7 by kernel_rfl).symm.trans hg)
    obtain rfl := Option.some.inj ((show (Tryz.prog.globals[7]?).map (·.type) = some 29 by kernel_rfl).symm.trans ht)
    obtain ⟨_, u, v, hcs, _, _⟩ := iface_of_trod Tryz.underlying29 hd
    obtain ⟨lc⟩ := cs
    have hcs' : lc = [.iface u v] := hcs
    subst hcs'
    exact ⟨u, v, by simpa using World.var?_cell hg hv 0⟩

def laidE : List (String × DataW Unit) := [("errors.errorType", Rows.laid_errors_errorType)]

theorem errVar_of {W : World} {l : List (String × DataW Unit)} (hl : (l.filter fun x => x.2.handleName?.isSome) = laidE) (h : laidMetH Tryz.prog l W) : ErrVar W := by
  have h' := (laidMetH_iff.1 h).2
  obtain ⟨name, u, ty, e1, e2, e3, e4, e5⟩ := h' ("errors.errorType", Rows.laid_errors_errorType) (by rw [hl]; exact List.mem_singleton.2 rfl)
  have en : name = [101, 114, 114, 111, 114] := (Option.some.inj e1).symm
  subst en
  obtain rfl := Option.some.inj ((show (Tryz.prog.cutTypes.find? (·.1 == "internal/reflectlite.rtype")).map (·.2) = some 213 by kernel_rfl).symm.trans e2)
  have hm : ty ∈ (List.range Tryz.prog.types.size).filter fun t => Tryz.prog.rowNamed t [101, 114, 114, 111, 114] := List.mem_filter.2 ⟨List.mem_range.2 e3, e4⟩
  rw [show ((List.range Tryz.prog.types.size).filter fun t => Tryz.prog.rowNamed t [101, 114, 114, 111, 114]) = [29] by kernel_rfl] at hm
  obtain rfl := List.mem_singleton.1 hm
  rw [show typeHandle Tryz.prog 29 = .pointer (some ⟨14, 29, none⟩) by kernel_rfl] at e5
  have := World.var?_cell (show Tryz.prog.globalNamed "errors.errorType" = some 4 by kernel_rfl) e5 0
  unfold ErrVar
  simpa using this


/-- The wrap, the world's shape kept, and a premise of the row's own. -/
theorem handed_and {H : Type} {enc : TypeId × Value → H} {a : Assume} {C : Checked} {os : Os} {f : FuncId} {fn : Func} {s : ChangeSpec} {conds : List PathCond} {apart fresh handsOn again : Bool} {X : World → Array Value → Prop}
    (hX : ∀ (w w' : World) (args : Array Value), w.heap = w'.heap → X w args → X w' args)
    (own : ownKnob C.prog.godebug = none) (started : os.Started) (noInit : C.prog.inits.idxOf? f = none) (hfn : C.prog.funcs[f]? = some fn)
    (witness : ∃ (w : World) (tape : Tape) (i : Input), w.os = os ∧ (w.forCall tape i).Shaped C.prog ∧ i.vars = [] ∧ Input.okWide C.prog (w.forCall tape i) .any w.heap.size f i ∧
      ((s.pre enc C.prog fn conds apart (w.forCall tape i).memory i.args ∧ X (w.forCall tape i).memory i.args) ∧ sizedMet enc C.prog fn (OpenSpec.ofChange s) apart (w.forCall tape i).memory i.args) ∧ a.holds C.prog (lone (Frame.enter C.prog f i.args .normal) [] (w.forCall tape i)))
    (contract : ∀ (W : World) (base : Nat) (args : Array Value) (ds gs : List (DataW H)) (before : List MemPlace),
      (∀ (j : Nat) t v, fn.params[j]? = some t → args[j]? = some v → Value.okWide C.prog W .any base t v) →
      DataW.Whole enc C.prog fn.params.toList s.vars apart W args.toList ds gs before →
      (DataW.weightsEach C.prog (fn.params.toList ++ s.plain.varTypes C.prog) (ds ++ gs)).all (· ≤ reachBytes) = true → X W args → W.ShapedOpen C.prog →
      Calls C.prog f args W fun e W' => ∃ v, e = .returned v ∧ s.post enc C.prog fn apart fresh handsOn again W args v W') :
    ReturnsInHanded a C os f .any (fun w args => (s.pre enc C.prog fn conds apart w args ∧ X w args) ∧ sizedMet enc C.prog fn (OpenSpec.ofChange s) apart w args) (s.post enc C.prog fn apart fresh handsOn again) := by
  refine returnsInHanded_of_calls own started noInit witness ?_
  intro w tape i _ hsh _ hok hpre hholds
  obtain ⟨_, _, _, fn', hfn', _, _, _, _, hval⟩ := hok
  have e : fn' = fn := Option.some.inj (hfn'.symm.trans hfn)
  subst e
  obtain ⟨⟨⟨ds, gs, before, hw, hc⟩, hx⟩, hz⟩ := hpre
  have hw' := DataW.Whole.of_heap (w' := w.forCall tape i) (by rfl) hw
  refine (contract (w.forCall tape i) w.heap.size i.args ds gs before hval hw' (hz.weights hw) (hX _ _ _ (by rfl) hx) hsh).mono fun e W' ⟨v, he, hp⟩ => ?_
  subst he
  exact ChangeSpec.post_blind hp
/-- What a world lays, read once. -/
noncomputable def leavesW (P : Program) (w : World) (fuel M : Nat) (l : List String) : Option (List (String × DataW Unit)) :=
  (DataW.laidRun P w fuel l).bind fun x => if nodupBits M x.2 0 && laidRowsB P w x.2 then some x.1 else none
theorem laidMet_one {P : Program} {w : World} {l : List (String × DataW Unit)} (fuel M : Nat) (h : leavesW P w fuel M (l.map (·.1)) = some l) : laidMet P l w := by
  unfold leavesW at h
  rw [Option.bind_eq_some_iff] at h
  obtain ⟨x, hx, h⟩ := h
  split at h
  · rename_i hb
    rw [Bool.and_eq_true] at hb
    cases h
    exact laidMet_of_run (ps := x.2) fuel hx (decide_eq_true (nodupBits_sound hb.1).1) hb.2
  · cases h
theorem sp_of {W : World} {l : List (String × DataW Unit)} (hl : (l.filter fun x => x.1 == "strings.asciiSpace") = [("strings.asciiSpace", Rows.laid_strings_asciiSpace)]) (h : laidMetH Tryz.prog l W) : Lib.TabIs Tryz.prog W "strings.asciiSpace" .u8 Lib.asciiSpaceTab := by
  have h := h.filter (fun x => x.1 == "strings.asciiSpace")
  rw [hl, MakeChecks.laidMetH_plain _ _ _ (by kernel_rfl)] at h
  have hg : Tryz.prog.globalNamed "strings.asciiSpace" = some 3 := by kernel_rfl
  exact Lib.tabIs_of_head (n := 256) (t := 166) (e := 5) hg (by kernel_rfl) (by kernel_rfl) (by kernel_rfl) (by kernel_rfl) (by kernel_rfl) h
def spaceR_ren : Go.Shelf.Ren := ⟨fun | 199 => 124 | 261 => 154 | 311 => 173 | 312 => 174 | n => n, fun | 21 => 21 | 4 => 4 | 51 => 118 | 141 => 203 | 0 => 0 | 196 => 235 | 193 => 232 | 3 => 3 | 198 => 238 | 49 => 236 | 194 => 233 | 201 => 241 | 226 => 249 | 46 => 148 | 227 => 250 | n => n, fun | 6 => 5 | n => n⟩
theorem spaceR : Go.Proofs.Lays.n199 Tryz.prog spaceR_ren := {
  mixed := by kernel_rfl
  f199 := Tryz.func124.trans (congrArg some (by kernel_rfl))
  f261 := Tryz.func154.trans (congrArg some (by kernel_rfl))
  f311 := Tryz.func173.trans (congrArg some (by kernel_rfl))
  f312 := Tryz.func174.trans (congrArg some (by kernel_rfl))
  t0 := Tryz.underlying0
  a0 := Tryz.isAgg0
  z0 := Tryz.sizeOf0
  v0 := Tryz.zeroValue0
  t3 := Tryz.underlying3
  a3 := Tryz.isAgg3
  z3 := Tryz.sizeOf3
  v3 := Tryz.zeroValue3
  t4 := Tryz.underlying4
  a4 := Tryz.isAgg4
  z4 := Tryz.sizeOf4
  v4 := Tryz.zeroValue4
  t21 := Tryz.underlying21
  a21 := Tryz.isAgg21
  z21 := Tryz.sizeOf21
  v21 := Tryz.zeroValue21
  t46 := Tryz.underlying148
  a46 := Tryz.isAgg148
  z46 := Tryz.sizeOf148
  v46 := Tryz.zeroValue148
  t49 := Tryz.underlying236
  a49 := Tryz.isAgg236
  z49 := Tryz.sizeOf236
  v49 := Tryz.zeroValue236
  t51 := Tryz.underlying118
  a51 := Tryz.isAgg118
  z51 := Tryz.sizeOf118
  v51 := Tryz.zeroValue118
  t141 := Tryz.underlying203
  a141 := Tryz.isAgg203
  z141 := Tryz.sizeOf203
  v141 := Tryz.zeroValue203
  t193 := Tryz.underlying232
  a193 := Tryz.isAgg232
  z193 := Tryz.sizeOf232
  v193 := Tryz.zeroValue232
  t194 := Tryz.underlying233
  a194 := Tryz.isAgg233
  z194 := Tryz.sizeOf233
  v194 := Tryz.zeroValue233
  t196 := Tryz.underlying235
  a196 := Tryz.isAgg235
  z196 := Tryz.sizeOf235
  v196 := Tryz.zeroValue235
  t198 := Tryz.underlying238
  a198 := Tryz.isAgg238
  z198 := Tryz.sizeOf238
  v198 := Tryz.zeroValue238
  t201 := Tryz.underlying241
  a201 := Tryz.isAgg241
  z201 := Tryz.sizeOf241
  v201 := Tryz.zeroValue241
  t226 := Tryz.underlying249
  a226 := Tryz.isAgg249
  z226 := Tryz.sizeOf249
  v226 := Tryz.zeroValue249
  t227 := Tryz.underlying250
  a227 := Tryz.isAgg250
  z227 := Tryz.sizeOf250
  v227 := Tryz.zeroValue250
  g6 := by kernel_rfl }

theorem wt_of {W : World} {l : List (String × DataW Unit)} (hl : (l.filter fun x => x.1 == "unicode.White_Space") = [("unicode.White_Space", Rows.laid_unicode_White_Space)]) (h : laidMetH Tryz.prog l W) : Lib.WhiteTab 5 W := by
  have h := h.filter (fun x => x.1 == "unicode.White_Space")
  rw [hl, MakeChecks.laidMetH_plain _ _ _ (by kernel_rfl)] at h
  have e : (Rows.laid_unicode_White_Space : DataW Unit) = Lib.whiteData := by kernel_rfl
  have hr := Lib.laidMet.reads h (n := "unicode.White_Space") (d := Rows.laid_unicode_White_Space) (List.mem_singleton.2 rfl)
  rw [e] at hr
  exact whiteTab_of_reads spaceR ⟨by kernel_rfl, by kernel_rfl, by kernel_rfl, by kernel_rfl, by kernel_rfl, by kernel_rfl, by kernel_rfl, by kernel_rfl⟩ hr
theorem tv_of {W : World} {l : List (String × DataW Unit)} (h1 : (l.filter fun x => x.1 == "strings.asciiSpace") = [("strings.asciiSpace", Rows.laid_strings_asciiSpace)]) (h2 : (l.filter fun x => x.1 == "unicode.White_Space") = [("unicode.White_Space", Rows.laid_unicode_White_Space)]) (h : laidMetH Tryz.prog l W) (hs : W.ShapedOpen Tryz.prog) : Tv W :=
  ⟨cell_of_shapedOpen_int (g := 2) (zero := #[.int .i64 0]) hs (by decide +kernel) (by kernel_rfl) (by kernel_rfl) (by kernel_rfl) (by kernel_rfl) Tryz.underlying3, sp_of h1 h, wt_of h2 h⟩
theorem fine_of {W : World} {l : List (String × DataW Unit)} (hl : (l.filter fun x => x.1 == "caesura/caesuraref.Fine") = [("caesura/caesuraref.Fine", Rows.laid_caesura_caesuraref_Fine)]) (h : laidMetH Tryz.prog l W) : W.cell? ⟨0, 0, none⟩ = some (.int .i64 0) ∧ W.cell? ⟨0, 1, none⟩ = some (.int .i64 (-1)) := by
  have h := h.filter (fun x => x.1 == "caesura/caesuraref.Fine")
  rw [hl, MakeChecks.laidMetH_plain _ _ _ (by kernel_rfl)] at h
  obtain ⟨ps, ⟨g, t, cs, fuel, p, q, hg, ht, hv, hd, _, _⟩, _, _⟩ := h
  obtain rfl := Option.some.inj ((show Tryz.prog.globalNamed "caesura/caesuraref.Fine" = some 0 by kernel_rfl).symm.trans hg)
  obtain rfl := Option.some.inj ((show (Tryz.prog.globals[0]?).map (·.type) = some 52 by kernel_rfl).symm.trans ht)
  obtain ⟨xs, m, _, ex, hlen, hl, hel⟩ := DataW.trod_struct Tryz.underlying52 hd
  rw [show Tryz.prog.cellsOf 52 = 2 by kernel_rfl] at hlen
  have key : cs = #[.int .i64 0, .int .i64 (-1)] := by
    obtain ⟨l⟩ := cs
    match l, hlen with
    | [a, b], _ =>
      match xs, hl with
      | [x0, x1], _ =>
        have e3 := (DataW.agg.inj (Prod.mk.inj ex).1)
        simp only [List.map_cons, List.map_nil, List.cons.injEq, and_true] at e3
        have k0 := hel 0 _ rfl; have k1 := hel 1 _ rfl
        obtain ⟨z0, a0, b0, _⟩ := DataW.trod_int Tryz.underlying47 k0
        obtain ⟨z1, a1, b1, _⟩ := DataW.trod_int Tryz.underlying3 k1
        have c0 : Tryz.prog.cellsOf 47 = 1 := by kernel_rfl
        have c1 : Tryz.prog.cellsOf 3 = 1 := by kernel_rfl
        have a0' : List.take (Tryz.prog.cellsOf 47) [a, b] = [.int .i64 z0] := a0
        have a1' : List.take (Tryz.prog.cellsOf 3) [b] = [.int .i64 z1] := a1
        rw [c0] at a0'
        rw [c1] at a1'
        have n0 : a = .int .i64 z0 := by simpa using a0'
        have n1 : b = .int .i64 z1 := by simpa using a1'
        subst b0 b1
        have e4 : (0 : Int) = z0 ∧ (-1 : Int) = z1 := by simpa using e3
        rw [n0, n1, ← e4.1, ← e4.2]
  subst key
  exact ⟨by simpa using World.var?_cell hg hv 0, by simpa using World.var?_cell hg hv 1⟩
theorem mx_of {W : World} (h : W.ShapedOpen Tryz.prog) : Mx W :=
  cell_of_shapedOpen_int (g := 2) (zero := #[.int .i64 0]) h (by decide +kernel) (by kernel_rfl) (by kernel_rfl) (by kernel_rfl) (by kernel_rfl) Tryz.underlying3

theorem ng_of {W : World} (h : W.ShapedOpen Tryz.prog) : 14 ≤ W.heap.size := by
  obtain ⟨o, o0, h1, _⟩ := h.2 14 (of_decide_eq_true (by kernel_rfl)) (of_decide_eq_true (by kernel_rfl))
  have := (Array.getElem?_eq_some_iff.1 h1).1
  omega
/-- The table of powers of ten. -/
theorem pw_of {W : World} {l : List (String × DataW Unit)} (hl : (l.filter fun x => x.1 == "internal/strconv.uint64pow10") = [("internal/strconv.uint64pow10", Rows.laid_internal_strconv_uint64pow10)]) (h : laidMetH Tryz.prog l W) : Pw W := by
  have h := h.filter (fun x => x.1 == "internal/strconv.uint64pow10")
  rw [hl, MakeChecks.laidMetH_plain _ _ _ (by kernel_rfl)] at h
  have hg : Tryz.prog.globalNamed "internal/strconv.uint64pow10" = some 10 := by kernel_rfl
  exact Lib.tabIs_of_head (n := 20) (t := 229) (e := 194) hg (by kernel_rfl) (by kernel_rfl) (by kernel_rfl) (by kernel_rfl) (by kernel_rfl) h
theorem nms_of {W : World} {l : List (String × DataW Unit)} (hl : (l.filter fun x => x.1 == "caesura/asm.names") = [("caesura/asm.names", Rows.laid_caesura_asm_names)]) (h : laidMetH Tryz.prog l W) : Nms W := by
  have h := h.filter (fun x => x.1 == "caesura/asm.names")
  rw [hl, MakeChecks.laidMetH_plain _ _ _ (by kernel_rfl)] at h
  obtain ⟨ps, ⟨g, t, cs, fuel, p, q, hg, ht, hv, hd, _, _⟩, _, _⟩ := h
  obtain rfl := Option.some.inj ((show Tryz.prog.globalNamed "caesura/asm.names" = some 1 by kernel_rfl).symm.trans hg)
  obtain rfl := Option.some.inj ((show (Tryz.prog.globals[1]?).map (·.type) = some 105 by kernel_rfl).symm.trans ht)
  obtain ⟨xs, m, _, hx, hcl, hxl, he⟩ := DataW.trod_array (n := 6) (e := 9) (by kernel_rfl) hd
  have hc1 : Tryz.prog.cellsOf 9 = 1 := by kernel_rfl
  rw [hc1] at he
  have hxs : ([DataW.lit (.string []), .lit (.string [116, 97, 107, 101]), .lit (.string [115, 112, 108, 105, 116]), .lit (.string [106, 117, 109, 112]), .lit (.string [101, 110, 100]), .lit (.string [121, 101, 115])] : List (DataW Unit)) = xs.map (·.1) := by
    have := congrArg Prod.fst hx
    simpa [Rows.laid_caesura_asm_names] using this
  have key : ∀ (i : Nat) (s : List UInt8), i < 6 → (xs.map (·.1))[i]? = some (DataW.lit (.string s)) → W.cell? ⟨1, i, none⟩ = some (str s) := fun i s hi hs => by
    have h1 := he i hi
    rw [List.getElem?_eq_getElem (by omega)] at h1
    obtain ⟨b, hb, hb2, _⟩ := DataW.trod_string Tryz.underlying9 h1
    rw [List.getElem?_map, List.getElem?_eq_getElem (by omega)] at hs
    simp only [Option.map_some, Option.some.injEq] at hs
    rw [hb2] at hs
    simp only [DataW.lit.injEq, Lit.string.injEq] at hs
    have hcell : cs.toList[i]? = some (.string b) := by
      have := congrArg (·[0]?) hb
      simpa [List.getElem?_take, List.getElem?_drop] using this
    have hw := World.var?_cell hg hv i
    rw [hw]
    have h2 : cs[i]? = some (.string b) := by simpa using hcell
    rw [h2]
    subst hs
    simp [str]
  intro i hi
  rw [← hxs] at key
  match i, hi with
  | 0, _ => exact key 0 _ (by omega) rfl
  | 1, _ => exact key 1 _ (by omega) rfl
  | 2, _ => exact key 2 _ (by omega) rfl
  | 3, _ => exact key 3 _ (by omega) rfl
  | 4, _ => exact key 4 _ (by omega) rfl
  | 5, _ => exact key 5 _ (by omega) rfl
end Go.Proofs.YtiofleijieepgaaGreatDoor
end
section
/- The reference's in, RightSet, Has. -/
namespace Go.Proofs.YtiofleijieepgaaGreatDoor
open Go.Vc Go.Proofs Go.RowKit Cae
set_option maxRecDepth 100000
set_option linter.unusedSimpArgs false
set_option linter.unusedVariables false
attribute [local irreducible] wpL callK valK unitK runK Fun Sl Vc.Own vc vcOps opK pureK
set_option maxHeartbeats 4000000

theorem rin_c (a b c : Int) (w : World) : Fun Tryz.prog 103 [.int .i64 a, .int .i64 b, .int .i64 c] w fun r w' => r = .bool (decide (b ≤ a ∧ a ≤ c)) ∧ w' = w := by
  refine fun_of_vc Tryz.func103 rfl (by kernel_rfl) [6] rfl ?_
  push_cast -dsimp (maxSteps := 4000000) [Tryz.ntmps103]
  constructor
  · intro h; simp [h]
  · intro h; simp [h]

/-- The last end ahead of a place. -/
def lastAt (s : List Rg) (i : Nat) : Int := if i = 0 then -2 else (s.getD (i - 1) (0, 0)).2

theorem rightSetR_c (s : List Rg) (hs : s.length < 1000000000) (X : Nat → Prop) (v : Value) (w : World) (hv : Sl X 2 (En encR) w v s) :
    Fun Tryz.prog 104 [v] w fun r w' => r = .bool (setRight (-2) s) ∧ Below w.heap.size w w' := by
  obtain ⟨a, c, rfl, hc⟩ := hv.shape
  refine fun_of_vc Tryz.func104 rfl (by kernel_rfl) [2] rfl ?_
  push_cast -dsimp (maxSteps := 4000000) [Tryz.ntmps104]
  refine wpL_loop [2, 3, 4, 7, 8, 9, 10, 11, 12, 13, 14, 15, 16, 17, 18, 19, 20, 21, 22, 23, 24, 25, 26, 27, 28, 29, 30, 31, 32, 33, 34, 35, 36, 37, 38, 39, 40] (fun z wx => ∃ (i : Nat), z 7 = .int .i64 i ∧ i ≤ s.length ∧ setRight (lastAt s i) (s.drop i) = setRight (-2) s ∧ (0 < i → 0 ≤ lastAt s i ∧ lastAt s i ≤ 1114111) ∧ Below w.heap.size w wx) (fun z _ => s.length - (intOf (z 7)).toNat) ?_ ?_
  · exact ⟨0, rfl, Nat.zero_le _, rfl, fun h => absurd h (by omega), Below.refl _ _⟩
  · intro z wx hI
    obtain ⟨i, h7, hi, hR, hL, hb⟩ := hI
    have szx := hb.size
    push_cast -dsimp [h7]
    refine ⟨fun hlt => ?_, fun hge => ?_⟩
    · have hex := lt_get (l := s) (i := i) (by omega)
      obtain ⟨r, hex⟩ := hex
      have hr := hex.1
      have hd := hex.2.2.1
      rw [hd, setRight] at hR
      have hget := (hv.below hb).get hr
      obtain ⟨b, o, rfl, hX, hcell⟩ := hget
      have ce : cellsAt wx ⟨b, o + i * 2, none⟩ 0 2 = some [.int .i64 r.1, .int .i64 r.2] := cellsAt_of (encR r) 0 (fun k u hu => by simpa using hcell k u hu)
      push_cast -dsimp [ce]
      refine ⟨⟨by omega, by omega⟩, ?_⟩
      refine allocK (z := [.int .i64 0, .int .i64 0]) (by kernel_rfl) ?_
      intro w1 hw1
      push_cast -dsimp
      refine storeAgg (n := 2) (by kernel_rfl) hw1.blk rfl (by simp) (by simp [Value.oneCell']) ?_
      intro w2 hw2
      have sz1 := hw1.size
      have sz2 := hw2.size
      have hb2 : Below wx.heap.size wx w2 := hw1.below.trans (hw2.kept.below (by omega) (fun _ h => by omega))
      have hB2 : Blk w2 wx.heap.size 138 [.int .i64 r.1, .int .i64 r.2] := hw2.blk
      have hbd : Below w.heap.size w w2.drew := (hb.trans (hb2.mono szx)).drew
      have hprev : 0 < i → w2.drew.cell? ⟨b, o + (i - 1) * 2 + 1, none⟩ = some (.int .i64 (lastAt s i)) := fun h0 => by
        have hq : s[i - 1]? = some s[i - 1] := List.getElem?_eq_getElem (by omega)
        obtain ⟨b', o', he, _, hc'⟩ := (hv.below hbd).get hq
        cases he
        have := hc' 1 _ rfl
        rw [this]
        unfold lastAt
        rw [if_neg (by omega), List.getD_eq_getElem?_getD, hq]
        rfl
      push_cast -dsimp
      refine wpL_draw (fun w' => ∀ a, w'.cell? a = w2.cell? a) mixed (by kernel_rfl) (fun _ => rfl) ?_
      have f0 : w2.drew.cell? ⟨wx.heap.size, 0, none⟩ = some (.int .i64 r.1) := hB2.drew.cell rfl
      have f1 : w2.drew.cell? ⟨wx.heap.size, 1, none⟩ = some (.int .i64 r.2) := hB2.drew.cell rfl
      have g0 : ∀ w'' : World, (∀ a, w''.cell? a = w2.cell? a) → w''.cell? ⟨wx.heap.size, 0, none⟩ = some (.int .i64 r.1) := fun w'' hC => (hC _).trans f0
      have g1 : ∀ w'' : World, (∀ a, w''.cell? a = w2.cell? a) → w''.cell? ⟨wx.heap.size, 1, none⟩ = some (.int .i64 r.2) := fun w'' hC => (hC _).trans f1
      have gp : 0 < i → ∀ w'' : World, (∀ a, w''.cell? a = w2.cell? a) → w''.cell? ⟨b, o + (i - 1) * 2 + 1, none⟩ = some (.int .i64 (lastAt s i)) := fun h0 w'' hC => (hC _).trans (hprev h0)
      push_cast -dsimp [f0]
      refine ⟨fun w'' hC => by rw [g0 w'' hC]; exact rfl, ?_⟩
      refine callK_of (rin_c r.1 0 1114111 w2.drew) ?_
      rintro _ w3 ⟨rfl, rfl⟩
      refine ⟨fun _ => rfl, ?_⟩
      have hstop : (r.1 ≤ lastAt s i + 1 ∨ r.2 < r.1 ∨ 1114111 < r.2) → Value.bool false = Value.bool (setRight (-2) s) := fun h => by rw [if_pos h] at hR; rw [← hR]
      have hneg : i = 0 → lastAt s i = -2 := fun h => by unfold lastAt; rw [if_pos h]
      by_cases c1 : 0 ≤ r.1 ∧ r.1 ≤ 1114111
      · rw [decide_eq_true c1]
        push_cast -dsimp [f0, f1]
        refine ⟨fun w'' hC => by rw [g1 w'' hC]; exact rfl, fun w'' hC => by rw [g0 w'' hC]; exact rfl, ?_⟩
        refine callK_of (rin_c r.2 r.1 1114111 w2.drew) ?_
        rintro _ w3 ⟨rfl, rfl⟩
        refine ⟨fun _ => rfl, ?_⟩
        have hcont : (i = 0 ∨ ¬ r.1 < lastAt s i + 2) → (r.1 ≤ r.2 ∧ r.2 ≤ 1114111) → setRight (lastAt s (i + 1)) (s.drop (i + 1)) = setRight (-2) s ∧ (0 < i + 1 → 0 ≤ lastAt s (i + 1) ∧ lastAt s (i + 1) ≤ 1114111) := fun h c2 => by
          have hl : lastAt s (i + 1) = r.2 := by unfold lastAt; rw [if_neg (by omega), Nat.add_sub_cancel, List.getD_eq_getElem?_getD, hr]; rfl
          rw [hl]
          refine ⟨?_, fun _ => by omega⟩
          rw [if_neg (by
            rcases h with h | h
            · have := hneg h; omega
            · omega)] at hR
          exact hR
        by_cases c2 : r.1 ≤ r.2 ∧ r.2 ≤ 1114111
        · rw [decide_eq_true c2]
          have eidx : ((i : Int) - 1).toNat = i - 1 := by omega
          by_cases c3 : 0 < i
          · have fp := hprev c3
            have gq := gp c3
            have hLc := hL c3
            push_cast -dsimp [f0, eidx, fp]
            refine ⟨fun _ => ⟨fun w'' hC => by rw [g0 w'' hC]; exact rfl, ⟨by omega, by omega⟩, ⟨by omega, by omega⟩, fun w'' hC => by rw [gq w'' hC]; exact rfl, ⟨by omega, by omega⟩, fun hbad => ⟨hstop (by omega), hbd⟩, fun hok => ?_⟩, fun h => absurd h (by omega)⟩
            obtain ⟨k1, k2⟩ := hcont (.inr hok) c2
            exact ⟨⟨by omega, by omega⟩, ⟨i + 1, rfl, by omega, k1, k2, hbd⟩, by rw [h7]; simp only [intOf]; omega⟩
          · push_cast -dsimp [f0, eidx]
            refine ⟨fun h => absurd h (by omega), fun _ => ?_⟩
            obtain ⟨k1, k2⟩ := hcont (.inl (by omega)) c2
            exact ⟨⟨by omega, by omega⟩, ⟨i + 1, rfl, by omega, k1, k2, hbd⟩, by rw [h7]; simp only [intOf]; omega⟩
        · rw [decide_eq_false c2]
          push_cast -dsimp
          exact ⟨hstop (by omega), hbd⟩
      · rw [decide_eq_false c1]
        push_cast -dsimp
        refine ⟨hstop ?_, hbd⟩
        rcases Nat.eq_zero_or_pos i with h | h
        · have := hneg h; omega
        · have := hL h; omega
    · rw [List.drop_eq_nil_of_le (by omega), setRight] at hR
      exact ⟨by rw [← hR], hb⟩

end Go.Proofs.YtiofleijieepgaaGreatDoor
end
section
namespace Cae
/-- The text of a set up to a place. -/
def textTo (s : List Rg) (i : Nat) : List UInt8 := Go.Lib.join ((s.take i).map rgP) [32]
theorem join_snoc (x : List UInt8) : ∀ (l : List (List UInt8)), Go.Lib.join (l ++ [x]) [32] = if l = [] then x else Go.Lib.join l [32] ++ 32 :: x
  | [] => by simp [Go.Lib.join_one]
  | y :: l => by
    rw [if_neg (by simp), List.cons_append, Go.Lib.join_cons, Go.Lib.join_cons]
    simp [Go.Lib.joinTail]
theorem textTo_next {s : List Rg} {i : Nat} {x : Rg} (ht : s.take (i + 1) = s.take i ++ [x]) (hi : i < s.length) : textTo s (i + 1) = (if 0 < i then textTo s i ++ [32] else []) ++ rgP x := by
  unfold textTo
  rw [ht, List.map_append, List.map_cons, List.map_nil, join_snoc]
  by_cases h : 0 < i
  · rw [if_pos h, if_neg (by
      intro e
      have := congrArg List.length e
      simp at this
      rcases this with h' | h'
      · omega
      · subst h'; simp at hi)]
    simp
  · have : i = 0 := by omega
    subst this
    simp
theorem textTo_len (s : List Rg) : ∀ i : Nat, i ≤ s.length → (textTo s i).length ≤ 20 * i
  | 0, _ => Nat.le_refl 0
  | i + 1, h => by
    have ih := textTo_len s i (by omega)
    have ht : s.take (i + 1) = s.take i ++ [s[i]'(by omega)] := (List.take_append_getElem (by omega)).symm
    have := rgP_len (s[i]'(by omega))
    rw [textTo_next ht (by omega), List.length_append]
    split
    · rw [List.length_append, List.length_singleton]; omega
    · simp; omega
end Cae
/- The reference's SetText. -/
namespace Go.Proofs.YtiofleijieepgaaGreatDoor
open Go.Vc Go.Proofs Go.RowKit Cae
set_option maxRecDepth 100000
set_option linter.unusedSimpArgs false
set_option linter.unusedVariables false
attribute [local irreducible] wpL callK valK unitK runK Fun Sl Vc.Own vc vcOps opK pureK
set_option maxHeartbeats 4000000
theorem setTextR_c (s : List Rg) (hs : s.length < 10000000) (hr : setRight (-2) s = true) (X : Nat → Prop) (v : Value) (w : World) (hv : Sl X 2 (En encR) w v s) (h : Db w) :
    Fun Tryz.prog 76 [v] w fun r w' => r = str (printP s) ∧ Below w.heap.size w w' := by
  obtain ⟨a, c, rfl, hc⟩ := hv.shape
  refine fun_of_vc Tryz.func76 rfl (by kernel_rfl) [2] rfl ?_
  push_cast -dsimp (maxSteps := 4000000) [Tryz.ntmps76]
  refine wpL_loop [3, 4, 5, 8, 9, 10, 11, 12, 13, 14, 15, 16, 17, 18, 19, 20, 21, 22, 23, 24, 25, 26, 27, 28, 29, 30, 31, 32, 33] (fun z wx => ∃ (i : Nat), z 8 = .int .i64 i ∧ z 3 = str (textTo s i) ∧ i ≤ s.length ∧ Below w.heap.size w wx) (fun z _ => s.length - (intOf (z 8)).toNat) ?_ ?_
  · exact ⟨0, rfl, rfl, Nat.zero_le _, Below.refl _ _⟩
  · intro z wx hI
    obtain ⟨i, h8, h3, hi, hbx⟩ := hI
    have szx := hbx.size
    push_cast -dsimp [h8, h3]
    refine ⟨fun hlt => ?_, fun hge => ?_⟩
    · have hg := lt_get (l := s) (i := i) (by omega)
      obtain ⟨x, hx, hxm, _, ht⟩ := hg
      have hg := (hv.below hbx).get hx
      obtain ⟨b, o, rfl, hnb, hcell⟩ := hg
      have cx : cellsAt wx ⟨b, o + i * 2, none⟩ 0 2 = some [.int .i64 x.1, .int .i64 x.2] := cellsAt_of (encR x) 0 (fun j u hu => by simpa using hcell j u hu)
      have hxr := mem_right (by omega) hr x hxm
      have hgn : ∃ n : Nat, x.1 = n := ⟨x.1.toNat, by omega⟩
      obtain ⟨n, hn⟩ := hgn
      have hgm : ∃ m : Nat, x.2 = m := ⟨x.2.toNat, by omega⟩
      obtain ⟨m, hm⟩ := hgm
      have hT := textTo_next ht (by omega)
      have hrg : rgP x = hexP n ++ (if n < m then 45 :: hexP m else []) := by unfold rgP; rw [hn, hm]; simp
      rw [hrg] at hT
      rw [hn, hm] at cx
      push_cast -dsimp [cx]
      refine ⟨⟨by omega, by omega⟩, ?_⟩
      refine allocK (z := [.int .i64 0, .int .i64 0]) (by kernel_rfl) ?_
      intro w3 hw3
      have sz3 := hw3.size
      push_cast -dsimp
      refine storeAgg (n := 2) (by kernel_rfl) hw3.blk rfl (by simp) (by simp [Value.oneCell']) ?_
      intro w4 hw4
      have sz4 := hw4.size
      have c0 : w4.cell? ⟨wx.heap.size, 0, none⟩ = some (.int .i64 (n : Int)) := hw4.blk.cell rfl
      have c1 : w4.cell? ⟨wx.heap.size, 1, none⟩ = some (.int .i64 (m : Int)) := hw4.blk.cell rfl
      have k4 : Kept (fun j => j = wx.heap.size) wx w4 := (Kept.new hw3).trans hw4.kept (fun _ _ h => h)
      have hb4 : Below w.heap.size w w4 := hbx.trans (k4.below szx (fun _ h => by omega))
      have hTl := textTo_len s i hi
      have hL1 := hexP_len n
      have hL2 := hexP_len m
      have key : ∀ P : List UInt8, P = (if 0 < i then textTo s i ++ [32] else []) → P.length ≤ 20 * i + 1 := fun P e => by
        rw [e]
        split
        · rw [List.length_append, List.length_singleton]; omega
        · simp
      push_cast -dsimp [c0]
      refine ⟨fun hpos => ⟨by omega, ?_⟩, fun hpos => ?_⟩
      · rw [if_pos (by omega)] at hT key
        have hP := key _ rfl
        refine callK_of (fmtI_c n (by omega) w4 (h.below hb4 h.lt)) ?_
        rintro _ w5 ⟨rfl, hb5⟩
        have hB5 := hb4.trans (hb5.mono (show w.heap.size ≤ w4.heap.size by omega))
        have c5 : w5.cell? ⟨wx.heap.size, 0, none⟩ = some (.int .i64 (n : Int)) := (hb5.cell (by show wx.heap.size < w4.heap.size; omega)).trans c0
        have c5' : w5.cell? ⟨wx.heap.size, 1, none⟩ = some (.int .i64 (m : Int)) := (hb5.cell (by show wx.heap.size < w4.heap.size; omega)).trans c1
        push_cast -dsimp [c5, c5']
        refine ⟨by first | omega | (simp only [List.length_append, List.length_singleton] at hP ⊢; omega), fun hne => ?_, fun heq => ?_⟩
        · refine callK_of (fmtI_c m (by omega) w5 (h.below hB5 h.lt)) ?_
          rintro _ w6 ⟨rfl, hb6⟩
          have hB6 := hB5.trans (hb6.mono hB5.size)
          rw [if_pos (by omega)] at hT
          push_cast -dsimp
          refine ⟨by omega, by simp only [List.length_append, List.length_cons, List.length_nil]; first | omega | (simp only [List.length_append, List.length_cons, List.length_nil] at hP; omega), ⟨by omega, by omega⟩, ⟨i + 1, rfl, ?_, by omega, hB6⟩, by rw [h8]; simp only [intOf]; omega⟩
          rw [hT]
          simp
        · rw [if_neg (by omega)] at hT
          refine ⟨⟨by omega, by omega⟩, ⟨i + 1, rfl, ?_, by omega, hB5⟩, by rw [h8]; simp only [intOf]; omega⟩
          rw [hT]
          simp
      · have hi0 : i = 0 := by omega
        rw [if_neg (by omega)] at hT key
        have hP := key _ rfl
        have h0 : textTo s i = [] := by rw [hi0]; rfl
        rw [h0]
        refine callK_of (fmtI_c n (by omega) w4 (h.below hb4 h.lt)) ?_
        rintro _ w5 ⟨rfl, hb5⟩
        have hB5 := hb4.trans (hb5.mono (show w.heap.size ≤ w4.heap.size by omega))
        have c5 : w5.cell? ⟨wx.heap.size, 0, none⟩ = some (.int .i64 (n : Int)) := (hb5.cell (by show wx.heap.size < w4.heap.size; omega)).trans c0
        have c5' : w5.cell? ⟨wx.heap.size, 1, none⟩ = some (.int .i64 (m : Int)) := (hb5.cell (by show wx.heap.size < w4.heap.size; omega)).trans c1
        push_cast -dsimp [c5, c5']
        refine ⟨by first | omega | (simp only [List.length_append, List.length_singleton] at hP ⊢; omega), fun hne => ?_, fun heq => ?_⟩
        · refine callK_of (fmtI_c m (by omega) w5 (h.below hB5 h.lt)) ?_
          rintro _ w6 ⟨rfl, hb6⟩
          have hB6 := hB5.trans (hb6.mono hB5.size)
          rw [if_pos (by omega)] at hT
          push_cast -dsimp
          refine ⟨by omega, by simp only [List.length_append, List.length_cons, List.length_nil]; first | omega | (simp only [List.length_append, List.length_cons, List.length_nil] at hP; omega), ⟨by omega, by omega⟩, ⟨i + 1, rfl, ?_, by omega, hB6⟩, by rw [h8]; simp only [intOf]; omega⟩
          rw [hT]
          simp
        · rw [if_neg (by omega)] at hT
          refine ⟨⟨by omega, by omega⟩, ⟨i + 1, rfl, ?_, by omega, hB5⟩, by rw [h8]; simp only [intOf]; omega⟩
          rw [hT]
          simp
    · have hin : i = s.length := by omega
      have hTl := textTo_len s i hi
      refine ⟨by omega, by simp only [List.length_append, List.length_singleton]; omega, ?_, hbx⟩
      unfold textTo printP
      rw [hin, List.take_length]
      simp
end Go.Proofs.YtiofleijieepgaaGreatDoor
end
section
set_option linter.unusedSimpArgs false
set_option linter.unusedVariables false
namespace Go.Vc
section
variable {P : Program}
/-- What a piece of code in a block leaves, where it leaves by that block's end; or what it throws. -/
def cutQ (id : Nat) (Q : EP) (M : List Nat) (t : Fr) (J : (Nat → Value) → World → Prop) (_ : Ph (Q, t, J)) : EP
  | .exit i, t', w' => i = id ∧ t' = ov t M (at_ t') ∧ J (at_ t') w'
  | .panic c, t', w' => Q (.panic c) t' w'
  | _, _, _ => False
theorem cutQ_exit {id : Nat} {Q : EP} {M : List Nat} {t t' : Fr} {w' : World} {J : (Nat → Value) → World → Prop} (p) : cutQ id Q M t J p (.exit id) t' w' = (t' = ov t M (at_ t') ∧ J (at_ t') w') := by simp [cutQ]
theorem cutQ_panic {id : Nat} {Q : EP} {M : List Nat} {t t' : Fr} {w' : World} {J : (Nat → Value) → World → Prop} (c) (p) : cutQ id Q M t J p (.panic c) t' w' = Q (.panic c) t' w' := (rfl)
attribute [push_cast] cutQ_exit cutQ_panic
end
end Go.Vc
end
section
/- Code piece by piece: what comes behind a piece is walked once. -/
namespace Go.Vc
open Go.RowKit
section
variable {P : Program} {t : Fr} {w : World} {Q : EP}
theorem wpL_of {c : Code} {p} (h : vc P c Q t w .mk) : wpL P c Q t w p := vc_ok c Q t w h
theorem wpL_seqW {a b : Code} {p} (h : wpL P a (seqQ (fun t w => wpL P b Q t w .mk) Q .mk) t w .mk) : wpL P (.seq a b) Q t w p := by
  unfold wpL at h ⊢
  refine wp_seq (Code.wp_mono ?_ h)
  rintro e a' w' ⟨hd, hh⟩
  cases e <;> simp only [seqQ] at hh <;> simp only [Exit.then] <;> first | exact ⟨hd, hh⟩ | skip
  rw [act_eq hd]
  exact hh
theorem wpL_seqV {a b : Code} {p} (h : vc P a (seqQ (fun t w => wpL P b Q t w .mk) Q .mk) t w .mk) : wpL P (.seq a b) Q t w p := wpL_seqW (vc_ok _ _ _ _ h)
theorem wpL_seqC {a b : Code} {p} (M : List Nat) (J : (Nat → Value) → World → Prop) (h1 : vc P a (fun e t' w' => e = .normal ∧ t' = ov t M (at_ t') ∧ J (at_ t') w') t w .mk)
    (h2 : ∀ z w', J z w' → wpL P b Q (ov t M z) w' .mk) : wpL P (.seq a b) Q t w p := by
  refine wpL_seqW (wpL_mono ?_ (vc_ok _ _ _ _ h1))
  rintro e t' w' ⟨rfl, ht, hJ⟩
  show wpL P b Q t' w' .mk
  rw [ht]
  exact h2 _ _ hJ
theorem wpL_blockW {i : Nat} {c : Code} {p} (h : wpL P c (blockQ i Q .mk) t w .mk) : wpL P (.block i c) Q t w p := by
  unfold wpL at h ⊢
  refine wp_block (Code.wp_mono ?_ h)
  rintro e a' w' ⟨hd, hh⟩
  cases e <;> simp only [blockQ] at hh <;> simp only [Exit.inBlock] <;> first | exact ⟨hd, hh⟩ | skip
  split at hh
  · rename_i e; simp only [e, if_true]; exact ⟨hd, hh⟩
  · rename_i e; simp only [e, if_false]; exact ⟨hd, hh⟩
theorem wpL_loopW {c : Code} {p} (M : List Nat) (I : (Nat → Value) → World → Prop) (μ : (Nat → Value) → World → Nat) (h0 : I (at_ t) w)
    (hr : ∀ z w', I z w' → wpL P c (seqQ (fun t'' w'' => t'' = ov t M (at_ t'') ∧ I (at_ t'') w'' ∧ μ (at_ t'') w'' < μ z w') Q .mk) (ov t M z) w' .mk) : wpL P (.loop c) Q t w p := by
  unfold wpL
  refine wp_loop (fun a w' => a.defers = [] ∧ a.tmps.toList = ov t M (at_ a.tmps.toList) ∧ I (at_ a.tmps.toList) w') (fun a w' => μ (at_ a.tmps.toList) w') ⟨rfl, by simp [ov_at], by simpa using h0⟩ ?_
  rintro a w' ⟨hd, ht, hI⟩
  have h1 := hr _ w' hI
  unfold wpL at h1
  rw [← ht] at h1
  rw [act_eq hd]
  refine Code.wp_mono ?_ h1
  rintro e a' w'' ⟨hd', hh⟩
  cases e <;> simp only [seqQ] at hh <;> simp only [Exit.then] <;> first | exact ⟨hd', hh⟩ | skip
  exact ⟨⟨hd', hh.1, hh.2.1⟩, by simpa using hh.2.2⟩
theorem fun_of_wL {f : FuncId} {fn : Func} {c : Code} {args : List Value} {R : VK} (hf : P.funcs[f]? = some fn) (hb : fn.body = some c) (hn : (fn.name == "runtime.NumGoroutine") = false)
    (rs : List Tmp) (hrs : fn.results = (rs.map ResultVar.tmp).toArray) (h : wpL P c (retN rs R .mk) (fr0 args fn.ntmps) w .mk) : Fun P f args w R := by
  refine ⟨callFunc_enter hf (by simp [hb]) hn, calls_of_wp hf hb ?_⟩
  unfold wpL at h
  have e : (args.toArray ++ Array.replicate (fn.ntmps - args.toArray.size) undef) = (fr0 args fn.ntmps).toArray := by simp [fr0]
  rw [e]
  refine Code.wp_mono ?_ h
  rintro e a w' ⟨hd, hh⟩
  have ha : a.tmps.toList.toArray = a.tmps := by simp
  cases e <;> simp only [retN] at hh <;> first | exact hh.elim | skip
  · exact ⟨hd, _, by rw [← ha]; exact results_run fn rs hrs _, _, rfl, hh⟩
  · exact ⟨hd, _, by rw [← ha]; exact results_run fn rs hrs _, _, rfl, hh⟩
theorem fun_of_wLC {f : FuncId} {fn : Func} {c : Code} {args : List Value} {R : VK} (hf : P.funcs[f]? = some fn) (hb : fn.body = some c) (hn : (fn.name == "runtime.NumGoroutine") = false)
    (rs : List ResultVar) (hrs : fn.results = rs.toArray) (h : wpL P c (retC P rs R .mk) (fr0 args fn.ntmps) w .mk) : Fun P f args w R := by
  refine ⟨callFunc_enter hf (by simp [hb]) hn, calls_of_wp hf hb ?_⟩
  unfold wpL at h
  have e : (args.toArray ++ Array.replicate (fn.ntmps - args.toArray.size) undef) = (fr0 args fn.ntmps).toArray := by simp [fr0]
  rw [e]
  refine Code.wp_mono ?_ h
  rintro e a w' ⟨hd, hh⟩
  have ha : a.tmps.toList.toArray = a.tmps := by simp
  cases e <;> simp only [retC] at hh <;> first | exact hh.elim | skip
  · obtain ⟨vs, hv, hk⟩ := resultsC_run fn rs hrs _ _ hh
    exact ⟨hd, _, by rw [← ha]; exact hv, _, rfl, hk⟩
  · obtain ⟨vs, hv, hk⟩ := resultsC_run fn rs hrs _ _ hh
    exact ⟨hd, _, by rw [← ha]; exact hv, _, rfl, hk⟩
end
end Go.Vc
end
section
/- A region in the midst of which an array is built, or one of its parts is read. -/
set_option linter.unusedSimpArgs false
set_option linter.unusedVariables false
namespace Go.Vc
open Go.RowKit
section
variable {P : Program}
theorem vcOps_app {ops l2 : List Oper} {K : Fr → World → Prop} {Q : EP} {next : Exit → Act → World → Prop} (hn : ∀ t w, K t w → wpList P ops.toArray next l2 ⟨t.toArray, []⟩ w) (hq : ∀ e a w, lift Q e a w → next e a w) :
    ∀ (l : List Oper) (t : Fr) (w : World), vcOps P ops K Q l t w .mk → wpList P ops.toArray next (l ++ l2) ⟨t.toArray, []⟩ w
  | [], t, w, h => hn t w h
  | o :: r, t, w, h => by
    have step : ∀ (t' : Fr), Region.wanted o (yielded ops.toArray t'.toArray) = true → opK P o t' w (fun v w' => vcOps P ops K Q r (put t' o.dst v) w' .mk) Q .mk → wpList P ops.toArray next (o :: (r ++ l2)) ⟨t'.toArray, []⟩ w := fun t' hw h' => by
      unfold wpList
      rw [if_pos hw]
      refine .inl ?_
      have := wp_of_opK (next := wpList P ops.toArray next (r ++ l2)) (fun v w' hk => vcOps_app hn hq r _ w' hk) h'
      unfold Oper.wp at this ⊢
      generalize (execOp _ o).run P w = res at this
      cases res with
      | ok n w' =>
        cases n <;> simp only [Oper.upon] at this ⊢ <;> first | exact this | skip
        exact this.mono fun e w'' he => by
          cases e with
          | returned v => exact he
          | panicked c => exact hq _ _ _ he
          | outgrown => obtain ⟨a₀, w₀, hh⟩ := he; exact ⟨a₀, w₀, hq _ _ _ hh⟩
      | halt x w' => cases x <;> simp only [Oper.upon] at this ⊢ <;> first | exact this | exact hq _ _ _ this
    have skip : ∀ (t' : Fr), Region.wanted o (yielded ops.toArray t'.toArray) = false → vcOps P ops K Q r (put t' o.dst undef) w .mk → wpList P ops.toArray next (o :: (r ++ l2)) ⟨t'.toArray, []⟩ w := fun t' hw h' => by
      unfold wpList
      rw [if_neg (by rw [hw]; simp)]
      rw [put_eq]
      exact vcOps_app hn hq r _ w h'
    simp only [vcOps] at h
    split at h
    · rename_i hg
      exact step t (by simp [Region.wanted, hg]) h
    · rename_i j want hg
      have hwant : ∀ t' : Fr, Region.wanted o (yielded ops.toArray t'.toArray) = (yielded ops.toArray t'.toArray j == some want) := fun t' => by simp only [Region.wanted, hg]
      unfold guardK at h
      split at h
      · rename_i hs
        exact skip t (by rw [hwant, yielded_eq, hs]; rfl) h
      · rename_i s hs
        split at h
        · rename_i b hb
          have hlt : s < t.length := by
            rcases Nat.lt_or_ge s t.length with h' | h'
            · exact h'
            · simp [List.getD_eq_getElem?_getD, List.getElem?_eq_none h', undef] at hb
          have hv : t[s]? = some (.bool b) := by
            rw [List.getD_eq_getElem?_getD] at hb
            rw [List.getElem?_eq_getElem hlt] at hb ⊢
            simpa using hb
          have hy : yielded ops.toArray t.toArray j = some b := by rw [yielded_eq, hs]; simp [hv]
          have same := set_getD_same t s hlt
          rw [hb] at same
          by_cases hbw : b = want
          · subst hbw
            have h1 := h.1 rfl
            rw [same] at h1
            exact step t (by rw [hwant, hy]; simp) h1
          · have hbn : b = !want := by cases b <;> cases want <;> simp_all
            have h2 := h.2 hbn
            rw [← hbn, same] at h2
            exact skip t (by rw [hwant, hy]; simpa using hbw) h2
        · rename_i hb
          refine skip t ?_ h
          rw [hwant, yielded_eq, hs]
          simp only [Option.bind_some]
          cases hv : t[s]? with
          | none => rfl
          | some v =>
            have : t.getD s undef = v := by rw [List.getD_eq_getElem?_getD, hv]; rfl
            rw [this] at hb
            cases v <;> simp at hb ⊢


theorem wpList_run {o : Oper} {l : List Oper} {ops : Array Oper} {t : Fr} {w : World} {K : Value → World → Prop} {Q : EP} {next : Exit → Act → World → Prop} (hg : o.guard = none) (hq : ∀ e a w, lift Q e a w → next e a w)
    (hn : ∀ v w', K v w' → wpList P ops next l ⟨(put t o.dst v).toArray, []⟩ w') (h : runK P o t w K Q .mk) : wpList P ops next (o :: l) ⟨t.toArray, []⟩ w := by
  unfold wpList
  rw [if_pos (by simp [Region.wanted, hg])]
  refine .inl ?_
  have : o.wp P ⟨t.toArray, []⟩ w (wpList P ops next l) (lift Q) := by
    unfold runK at h
    unfold Oper.wp
    rw [ev_eq]
    exact resK_upon hn h
  unfold Oper.wp at this ⊢
  generalize (execOp _ o).run P w = res at this
  cases res with
  | ok n w' =>
    cases n <;> simp only [Oper.upon] at this ⊢ <;> first | exact this | skip
    exact this.mono fun e w'' he => by
      cases e with
      | returned v => exact he
      | panicked c => exact hq _ _ _ he
      | outgrown => obtain ⟨a₀, w₀, hh⟩ := he; exact ⟨a₀, w₀, hq _ _ _ hh⟩
  | halt x w' => cases x <;> simp only [Oper.upon] at this ⊢ <;> first | exact this | exact hq _ _ _ this
/-- An operation in the midst is run as the model has it. -/
theorem wpL_build {id : Nat} {ops l1 l2 : List Oper} {o : Oper} {t : Fr} {w : World} {Q : EP} {p} (ho : ops = l1 ++ o :: l2) (hg : o.guard = none)
    (h : vcOps P ops (fun t w => runK P o t w (fun v w' => vcOps P ops (Q .normal) Q l2 (put t o.dst v) w' .mk) Q .mk) Q l1 t w .mk) : wpL P (.region id ops.toArray false) Q t w p := by
  unfold wpL
  refine wp_region_list ?_
  have e : ops.toArray.toList = l1 ++ o :: l2 := by rw [List.toList_toArray]; exact ho
  rw [e]
  refine vcOps_app (fun t w hk => ?_) (fun _ _ _ h => h) _ t w h
  exact wpList_run hg (fun _ _ _ h => h) (fun v w' hv => vcOps_ok (fun t w hk => ⟨rfl, by simpa using hk⟩) (fun _ _ _ h => h) _ _ w' hv) hk
/-- A part of an array. -/
theorem indexArr {d : Option TypeDesc} {n e : Nat} {x i : Value} {L : VP} {other : Prop} {p} (h : d = some (.array n e)) (hh : other) : indexK d x i L other p := by
  subst h
  exact hh
end
end Go.Vc
end
section
/- Regions that draw, where three operations may change places: every order is walked. -/
set_option linter.unusedSimpArgs false
set_option linter.unusedVariables false
namespace Go.Vc
open Go.RowKit
inductive Ord3 where
  | done
  | one (k : Nat) (r : Ord3)
  | two (k : Nat) (r : Ord3) (k' : Nat) (r' : Ord3)
  | three (k : Nat) (r : Ord3) (k' : Nat) (r' : Ord3) (k'' : Nat) (r'' : Ord3)
def ordB3 (P : Program) (ops : Array Oper) (bf : Array Nat) : Nat → Ord3 → Array Bool → Bool
  | _, .done, listed => (Region.ready .any ops listed).isEmpty
  | n + 1, .one k r, listed => (Region.ready .any ops listed).contains k && mixFree P ops bf listed k && ordB3 P ops bf n r (listed.setIfInBounds k true)
  | n + 1, .two k r k' r', listed => (Region.ready .any ops listed).contains k && (Region.ready .any ops listed).all (fun i => i == k || i == k') && ordB3 P ops bf n r (listed.setIfInBounds k true) && ordB3 P ops bf n r' (listed.setIfInBounds k' true)
  | n + 1, .three k r k' r' k'' r'', listed => (Region.ready .any ops listed).contains k && (Region.ready .any ops listed).all (fun i => i == k || i == k' || i == k'') && ordB3 P ops bf n r (listed.setIfInBounds k true) && ordB3 P ops bf n r' (listed.setIfInBounds k' true) && ordB3 P ops bf n r'' (listed.setIfInBounds k'' true)
  | _, _, _ => false
def mixT3 (P : Program) (ops : Array Oper) (o : Ord3) : Bool := Region.noSelect ops && ordB3 P ops (Region.before ops) ops.size o (Array.replicate ops.size false)
section
variable {P : Program} {ops : Array Oper} {C : World → Prop}
def wpTree3 (P : Program) (ops : Array Oper) (C : World → Prop) (R : Act → World → Prop) : Ord3 → Act → World → Prop
  | .done, a, w => R a w
  | .one k r, a, w => mixOp P ops C k (wpTree3 P ops C R r) a w
  | .two k r k' r', a, w => mixOp P ops C k (wpTree3 P ops C R r) a w ∧ mixOp P ops C k' (wpTree3 P ops C R r') a w
  | .three k r k' r' k'' r'', a, w => mixOp P ops C k (wpTree3 P ops C R r) a w ∧ mixOp P ops C k' (wpTree3 P ops C R r') a w ∧ mixOp P ops C k'' (wpTree3 P ops C R r'') a w
theorem wpMix_tree3 {R : Act → World → Prop} (hs : Region.noSelect ops = true) : ∀ (o : Ord3) (n : Nat) (listed : Array Bool) (a : Act) (w : World), C w → Shut ops listed →
    ordB3 P ops (Region.before ops) n o listed = true → wpTree3 P ops C R o a w → wpMix P .any ops C R n listed a w
  | .done, 0, listed, a, w, _, _, hB, h => ⟨by simpa [ordB3] using hB, h⟩
  | .done, n + 1, listed, a, w, _, _, hB, h => ⟨fun _ => h, fun i hi => by
      have : Region.ready .any ops listed = [] := by simpa [ordB3] using hB
      rw [this] at hi; cases hi⟩
  | .one k r, 0, _, _, _, _, _, hB, _ => by simp [ordB3] at hB
  | .two .., 0, _, _, _, _, _, hB, _ => by simp [ordB3] at hB
  | .three .., 0, _, _, _, _, _, hB, _ => by simp [ordB3] at hB
  | .one k r, n + 1, listed, a, w, hC, hS, hB, h => by
    simp only [ordB3, Bool.and_eq_true] at hB
    obtain ⟨⟨hr, hf⟩, hB'⟩ := hB
    have hr' : k ∈ Region.ready .any ops listed := by simpa using hr
    obtain ⟨_, ok, hok, _⟩ := mem_ready.1 hr'
    refine wpMix_first (i := k) (oi := ok) hok (Region.noSelect_spec hs) n listed a w hC hS (mixFree_spec hok hf) hr' ?_
    exact mixOp_mono hC (fun a' w' hC' hh => wpMix_tree3 hs r n _ a' w' hC' (hS.set hr') hB' hh) h
  | .two k r k' r', n + 1, listed, a, w, hC, hS, hB, h => by
    simp only [ordB3, Bool.and_eq_true, List.all_eq_true, Bool.or_eq_true, beq_iff_eq] at hB
    obtain ⟨⟨⟨hr, hall⟩, hB1⟩, hB2⟩ := hB
    have hr' : k ∈ Region.ready .any ops listed := by simpa using hr
    refine ⟨fun h0 => (by rw [h0] at hr'; cases hr'), fun i hi => ?_⟩
    rcases hall i hi with rfl | rfl
    · exact mixOp_mono hC (fun a' w' hC' hh => wpMix_tree3 hs r n _ a' w' hC' (hS.set hi) hB1 hh) h.1
    · exact mixOp_mono hC (fun a' w' hC' hh => wpMix_tree3 hs r' n _ a' w' hC' (hS.set hi) hB2 hh) h.2
  | .three k r k' r' k'' r'', n + 1, listed, a, w, hC, hS, hB, h => by
    simp only [ordB3, Bool.and_eq_true, List.all_eq_true, Bool.or_eq_true, beq_iff_eq] at hB
    obtain ⟨⟨⟨⟨hr, hall⟩, hB1⟩, hB2⟩, hB3⟩ := hB
    have hr' : k ∈ Region.ready .any ops listed := by simpa using hr
    refine ⟨fun h0 => (by rw [h0] at hr'; cases hr'), fun i hi => ?_⟩
    rcases hall i hi with (rfl | rfl) | rfl
    · exact mixOp_mono hC (fun a' w' hC' hh => wpMix_tree3 hs r n _ a' w' hC' (hS.set hi) hB1 hh) h.1
    · exact mixOp_mono hC (fun a' w' hC' hh => wpMix_tree3 hs r' n _ a' w' hC' (hS.set hi) hB2 hh) h.2.1
    · exact mixOp_mono hC (fun a' w' hC' hh => wpMix_tree3 hs r'' n _ a' w' hC' (hS.set hi) hB3 hh) h.2.2
end
section
variable {P : Program}
def vcTree3 (P : Program) (ops : List Oper) (C : World → Prop) (R : Fr → World → Prop) : (o : Ord3) → Fr → World → Ph (ops, C, R) → Prop
  | .done, t, w, _ => R t w
  | .one k r, t, w, _ => stepK P ops C ops[k]? (fun t w => vcTree3 P ops C R r t w .mk) t w .mk
  | .two k r k' r', t, w, _ => stepK P ops C ops[k]? (fun t w => vcTree3 P ops C R r t w .mk) t w .mk ∧ stepK P ops C ops[k']? (fun t w => vcTree3 P ops C R r' t w .mk) t w .mk
  | .three k r k' r' k'' r'', t, w, _ => stepK P ops C ops[k]? (fun t w => vcTree3 P ops C R r t w .mk) t w .mk ∧ stepK P ops C ops[k']? (fun t w => vcTree3 P ops C R r' t w .mk) t w .mk ∧ stepK P ops C ops[k'']? (fun t w => vcTree3 P ops C R r'' t w .mk) t w .mk
theorem wpTree3_of {ops : List Oper} {C : World → Prop} {R : Fr → World → Prop} {N : Act → World → Prop} (hn : ∀ t w, R t w → N ⟨t.toArray, []⟩ w) : ∀ (o : Ord3) (t : Fr) (w : World),
    vcTree3 P ops C R o t w .mk → wpTree3 P ops.toArray C N o ⟨t.toArray, []⟩ w
  | .done, t, w, h => hn t w h
  | .one k r, t, w, h => mixOp_of_stepK (fun t w => wpTree3_of hn r t w) h
  | .two k r k' r', t, w, h => ⟨mixOp_of_stepK (fun t w => wpTree3_of hn r t w) h.1, mixOp_of_stepK (fun t w => wpTree3_of hn r' t w) h.2⟩
  | .three k r k' r' k'' r'', t, w, h => ⟨mixOp_of_stepK (fun t w => wpTree3_of hn r t w) h.1, mixOp_of_stepK (fun t w => wpTree3_of hn r' t w) h.2.1, mixOp_of_stepK (fun t w => wpTree3_of hn r'' t w) h.2.2⟩
theorem wpL_tree3 {id : Nat} {l : List Oper} {t : Fr} {w : World} {Q : EP} {p} (o : Ord3) (C : World → Prop) (hm : P.follows .mixedOrders = true) (hB : mixT3 P l.toArray o = true) (hC : C w.drew)
    (h : vcTree3 P l C (Q .normal) o t w.drew .mk) : wpL P (.region id l.toArray true) Q t w p := by
  unfold wpL
  simp only [mixT3, Bool.and_eq_true] at hB
  refine wp_region_any hm (wpAny_of_mix (C := C) (R := fun a w => lift Q .normal a w) (fun _ _ h => h) _ _ _ _ hC ?_)
  refine wpMix_tree3 hB.1 o _ _ _ _ hC (fun j o _ hl => by simp [Array.getElem?_replicate] at hl; split at hl <;> simp at hl) hB.2 ?_
  exact wpTree3_of (R := Q .normal) (fun t w hk => ⟨rfl, by simpa using hk⟩) o t w.drew h
variable {t : Fr} {w : World} {C : World → Prop} {R : Fr → World → Prop}
theorem vcTree3_done (ops) (p) : vcTree3 P ops C R .done t w p = R t w := (rfl)
theorem vcTree3_one (ops k r) (p) : vcTree3 P ops C R (.one k r) t w p = stepK P ops C ops[k]? (fun t w => vcTree3 P ops C R r t w .mk) t w .mk := (rfl)
theorem vcTree3_two (ops k r k' r') (p) : vcTree3 P ops C R (.two k r k' r') t w p = (stepK P ops C ops[k]? (fun t w => vcTree3 P ops C R r t w .mk) t w .mk ∧ stepK P ops C ops[k']? (fun t w => vcTree3 P ops C R r' t w .mk) t w .mk) := (rfl)
theorem vcTree3_three (ops k r k' r' k'' r'') (p) : vcTree3 P ops C R (.three k r k' r' k'' r'') t w p = (stepK P ops C ops[k]? (fun t w => vcTree3 P ops C R r t w .mk) t w .mk ∧ stepK P ops C ops[k']? (fun t w => vcTree3 P ops C R r' t w .mk) t w .mk ∧ stepK P ops C ops[k'']? (fun t w => vcTree3 P ops C R r'' t w .mk) t w .mk) := (rfl)
attribute [push_cast] vcTree3_done vcTree3_one vcTree3_two vcTree3_three
attribute [irreducible] vcTree3
end
end Go.Vc
end
section
/- An instruction's text, and a program's, by the reference. -/
namespace Go.Proofs.YtiofleijieepgaaGreatDoor
open Go.Vc Go.Proofs Go.RowKit Cae
set_option maxRecDepth 100000
set_option linter.unusedSimpArgs false
set_option linter.unusedVariables false
attribute [local irreducible] wpL callK valK unitK runK Fun Sl Vc.Own vc vcOps opK pureK
set_option maxHeartbeats 8000000
theorem below_drewI (w : World) : Below w.heap.size w w.drew := ((Kept.refl (fun _ => False) w).drew).below (Nat.le_refl _) (fun _ h => h.elim)
theorem printR_len {s : List Rg} (h : s.length < 10000000) : (printP s).length ≤ 200000010 := by
  have := textTo_len s s.length (Nat.le_refl _)
  unfold textTo at this
  rw [List.take_length] at this
  unfold printP
  simp only [List.length_cons, List.length_append, List.length_nil]
  omega
theorem it1_c (sets : List (List Rg)) (a : Int) (s : List Rg) (ha : 0 ≤ a) (hs : sets[a.toNat]? = some s) (hl : s.length < 10000000) (hn : sets.length < 1000000000) (hr : setRight (-2) s = true) (X : Nat → Prop) (sv : Value) (p q : Nat) (w : World) (hv : SetsV X w sv sets) (hc : w.cell? ⟨p, 0, none⟩ = some sv) (hx : w.cell? ⟨q, 1, none⟩ = some (.int .i64 a)) (hd : Db w) :
    Fun Tryz.prog 75 [.pointer (some ⟨p, 0, none⟩), .pointer (some ⟨q, 0, none⟩)] w fun r w' => r = str ([116, 97, 107, 101] ++ 32 :: printP s) ∧ Below w.heap.size w w' := by
  obtain ⟨a1, c1, rfl, hc1⟩ := hv.shape
  obtain ⟨b, o, cs, ha', hX, hk, hcell, u, rfl, hu⟩ := Sl.getR hv hs
  subst ha'
  have hlt := (List.getElem?_eq_some_iff.1 hs).1
  have cu : w.cell? ⟨b, o + a.toNat, none⟩ = some u := by simpa using hcell 0 u rfl
  have hpl := printR_len hl
  obtain ⟨a2, c2, rfl, hc2⟩ := hu.shape
  refine fun_of_vc Tryz.func75 rfl (by kernel_rfl) [2] rfl ?_
  push_cast -dsimp (maxSteps := 4000000) [Tryz.ntmps75]
  push_cast -dsimp [hc, hx, cu, Nat.mul_one]
  refine ⟨⟨by omega, by omega⟩, ?_⟩
  refine callK_of (setTextR_c s hl hr X _ w hu hd) ?_
  rintro _ w1 ⟨rfl, hb1⟩
  push_cast -dsimp
  exact ⟨by omega, rfl, hb1⟩
theorem it2_c (s t : List UInt8) (hs : s.length ≤ 30) (ht : t.length ≤ 30) (p q : Addr) (w : World) (hp : w.cell? p = some (str s)) (hq : w.cell? q = some (str t)) :
    Fun Tryz.prog 77 [.pointer (some p), .pointer (some q)] w fun r w' => r = str ([115, 112, 108, 105, 116] ++ 32 :: (s ++ 32 :: t)) ∧ w' = w := by
  refine fun_of_vc Tryz.func77 rfl (by kernel_rfl) [2] rfl ?_
  push_cast -dsimp (maxSteps := 4000000) [Tryz.ntmps77]
  push_cast -dsimp [hp, hq]
  simp only [List.length_append, List.length_cons, List.length_nil]
  exact ⟨by omega, by omega, by omega, by simp⟩
theorem it3_c (s : List UInt8) (hs : s.length ≤ 30) (p : Addr) (w : World) (hp : w.cell? p = some (str s)) :
    Fun Tryz.prog 78 [.pointer (some p)] w fun r w' => r = str ([106, 117, 109, 112] ++ 32 :: s) ∧ w' = w := by
  refine fun_of_vc Tryz.func78 rfl (by kernel_rfl) [1] rfl ?_
  push_cast -dsimp (maxSteps := 4000000) [Tryz.ntmps78]
  push_cast -dsimp [hp]
  exact ⟨by omega, by simp⟩
theorem it4_c (w : World) : Fun Tryz.prog 79 [] w fun r w' => r = str [101, 110, 100] ∧ w' = w := by
  refine fun_of_vc Tryz.func79 rfl (by kernel_rfl) [0] rfl ?_
  push_cast -dsimp (maxSteps := 4000000) [Tryz.ntmps79]
theorem it5_c (w : World) : Fun Tryz.prog 80 [] w fun r w' => r = str [121, 101, 115] ∧ w' = w := by
  refine fun_of_vc Tryz.func80 rfl (by kernel_rfl) [0] rfl ?_
  push_cast -dsimp (maxSteps := 4000000) [Tryz.ntmps80]
theorem verdict_c (b : Bool) (w : World) : Fun Tryz.prog 44 [.bool b] w fun r w' => r = str (wordT b) ∧ w' = w := by
  cases b with
  | true => (refine fun_of_vc Tryz.func44 rfl (by kernel_rfl) [2] rfl ?_; push_cast -dsimp (maxSteps := 4000000) [Tryz.ntmps44]); trivial
  | false => (refine fun_of_vc Tryz.func44 rfl (by kernel_rfl) [2] rfl ?_; push_cast -dsimp (maxSteps := 4000000) [Tryz.ntmps44]); trivial
theorem instTextR_c (c : CodeP) (x : I3) (hop : 1 ≤ x.op ∧ x.op ≤ 5) (ha : x.op = 1 → 0 ≤ x.a ∧ x.a < c.sets.length) (h0 : -9223372036854775808 ≤ x.a ∧ x.a ≤ 9223372036854775807) (h1 : -9223372036854775808 ≤ x.b ∧ x.b ≤ 9223372036854775807) (hn : c.sets.length < 1000000000) (hr : ∀ s ∈ c.sets, setRight (-2) s = true ∧ s.length < 10000000) (X : Nat → Prop) (v : Value) (w : World)
    (hv : CodeV X w v c) (hd : Db w) (hp : Pw w) (hg : 14 ≤ w.heap.size) :
    Fun Tryz.prog 45 [v, .agg #[.int .i64 x.op, .int .i64 x.a, .int .i64 x.b]] w fun r w' => r = str (instL c.sets x) ∧ Below w.heap.size w w' := by
  obtain ⟨sv, iv, rfl, hsv, hiv⟩ := hv
  obtain ⟨a1, c1, rfl, hc1⟩ := hsv.shape
  obtain ⟨a2, c2, rfl, hc2⟩ := hiv.shape
  have l1 := Go.Lib.itoa_length_le x.a h0.1 h0.2
  have l2 := Go.Lib.itoa_length_le x.b h1.1 h1.2
  refine fun_of_wL Tryz.func45 rfl (by kernel_rfl) [4] rfl ?_
  push_cast -dsimp (maxSteps := 4000000) [Tryz.ntmps45]
  refine wpL_seqV ?_
  push_cast -dsimp
  refine boxK_of ?_
  intro w1 hw1
  have z1 := hw1.size
  have C1 : Blk w1 w.heap.size 43 [.slice a1 c.sets.length c1, .slice a2 c.ins.length c2] := hw1.blk
  push_cast -dsimp
  refine boxK_of ?_
  intro w2 hw2
  have z2 := hw2.size
  have X2 : Blk w2 w1.heap.size 89 [.int .i64 x.op, .int .i64 x.a, .int .i64 x.b] := hw2.blk
  have C2 := C1.below hw2.below (by omega)
  have b2 := hw1.below.trans (hw2.below.mono (by omega))
  push_cast -dsimp
  refine wpL_seqC [5, 6, 7, 8, 9, 10, 11, 12] (fun z w' => ∃ p, z 5 = .pointer (some ⟨p, 0, none⟩) ∧ ∃ q, z 6 = .pointer (some ⟨q, 0, none⟩) ∧ w'.cell? ⟨p, 0, none⟩ = some (str (itoaT x.a)) ∧ w'.cell? ⟨q, 0, none⟩ = some (str (itoaT x.b)) ∧ Below w2.heap.size w2 w') ?_ ?_
  · push_cast -dsimp
    have e1 : ∀ w'', Below w2.heap.size w2 w'' → w''.cell? ⟨w1.heap.size, 1, none⟩ = some (.int .i64 x.a) := fun w'' h => (X2.below h X2.lt).cell rfl
    have e2 : ∀ w'', Below w2.heap.size w2 w'' → w''.cell? ⟨w1.heap.size, 2, none⟩ = some (.int .i64 x.b) := fun w'' h => (X2.below h X2.lt).cell rfl
    have cb := below_drewI w2
    have hpw : ∀ w'', Below w2.heap.size w2 w'' → Pw w'' := fun w'' h => hp.below (b2.trans (h.mono b2.size)) hg
    refine wpL_tree3 (.one 0 (.one 1 (.one 3 (.one 4 (.three 2 (.three 5 (.two 6 (.one 7 (.one 8 (.one 9 .done))) 7 (.one 6 (.one 8 (.one 9 .done)))) 6 (.two 5 (.one 7 (.one 8 (.one 9 .done))) 7 (.one 5 (.one 8 (.one 9 .done)))) 7 (.two 5 (.one 6 (.one 8 (.one 9 .done))) 6 (.one 5 (.one 8 (.one 9 .done))))) 6 (.two 2 (.two 5 (.one 7 (.one 8 (.one 9 .done))) 7 (.one 5 (.one 8 (.one 9 .done)))) 7 (.one 2 (.one 5 (.one 8 (.one 9 .done))))) 7 (.two 2 (.two 5 (.one 6 (.one 8 (.one 9 .done))) 6 (.one 5 (.one 8 (.one 9 .done)))) 6 (.one 2 (.one 5 (.one 8 (.one 9 .done)))))))))) (fun w'' => Below w2.heap.size w2 w'') mixed (by kernel_rfl) cb ?_
    push_cast -dsimp [e1 _ cb, e2 _ cb]
    refine ⟨fun w'' h => by rw [e1 _ h]; exact rfl, fun w'' h => by rw [e2 _ h]; exact rfl, ?_⟩
    have al : ∀ {wn wm : World} {z : List Value}, Below w2.heap.size w2 wn → New wn wm 9 z → Below w2.heap.size w2 wm := fun h hn => h.trans (hn.below.mono h.size)
    have it : ∀ {wn wm : World}, Below w2.heap.size w2 wn → Below wn.heap.size wn wm → Below w2.heap.size w2 wm := fun h hn => h.trans (hn.mono h.size)
    iterate 4
      all_goals
        try refine ⟨?_, ?_, ?_⟩
        all_goals
          try refine ⟨?_, ?_⟩
          all_goals
            first
            | (refine callK_of (itoaN_c x.a h0.1 h0.2 _ (hpw _ cb)) ?_
               rintro _ wn ⟨rfl, bn⟩
               replace cb := it cb bn
               try replace p6 := p6.below bn p6.lt
               try replace p7 := p7.below bn p7.lt
               refine ⟨cb, ?_⟩
               push_cast -dsimp)
            | (refine callK_of (itoaN_c x.b h1.1 h1.2 _ (hpw _ cb)) ?_
               rintro _ wn ⟨rfl, bn⟩
               replace cb := it cb bn
               try replace p6 := p6.below bn p6.lt
               try replace p7 := p7.below bn p7.lt
               refine ⟨cb, ?_⟩
               push_cast -dsimp)
            | (refine allocK (z := [str []]) (by kernel_rfl) ?_
               intro wn hwn
               have zn := hwn.size
               have gn := cb.size
               first
               | (have n67 := p6.lt
                  replace p6 := p6.below hwn.below p6.lt
                  have p7 := hwn.blk)
               | have p6 := hwn.blk
               replace cb := al cb hwn
               refine ⟨cb, ?_⟩
               push_cast -dsimp)
    all_goals
      have l6 := p6.lt
      have l7 := p7.lt
      first
      | (refine storeK_of p6 (by simp) rfl ?_
         intro wn hwn
         have zn := hwn.size
         replace cb := cb.trans (hwn.kept.below (B := w2.heap.size) cb.size (fun i h => by omega))
         refine ⟨cb, ?_⟩
         push_cast -dsimp
         refine storeK_of (p7.kept hwn.kept (by omega)) (by simp) rfl ?_
         intro wm hwm
         have cm := cb.trans (hwm.kept.below (B := w2.heap.size) cb.size (fun i h => by omega))
         refine ⟨cm, ?_⟩
         push_cast -dsimp
         exact ⟨_, rfl, _, rfl, (hwn.blk.kept hwm.kept (by omega)).cell rfl, hwm.blk.cell rfl, cm⟩)
      | (refine storeK_of p7 (by simp) rfl ?_
         intro wn hwn
         have zn := hwn.size
         replace cb := cb.trans (hwn.kept.below (B := w2.heap.size) cb.size (fun i h => by omega))
         refine ⟨cb, ?_⟩
         push_cast -dsimp
         refine storeK_of (p6.kept hwn.kept (by omega)) (by simp) rfl ?_
         intro wm hwm
         have cm := cb.trans (hwm.kept.below (B := w2.heap.size) cb.size (fun i h => by omega))
         refine ⟨cm, ?_⟩
         push_cast -dsimp
         exact ⟨_, rfl, _, rfl, (hwn.blk.kept hwm.kept (by omega)).cell rfl, hwm.blk.cell rfl, cm⟩)
  · rintro z w8 ⟨p, h5, q, h6, hpc, hqc, b8⟩
    have z8 := b8.size
    have X8 := X2.below b8 X2.lt
    have C8 := C2.below b8 C2.lt
    have bw8 := b2.trans (b8.mono b2.size)
    obtain ⟨op, xa, xb⟩ := x
    have x0 : w8.cell? ⟨w1.heap.size, 0, none⟩ = some (.int .i64 op) := X8.cell rfl
    refine wpL_seqW ?_
    rcases (show op = 1 ∨ op = 2 ∨ op = 3 ∨ op = 4 ∨ op = 5 by have := hop.1; have := hop.2; simp only at *; omega) with rfl | rfl | rfl | rfl | rfl
    ·
      -- .func (.func 75) #[] #[.pointer (some ⟨w.heap.size, 0, none⟩), .pointer (some ⟨w1.heap.size, 0, none⟩)]: how many; $2: the value read
      refine wpL_build (l1 := [_, _, _]) rfl rfl ?_
      push_cast -dsimp [h5, h6]
      refine runK_value (w' := w8) (v := .agg #[.nilFunc, .func (.func 75) #[] #[.pointer (some ⟨w.heap.size, 0, none⟩), .pointer (some ⟨w1.heap.size, 0, none⟩)], .func (.func 77) #[] #[.pointer (some ⟨p, 0, none⟩), .pointer (some ⟨q, 0, none⟩)], .func (.func 78) #[] #[.pointer (some ⟨p, 0, none⟩)], .func (.func 79) #[] #[], .func (.func 80) #[] #[]]) (by kernel_rfl) ?_
      push_cast -dsimp [x0]
      refine indexArr (n := 6) (e := 82) (by kernel_rfl) ?_
      refine runK_value (w' := w8) (v := .func (.func 75) #[] #[.pointer (some ⟨w.heap.size, 0, none⟩), .pointer (some ⟨w1.heap.size, 0, none⟩)]) (by kernel_rfl) ?_
      push_cast -dsimp
      have hab := ha rfl
      simp only at hab
      have hgt := lt_get (l := c.sets) (i := xa.toNat) (by omega)
      obtain ⟨t, ht, htm, _⟩ := hgt
      refine callK_of (it1_c c.sets xa t hab.1 ht (hr t htm).2 hn (hr t htm).1 X _ _ _ w8 (SetsV.below hsv bw8) (C8.cell rfl) (X8.cell rfl) (hd.below bw8 (Nat.lt_of_lt_of_le (by decide) hg))) ?_
      rintro _ wz ⟨rfl, bz⟩
      have eI : instL c.sets ⟨1, xa, xb⟩ = [116, 97, 107, 101] ++ 32 :: printP t := by
        show [116, 97, 107, 101] ++ 32 :: printP (c.sets.getD xa.toNat []) = _
        rw [List.getD_eq_getElem?_getD, ht]; rfl
      rw [eI]
      push_cast -dsimp
      refine wpL_of ?_
      push_cast -dsimp
      exact bw8.trans (bz.mono bw8.size)
    ·
      -- .func (.func 77) #[] #[.pointer (some ⟨p, 0, none⟩), .pointer (some ⟨q, 0, none⟩)]: how many; $2: the value read
      refine wpL_build (l1 := [_, _, _]) rfl rfl ?_
      push_cast -dsimp [h5, h6]
      refine runK_value (w' := w8) (v := .agg #[.nilFunc, .func (.func 75) #[] #[.pointer (some ⟨w.heap.size, 0, none⟩), .pointer (some ⟨w1.heap.size, 0, none⟩)], .func (.func 77) #[] #[.pointer (some ⟨p, 0, none⟩), .pointer (some ⟨q, 0, none⟩)], .func (.func 78) #[] #[.pointer (some ⟨p, 0, none⟩)], .func (.func 79) #[] #[], .func (.func 80) #[] #[]]) (by kernel_rfl) ?_
      push_cast -dsimp [x0]
      refine indexArr (n := 6) (e := 82) (by kernel_rfl) ?_
      refine runK_value (w' := w8) (v := .func (.func 77) #[] #[.pointer (some ⟨p, 0, none⟩), .pointer (some ⟨q, 0, none⟩)]) (by kernel_rfl) ?_
      push_cast -dsimp
      refine callK_of (it2_c _ _ (by unfold itoaT; omega) (by unfold itoaT; omega) _ _ w8 hpc hqc) ?_
      rintro _ wz ⟨rfl, rfl⟩
      have eI : instL c.sets ⟨2, xa, xb⟩ = [115, 112, 108, 105, 116] ++ 32 :: (itoaT xa ++ 32 :: itoaT xb) := rfl
      rw [eI]
      push_cast -dsimp
      refine wpL_of ?_
      push_cast -dsimp
      exact bw8
    ·
      -- .func (.func 78) #[] #[.pointer (some ⟨p, 0, none⟩)]: how many; $2: the value read
      refine wpL_build (l1 := [_, _, _]) rfl rfl ?_
      push_cast -dsimp [h5, h6]
      refine runK_value (w' := w8) (v := .agg #[.nilFunc, .func (.func 75) #[] #[.pointer (some ⟨w.heap.size, 0, none⟩), .pointer (some ⟨w1.heap.size, 0, none⟩)], .func (.func 77) #[] #[.pointer (some ⟨p, 0, none⟩), .pointer (some ⟨q, 0, none⟩)], .func (.func 78) #[] #[.pointer (some ⟨p, 0, none⟩)], .func (.func 79) #[] #[], .func (.func 80) #[] #[]]) (by kernel_rfl) ?_
      push_cast -dsimp [x0]
      refine indexArr (n := 6) (e := 82) (by kernel_rfl) ?_
      refine runK_value (w' := w8) (v := .func (.func 78) #[] #[.pointer (some ⟨p, 0, none⟩)]) (by kernel_rfl) ?_
      push_cast -dsimp
      refine callK_of (it3_c _ (by unfold itoaT; omega) _ w8 hpc) ?_
      rintro _ wz ⟨rfl, rfl⟩
      have eI : instL c.sets ⟨3, xa, xb⟩ = [106, 117, 109, 112] ++ 32 :: itoaT xa := rfl
      rw [eI]
      push_cast -dsimp
      refine wpL_of ?_
      push_cast -dsimp
      exact bw8
    ·
      -- .func (.func 79) #[] #[]: how many; $2: the value read
      refine wpL_build (l1 := [_, _, _]) rfl rfl ?_
      push_cast -dsimp [h5, h6]
      refine runK_value (w' := w8) (v := .agg #[.nilFunc, .func (.func 75) #[] #[.pointer (some ⟨w.heap.size, 0, none⟩), .pointer (some ⟨w1.heap.size, 0, none⟩)], .func (.func 77) #[] #[.pointer (some ⟨p, 0, none⟩), .pointer (some ⟨q, 0, none⟩)], .func (.func 78) #[] #[.pointer (some ⟨p, 0, none⟩)], .func (.func 79) #[] #[], .func (.func 80) #[] #[]]) (by kernel_rfl) ?_
      push_cast -dsimp [x0]
      refine indexArr (n := 6) (e := 82) (by kernel_rfl) ?_
      refine runK_value (w' := w8) (v := .func (.func 79) #[] #[]) (by kernel_rfl) ?_
      push_cast -dsimp
      refine callK_of (it4_c w8) ?_
      rintro _ wz ⟨rfl, rfl⟩
      have eI : instL c.sets ⟨4, xa, xb⟩ = [101, 110, 100] := rfl
      rw [eI]
      push_cast -dsimp
      refine wpL_of ?_
      push_cast -dsimp
      exact bw8
    ·
      -- .func (.func 80) #[] #[]: how many; $2: the value read
      refine wpL_build (l1 := [_, _, _]) rfl rfl ?_
      push_cast -dsimp [h5, h6]
      refine runK_value (w' := w8) (v := .agg #[.nilFunc, .func (.func 75) #[] #[.pointer (some ⟨w.heap.size, 0, none⟩), .pointer (some ⟨w1.heap.size, 0, none⟩)], .func (.func 77) #[] #[.pointer (some ⟨p, 0, none⟩), .pointer (some ⟨q, 0, none⟩)], .func (.func 78) #[] #[.pointer (some ⟨p, 0, none⟩)], .func (.func 79) #[] #[], .func (.func 80) #[] #[]]) (by kernel_rfl) ?_
      push_cast -dsimp [x0]
      refine indexArr (n := 6) (e := 82) (by kernel_rfl) ?_
      refine runK_value (w' := w8) (v := .func (.func 80) #[] #[]) (by kernel_rfl) ?_
      push_cast -dsimp
      refine callK_of (it5_c w8) ?_
      rintro _ wz ⟨rfl, rfl⟩
      have eI : instL c.sets ⟨5, xa, xb⟩ = [121, 101, 115] := rfl
      rw [eI]
      push_cast -dsimp
      refine wpL_of ?_
      push_cast -dsimp
      exact bw8
theorem linesT_pre {l : List (List UInt8)} {j : Nat} {x : List UInt8} (h : l[j]? = some x) : (linesT (l.take j)).length + (x.length + 1) ≤ (linesT l).length ∧ linesT (l.take (j + 1)) = linesT (l.take j) ++ (x ++ [10]) := by
  have hlt := (List.getElem?_eq_some_iff.1 h).1
  obtain ⟨y, hy, _, hd, ht⟩ := lt_get hlt
  rw [h] at hy
  cases hy
  have e : linesT (l.take (j + 1)) = linesT (l.take j) ++ (x ++ [10]) := by rw [ht]; simp [linesT]
  refine ⟨?_, e⟩
  have e2 : linesT l = linesT (l.take (j + 1)) ++ linesT (l.drop (j + 1)) := by
    unfold linesT
    rw [← List.flatMap_append, List.take_append_drop]
  rw [e2, e]
  simp only [List.length_append, List.length_cons, List.length_nil]
  omega
end Go.Proofs.YtiofleijieepgaaGreatDoor
end
section
/- The reference's ParseSet. -/
namespace Go.Proofs.YtiofleijieepgaaGreatDoor
open Go.Vc Go.Proofs Go.RowKit Cae
set_option maxRecDepth 100000
set_option linter.unusedSimpArgs false
set_option linter.unusedVariables false
attribute [local irreducible] wpL callK valK unitK runK Fun Sl Vc.Own vc vcOps opK pureK
set_option maxHeartbeats 8000000
/-- What it answers: the set that is written so, or that there is none. -/
def ParseRR (B : Nat) (s : List UInt8) (r : Value) (w : World) : Prop :=
  (∃ v l, r = .tuple #[v, .int .i64 0] ∧ Vc.Own B 138 2 encR w v l ∧ PrintOf s l) ∨ (r = .tuple #[.slice none 0 0, .int .i64 3] ∧ ∀ l, ¬ PrintOf s l)
theorem parseSetR_c (s : List UInt8) (hs : s.length ≤ 1000000) (w : World) (hd : Db w) (he : SErrs w) (ht : Tv w) : Fun Tryz.prog 81 [str s] w fun r w' => ParseRR w.heap.size s r w' ∧ Below w.heap.size w w' := by
  refine fun_of_vc Tryz.func81 rfl (by kernel_rfl) [2, 3] rfl ?_
  push_cast -dsimp (maxSteps := 4000000) [Tryz.ntmps81]
  refine callK_of (trim_c s (by omega) w) ?_
  rintro _ w1 ⟨rfl, hb1⟩
  have sz1 := hb1.size
  have hlt := trimS_len s [91, 93]
  push_cast -dsimp
  refine callK_of (fields_c (Lib.trimS s [91, 93]) (by omega) w1 (ht.below hb1)) ?_
  rintro fv w2 ⟨ho2, hb2⟩
  have sz2 := hb2.size
  have hbw2 := hb1.trans (hb2.mono sz1)
  have hF : ∃ F, Lib.fieldsD (Lib.trimS s [91, 93]) = F := ⟨_, rfl⟩
  obtain ⟨F, hF⟩ := hF
  have hFn := fieldsD_count (Lib.trimS s [91, 93])
  have hFs : ∀ x ∈ F, x.length ≤ s.length := fun x hx => by rw [← hF] at hx; have := fieldsD_size hx; omega
  have hPF : ∀ l, PrintOf s l → F = l.map rgP := fun l hl => by rw [← hF, ← hl.2, trim_body hl.1, fields_body hl.1]
  rw [hF] at ho2 hFn
  have hsh := ho2.slice
  obtain ⟨fa, fc, rfl⟩ := hsh
  have hsl := ho2.sl
  push_cast -dsimp
  refine wpL_loop [2, 3, 4, 6, 7, 8, 9, 10, 11, 16, 17, 18, 19, 20, 21, 22, 23, 24, 25, 26, 27, 28, 29, 30, 31, 32, 33, 34, 35, 36, 37, 38, 39, 40, 41, 42, 43, 44, 45, 46, 47, 48, 49, 50, 51] (fun z wx => ∃ (i : Nat) (ov : Value) (out : List Rg), z 16 = .int .i64 i ∧ z 4 = ov ∧ i ≤ F.length ∧ out.length = i ∧ (∀ l, PrintOf s l → out = l.take i) ∧ Vc.Own w2.heap.size 138 2 encR wx ov out ∧ Below w2.heap.size w2 wx) (fun z _ => F.length - (intOf (z 16)).toNat) ?_ ?_
  · exact ⟨0, _, [], rfl, rfl, Nat.zero_le _, rfl, fun l _ => by simp, Vc.Own.nil (enc := encR) _ _ (fun _ => rfl) _, Below.refl _ _⟩
  · intro z wx hI
    obtain ⟨i, ov, out, h16, h4, hi, hol, hout, hox, hbx⟩ := hI
    have szx := hbx.size
    have hbwx := hbw2.trans (hbx.mono (by omega))
    push_cast -dsimp [h16, h4]
    refine ⟨fun hlt2 => ?_, fun hge => ?_⟩
    · have hg := lt_get (l := F) (i := i) (by omega)
      obtain ⟨t, htt, htm, _, hFt⟩ := hg
      have hts := hFs t htm
      have hg := (hsl.below hbx).get htt
      obtain ⟨b, o, rfl, _, hcell⟩ := hg
      have c0 : wx.cell? ⟨b, o + i, none⟩ = some (str t) := by simpa [encS] using hcell 0 _ rfl
      have et : t ++ [45] ++ t = t ++ 45 :: t := by simp
      have hpc := pieces_two t
      obtain ⟨a, b', r', hpc, hal, hbl⟩ := hpc
      have hkey : ∀ l, PrintOf s l → ∃ q, l[i]? = some q ∧ (0 ≤ q.1 ∧ q.1 ≤ q.2 ∧ q.2 ≤ 1114111) ∧ a = hexP q.1.toNat ∧ b' = hexP q.2.toNat := fun l hl => by
        have h1 := hPF l hl
        rw [h1, List.getElem?_map] at htt
        obtain ⟨q, hq, hqt⟩ := Option.map_eq_some_iff.1 htt
        have hr := mem_right (by omega) hl.1 q (List.mem_of_getElem? hq)
        have hm := pieces_rg (r := q) (by omega) (by omega) (by omega) hr.2.1
        obtain ⟨m, hm⟩ := hm
        rw [hqt, hpc] at hm
        simp only [List.cons.injEq] at hm
        exact ⟨q, hq, hr, hm.1, hm.2.1⟩
      push_cast -dsimp [c0, et]
      refine ⟨⟨by omega, by omega⟩, by omega, by simp only [List.length_append, List.length_cons, List.length_nil]; omega, ?_⟩
      refine callK_of (splitN_c t (by omega) wx (ht.below hbwx)) ?_
      rintro wv w3 ⟨hs3, hb3⟩
      have sz3 := hb3.size
      have hbw3 := hbwx.trans (hb3.mono hbwx.size)
      rw [hpc] at hs3
      have hsh := hs3.shape
      obtain ⟨pa, pc, rfl, _⟩ := hsh
      have hg := hs3.get (i := 0) rfl
      obtain ⟨pb, po, rfl, _, hc0⟩ := hg
      have hg := hs3.get (i := 1) rfl
      obtain ⟨_, _, hee, _, hc1⟩ := hg
      cases hee
      have ca : w3.cell? ⟨pb, po, none⟩ = some (str a) := by simpa [encS] using hc0 0 _ rfl
      have cb : w3.cell? ⟨pb, po + 1, none⟩ = some (str b') := by simpa [encS] using hc1 0 _ rfl
      have hpl : (a :: b' :: r').length = r'.length + 2 := rfl
      rw [hpl]
      push_cast -dsimp [ca]
      refine ⟨by omega, ?_⟩
      refine callK_of (parseInt_c 40 (.inr rfl) a (by omega) w3 (he.below hbw3)) ?_
      rintro _ w4 ⟨⟨v1, e1, rfl, he1, hx1⟩, hb4⟩
      have sz4 := hb4.size
      have hbw4 := hbw3.trans (hb4.mono hbw3.size)
      have cb4 : w4.cell? ⟨pb, po + 1, none⟩ = some (str b') := (hb4.cell (World.block_lt_of_cell? _ _ cb)).trans cb
      have et1 : Int.toNat 1 = 1 := rfl
      push_cast -dsimp [cb4, et1]
      refine ⟨by omega, ?_⟩
      refine callK_of (parseInt_c 40 (.inr rfl) b' (by omega) w4 (he.below hbw4)) ?_
      rintro _ w5 ⟨⟨v2, e2, rfl, he2, hx2⟩, hb5⟩
      have sz5 := hb5.size
      have hbw5 := hbw4.trans (hb5.mono hbw4.size)
      have bad1 : (∃ ty x, e1 = .iface ty x) → ∀ l, ¬ PrintOf s l := fun h l hl => by
        obtain ⟨ty, x, rfl⟩ := h
        obtain ⟨q, _, hr, ha, _⟩ := hkey l hl
        have := (hx1 q.1.toNat (by omega) ha).2
        cases this
      have bad2 : (∃ ty x, e2 = .iface ty x) → ∀ l, ¬ PrintOf s l := fun h l hl => by
        obtain ⟨ty, x, rfl⟩ := h
        obtain ⟨q, _, hr, _, hb⟩ := hkey l hl
        have := (hx2 q.2.toNat (by omega) hb).2
        cases this
      rcases he1 with rfl | he1
      · rcases he2 with rfl | he2
        · have hb35 : Below w2.heap.size wx w5 := (hb3.mono szx).trans ((hb4.mono (by omega)).trans (hb5.mono (by omega)))
          have ho5 := hox.below (hb3.trans ((hb4.mono (by omega)).trans (hb5.mono (by omega))))
          have hsh := ho5.slice
          obtain ⟨oa, oc, rfl⟩ := hsh
          push_cast -dsimp
          refine rowK elI_102 rfl rfl (by omega) ?_
          intro w7 hw7
          have sz7 := hw7.size
          have ho7 := ho5.new hw7
          push_cast -dsimp
          refine appendK2 (base := w2.heap.size) [(v1, v2)] (enc := encR) elI_102 ho7 (by rfl) (fun j u hu => by simpa [encR] using hw7.cell hu) encR_one (by simp only [List.length_cons, List.length_nil]; omega) (by omega) ?_
          intro v8 w8 ho8 hg8 _
          have k8 := Kept.grown hg8 (fun _ h => h)
          have hbx8 : Below w2.heap.size w2 w8 := (hbx.trans (hb35.trans (hw7.below.mono (by omega)))).trans (k8.below (by omega) (fun j h => (ho7.block j h).1))
          push_cast -dsimp
          refine ⟨⟨by omega, by omega⟩, ⟨i + 1, _, _, rfl, rfl, by omega, by simp; exact hol, fun l hl => ?_, ho8, hbx8⟩, by rw [h16]; simp only [intOf]; omega⟩
          obtain ⟨q, hq, hr, ha, hb⟩ := hkey l hl
          have h1 := (hx1 q.1.toNat (by omega) ha).1
          have h2 := (hx2 q.2.toNat (by omega) hb).1
          have eq : (v1, v2) = q := by
            rw [h1, h2]
            obtain ⟨x, y⟩ := q
            simp only at hr ⊢
            rw [Int.toNat_of_nonneg (by omega), Int.toNat_of_nonneg (by omega)]
          rw [hout l hl, List.take_add_one, hq, eq]
          rfl
        · obtain ⟨ty, x, rfl⟩ := he2
          push_cast -dsimp
          exact ⟨.inr ⟨rfl, bad2 ⟨_, _, rfl⟩⟩, hbw5⟩
      · obtain ⟨ty, x, rfl⟩ := he1
        push_cast -dsimp
        exact ⟨.inr ⟨rfl, bad1 ⟨_, _, rfl⟩⟩, hbw5⟩
    · have hall : ∀ l, PrintOf s l → out = l := fun l hl => by
        have h1 := congrArg List.length (hPF l hl)
        rw [List.length_map] at h1
        rw [hout l hl, List.take_of_length_le (by omega)]
      have hsh := hox.slice
      obtain ⟨oa, oc, rfl⟩ := hsh
      refine callK_of (rightSetR_c out (by omega) _ _ wx hox.sl) ?_
      rintro _ w3 ⟨rfl, hb3⟩
      have sz3 := hb3.size
      have hbw3 := hbwx.trans (hb3.mono hbwx.size)
      have ho3 := hox.below hb3
      cases hr : setRight (-2) out with
      | false =>
        push_cast -dsimp
        exact ⟨.inr ⟨rfl, fun l hl => by have := hall l hl; subst this; rw [hl.1] at hr; cases hr⟩, hbw3⟩
      | true =>
        push_cast -dsimp
        refine callK_of (setTextR_c out (by omega) hr _ _ w3 ho3.sl (hd.below hbw3 hd.lt)) ?_
        rintro _ w4 ⟨rfl, hb4⟩
        have hbw4 := hbw3.trans (hb4.mono hbw3.size)
        push_cast -dsimp
        refine ⟨fun hne => ?_, fun heq => ?_⟩
        · exact ⟨.inr ⟨rfl, fun l hl => by have := hall l hl; subst this; exact hne hl.2⟩, hbw4⟩
        · exact ⟨.inl ⟨_, out, rfl, (ho3.below hb4).mono (by omega), hr, Classical.not_not.1 heq⟩, hbw4⟩
end Go.Proofs.YtiofleijieepgaaGreatDoor
end
section
set_option linter.unusedSimpArgs false
set_option linter.unusedVariables false
namespace Cae

/-! An instruction, as the reference reads it: what is read, written, is the line. -/
def idxR (u : List Rg) (sets : List (List Rg)) : Nat := sets.findIdx fun t => printP t == printP u
def refI (c : CodeP) (s : List UInt8) : Option CodeP :=
  let w := splitB 32 s
  if w.headD [] = [116, 97, 107, 101] then match setP (s.drop (min s.length 5)) with
    | none => none
    | some u => if s.length < 5 ∨ s.getD 4 0 ≠ 32 then none
      else
        let sets := if idxR u c.sets < c.sets.length then c.sets else c.sets ++ [u]
        if instL sets ⟨1, idxR u c.sets, 0⟩ = s then some ⟨sets, c.ins ++ [⟨1, idxR u c.sets, 0⟩]⟩ else none
  else if w.headD [] = [115, 112, 108, 105, 116] then
    if 0 ≤ atoiV (w.getD 1 []) ∧ 0 ≤ atoiV (w.getD 2 []) ∧ instL c.sets ⟨2, atoiV (w.getD 1 []), atoiV (w.getD 2 [])⟩ = s then some ⟨c.sets, c.ins ++ [⟨2, atoiV (w.getD 1 []), atoiV (w.getD 2 [])⟩]⟩ else none
  else if w.headD [] = [106, 117, 109, 112] then
    if 0 ≤ atoiV (w.getD 1 []) ∧ instL c.sets ⟨3, atoiV (w.getD 1 []), 0⟩ = s then some ⟨c.sets, c.ins ++ [⟨3, atoiV (w.getD 1 []), 0⟩]⟩ else none
  else if w.headD [] = [101, 110, 100] then (if instL c.sets ⟨4, 0, 0⟩ = s then some ⟨c.sets, c.ins ++ [⟨4, 0, 0⟩]⟩ else none)
  else if w.headD [] = [121, 101, 115] then (if instL c.sets ⟨5, 0, 0⟩ = s then some ⟨c.sets, c.ins ++ [⟨5, 0, 0⟩]⟩ else none)
  else none
theorem split_cut (s : List UInt8) : splitB 32 s = if (cutP 32 s).2.2 then (cutP 32 s).1 :: splitB 32 (cutP 32 s).2.1 else [s] := by
  by_cases h : s.contains 32 = true
  · have h1 : cutP 32 s = (s.takeWhile (· != 32), (s.dropWhile (· != 32)).drop 1, true) := by unfold cutP; rw [if_pos h]
    rw [h1, if_pos rfl]
    conv => lhs; rw [takeWhile_split h]
    exact split_app (takeWhile_no s)
  · have h' : s.contains 32 = false := by simpa using h
    rw [cut_none h']
    exact split_no h'
theorem split_head (s : List UInt8) : (splitB 32 s).headD [] = (cutP 32 s).1 := by
  rw [split_cut]
  cases h : (cutP 32 s).2.2 with
  | true => rfl
  | false =>
    have := (cut_back 32 s).1
    rw [h] at this
    exact this
theorem dig_no {n : Nat} : ∀ c ∈ Go.Lib.decDigits n, 48 ≤ c.toNat ∧ c.toNat ≤ 57 := by
  induction n using Nat.strongRecOn with
  | ind n ih =>
    intro c hc
    rw [Go.Lib.decDigits] at hc
    split at hc
    · rw [List.mem_singleton.1 hc]
      simp
      omega
    · rcases List.mem_append.1 hc with hc | hc
      · exact ih (n / 10) (by omega) c hc
      · rw [List.mem_singleton.1 hc]
        simp
        omega
theorem itoa_no {v : Int} (h : 0 ≤ v) : (itoaT v).contains 32 = false := by
  have e : itoaT v = Go.Lib.decDigits v.toNat := by unfold itoaT Go.Lib.itoa; rw [if_neg (by omega)]
  rw [e]
  have : (32 : UInt8) ∉ Go.Lib.decDigits v.toNat := fun hm => by have := (dig_no _ hm).1; simp at this
  simpa using this
theorem numA_V {s : List UInt8} {v : Int} (h : numA s = some v) : atoiV s = v := by
  unfold numA at h
  unfold atoiV
  split at h
  · rename_i u hu
    rw [hu]
    split at h
    · cases h; rfl
    · cases h
  · cases h
theorem V_numA {s : List UInt8} {v : Int} (hv : atoiV s = v) (h0 : 0 ≤ v) (h : itoaT v = s) : numA s = some v := by
  unfold atoiV at hv
  unfold numA
  cases hu : Go.Lib.atoiAll s with
  | ok u =>
    rw [hu] at hv
    have hv : u = v := hv
    subst hv
    exact if_pos ⟨h0, h⟩
  | range =>
    rw [hu] at hv
    have hv : Go.Lib.atoiSat s = v := hv
    have hs : v = 9223372036854775807 := by
      rw [← hv]
      unfold Go.Lib.atoiSat
      split
      · rename_i h45
        rw [← hv] at h0
        unfold Go.Lib.atoiSat at h0
        rw [if_pos h45] at h0
        omega
      · rfl
    rw [hs] at h
    rw [← h] at hu
    exact absurd hu (by decide +kernel)
  | _ =>
    rw [hu] at hv
    have hv : (0 : Int) = v := hv
    subst hv
    rw [← h] at hu
    exact absurd hu (by decide +kernel)
theorem inst_last {c c' : CodeP} {s : List UInt8} {x : I3} {sets : List (List Rg)} (hc : WFc c) (h : instA c s = some c') (he : c' = ⟨sets, c.ins ++ [x]⟩) : instL sets x = s := by
  have h1 := (inst_read hc h).2.1
  rw [he] at h1
  unfold codeL at h1
  rw [List.map_append, List.map_singleton] at h1
  have := congrArg List.getLast? h1
  simpa using this
theorem idxR_eq {u : List Rg} (hu : setRight (-2) u = true) : ∀ {sets : List (List Rg)}, (∀ t ∈ sets, setRight (-2) t = true) → idxR u sets = idxS u sets
  | [], _ => rfl
  | t :: sets, h => by
    have ih := idxR_eq hu (sets := sets) fun x hx => h x (List.mem_cons_of_mem _ hx)
    unfold idxR idxS at ih ⊢
    rw [List.findIdx_cons, List.findIdx_cons, ih]
    have : (printP t == printP u) = (t == u) := by
      by_cases e : t = u
      · subst e; simp
      · have : printP t ≠ printP u := fun h' => e (print_inj (h t (List.mem_cons_self ..)) hu h')
        rw [beq_eq_false_iff_ne.2 this, beq_eq_false_iff_ne.2 e]
    rw [this]
theorem refI_eq {c : CodeP} {s : List UInt8} (hc : WFc c) (hr : ∀ t ∈ c.sets, setRight (-2) t = true) : refI c s = instA c s := by
  have hb := cut_back 32 s
  unfold refI
  dsimp only
  rw [split_head]
  by_cases h1 : (cutP 32 s).1 = [116, 97, 107, 101]
  · rw [if_pos h1]
    cases hf : (cutP 32 s).2.2 with
    | false =>
      have hs : s = [116, 97, 107, 101] := by rw [hf] at hb; rw [← h1]; exact hb.1
      subst hs
      have e1 : setP (List.drop (min [(116 : UInt8), 97, 107, 101].length 5) [116, 97, 107, 101]) = none := by decide +kernel
      have e2 : instA c [116, 97, 107, 101] = none := by
        unfold instA
        dsimp only
        rw [if_pos h1, hb.2 hf]
        have : setP [] = none := by decide +kernel
        rw [this]
      rw [e1, e2]
    | true =>
      have hs : s = [116, 97, 107, 101] ++ 32 :: (cutP 32 s).2.1 := by rw [hf, h1] at hb; exact hb.1
      have hd : s.drop (min s.length 5) = (cutP 32 s).2.1 := by
        have hl : 5 ≤ s.length := by rw [hs]; simp
        rw [Nat.min_eq_right hl]
        conv => lhs; rw [hs]
        rfl
      have h4 : ¬ (s.length < 5 ∨ s.getD 4 0 ≠ 32) := by
        rw [hs]; simp
      rw [hd]
      cases hu : setP (cutP 32 s).2.1 with
      | none =>
        unfold instA
        dsimp only
        rw [if_pos h1, hu]
      | some u =>
        have hi : instA c s = some ⟨if idxS u c.sets < c.sets.length then c.sets else c.sets ++ [u], c.ins ++ [⟨1, idxS u c.sets, 0⟩]⟩ := by
          unfold instA
          dsimp only
          rw [if_pos h1, hu]
        have hl := inst_last hc hi rfl
        dsimp only
        rw [if_neg h4, idxR_eq (setP_ok hu).1 hr, if_pos hl, hi]
  rw [if_neg h1]
  by_cases h2 : (cutP 32 s).1 = [115, 112, 108, 105, 116]
  · rw [if_pos h2]
    cases hi : instA c s with
    | some c' =>
      have hi0 := hi
      unfold instA at hi
      dsimp only at hi
      rw [if_neg h1, if_pos h2] at hi
      split at hi
      · rename_i a b ha hb'
        split at hi
        · rename_i ht
          cases hi
          have hf : (cutP 32 s).2.2 = true := by
            cases hf : (cutP 32 s).2.2 with
            | true => rfl
            | false => rw [hb.2 hf] at ht; simp [cutP] at ht
          have hw : splitB 32 s = [[115, 112, 108, 105, 116], (cutP 32 (cutP 32 s).2.1).1, (cutP 32 (cutP 32 s).2.1).2.1] := by
            rw [split_cut, hf, if_pos rfl, h2, split_cut (cutP 32 s).2.1, ht, if_pos rfl]
            have hy := numA_ok hb'
            have : ((cutP 32 (cutP 32 s).2.1).2.1).contains 32 = false := by rw [← hy.2]; exact itoa_no hy.1
            rw [split_no this]
          rw [hw]
          show (if 0 ≤ atoiV (cutP 32 (cutP 32 s).2.1).1 ∧ 0 ≤ atoiV (cutP 32 (cutP 32 s).2.1).2.1 ∧ instL c.sets ⟨2, atoiV (cutP 32 (cutP 32 s).2.1).1, atoiV (cutP 32 (cutP 32 s).2.1).2.1⟩ = s then _ else _) = _
          rw [numA_V ha, numA_V hb', if_pos ⟨(numA_ok ha).1, (numA_ok hb').1, inst_last hc hi0 rfl⟩]
          show some (⟨c.sets, c.ins ++ [⟨2, atoiV (cutP 32 (cutP 32 s).2.1).1, atoiV (cutP 32 (cutP 32 s).2.1).2.1⟩]⟩ : CodeP) = _
          rw [numA_V ha, numA_V hb']
        · cases hi
      · cases hi
    | none =>
      refine if_neg ?_
      rintro ⟨ha, hb', hl⟩
      generalize hA : atoiV ((splitB 32 s).getD 1 []) = a at ha hl
      generalize hB : atoiV ((splitB 32 s).getD 2 []) = b at hb' hl
      have hs : s = [115, 112, 108, 105, 116] ++ 32 :: (itoaT a ++ 32 :: itoaT b) := hl.symm
      have hc1 : cutP 32 s = ([115, 112, 108, 105, 116], itoaT a ++ 32 :: itoaT b, true) := by rw [hs]; exact cut_app (by decide) _
      have hc2 : cutP 32 (itoaT a ++ 32 :: itoaT b) = (itoaT a, itoaT b, true) := cut_app (itoa_no ha) _
      have hw : splitB 32 s = [[115, 112, 108, 105, 116], itoaT a, itoaT b] := by
        rw [split_cut, hc1]
        dsimp only
        rw [if_pos rfl, split_cut (itoaT a ++ 32 :: itoaT b), hc2]
        dsimp only
        rw [if_pos rfl, split_no (itoa_no hb')]
      rw [hw] at hA hB
      have na := V_numA hA ha rfl
      have nb := V_numA hB hb' rfl
      unfold instA at hi
      dsimp only at hi
      rw [hc1] at hi
      dsimp only at hi
      rw [if_neg (by decide), if_pos rfl, hc2] at hi
      dsimp only at hi
      have na' : numA (itoaT a) = some a := na
      have nb' : numA (itoaT b) = some b := nb
      rw [na', nb'] at hi
      cases hi
  rw [if_neg h2]
  by_cases h3 : (cutP 32 s).1 = [106, 117, 109, 112]
  · rw [if_pos h3]
    cases hi : instA c s with
    | some c' =>
      have hi0 := hi
      unfold instA at hi
      dsimp only at hi
      rw [if_neg h1, if_neg h2, if_pos h3] at hi
      split at hi
      · rename_i a ha
        cases hi
        have hf : (cutP 32 s).2.2 = true := by
          cases hf : (cutP 32 s).2.2 with
          | true => rfl
          | false => rw [hb.2 hf] at ha; simp [numA, Go.Lib.atoiAll] at ha
        have hy := numA_ok ha
        have hw : splitB 32 s = [[106, 117, 109, 112], (cutP 32 s).2.1] := by
          rw [split_cut, hf, if_pos rfl, h3]
          have : ((cutP 32 s).2.1).contains 32 = false := by rw [← hy.2]; exact itoa_no hy.1
          rw [split_no this]
        rw [hw]
        show (if 0 ≤ atoiV (cutP 32 s).2.1 ∧ instL c.sets ⟨3, atoiV (cutP 32 s).2.1, 0⟩ = s then _ else _) = _
        rw [numA_V ha, if_pos ⟨hy.1, inst_last hc hi0 rfl⟩]
        show some (⟨c.sets, c.ins ++ [⟨3, atoiV (cutP 32 s).2.1, 0⟩]⟩ : CodeP) = _
        rw [numA_V ha]
      · cases hi
    | none =>
      refine if_neg ?_
      rintro ⟨ha, hl⟩
      generalize hA : atoiV ((splitB 32 s).getD 1 []) = a at ha hl
      have hs : s = [106, 117, 109, 112] ++ 32 :: itoaT a := hl.symm
      have hc1 : cutP 32 s = ([106, 117, 109, 112], itoaT a, true) := by rw [hs]; exact cut_app (by decide) _
      have hw : splitB 32 s = [[106, 117, 109, 112], itoaT a] := by
        rw [split_cut, hc1]
        dsimp only
        rw [if_pos rfl, split_no (itoa_no ha)]
      rw [hw] at hA
      have na : numA (itoaT a) = some a := V_numA hA ha rfl
      unfold instA at hi
      dsimp only at hi
      rw [hc1] at hi
      dsimp only at hi
      rw [if_neg (by decide), if_neg (by decide), if_pos rfl, na] at hi
      cases hi
  rw [if_neg h3]
  by_cases h4 : (cutP 32 s).1 = [101, 110, 100]
  · rw [if_pos h4]
    unfold instA
    dsimp only
    rw [if_neg h1, if_neg h2, if_neg h3, if_pos h4]
    have hl : instL c.sets ⟨4, 0, 0⟩ = [101, 110, 100] := rfl
    rw [hl]
    cases hf : (cutP 32 s).2.2 with
    | false =>
      have : s = [101, 110, 100] := by rw [hf] at hb; rw [← h4]; exact hb.1
      rw [if_pos this.symm]; rfl
    | true =>
      have : s = [101, 110, 100] ++ 32 :: (cutP 32 s).2.1 := by rw [hf, h4] at hb; exact hb.1
      rw [if_neg (by rw [this]; simp)]; rfl
  rw [if_neg h4]
  by_cases h5 : (cutP 32 s).1 = [121, 101, 115]
  · rw [if_pos h5]
    unfold instA
    dsimp only
    rw [if_neg h1, if_neg h2, if_neg h3, if_neg h4, if_pos h5]
    have hl : instL c.sets ⟨5, 0, 0⟩ = [121, 101, 115] := rfl
    rw [hl]
    cases hf : (cutP 32 s).2.2 with
    | false =>
      have : s = [121, 101, 115] := by rw [hf] at hb; rw [← h5]; exact hb.1
      rw [if_pos this.symm]; rfl
    | true =>
      have : s = [121, 101, 115] ++ 32 :: (cutP 32 s).2.1 := by rw [hf, h5] at hb; exact hb.1
      rw [if_neg (by rw [this]; simp)]; rfl
  · rw [if_neg h5]
    unfold instA
    dsimp only
    rw [if_neg h1, if_neg h2, if_neg h3, if_neg h4, if_neg h5]
end Cae
end
section
namespace Go.Proofs.YtiofleijieepgaaGreatDoor
open Go.Vc Go.Proofs Go.RowKit Cae
set_option maxRecDepth 100000
set_option linter.unusedSimpArgs false
set_option linter.unusedVariables false
attribute [local irreducible] wpL callK valK unitK runK Fun Sl Vc.Own vc vcOps opK pureK
set_option maxHeartbeats 4000000

/-- small, as the statements ask. -/
def smallP (c : CodeP) : Bool := decide (c.sets.length ≤ 20 ∧ c.ins.length ≤ 60) && c.sets.all fun s => decide (s.length ≤ 20)

end Go.Proofs.YtiofleijieepgaaGreatDoor
end
section
namespace Go.Proofs.YtiofleijieepgaaGreatDoor
open Go.Vc Go.Proofs Go.RowKit Cae
set_option maxRecDepth 100000
set_option linter.unusedSimpArgs false
set_option linter.unusedVariables false
attribute [local irreducible] wpL callK valK unitK runK Fun Sl Vc.Own vc vcOps opK pureK
set_option maxHeartbeats 4000000
end Go.Proofs.YtiofleijieepgaaGreatDoor
end
section
namespace Go.Proofs.YtiofleijieepgaaGreatDoor
open Go.Vc Go.Proofs Go.RowKit Cae
set_option maxRecDepth 100000
set_option linter.unusedSimpArgs false
set_option linter.unusedVariables false
attribute [local irreducible] wpL callK valK unitK runK Fun Sl Vc.Own vc vcOps opK pureK
set_option maxHeartbeats 4000000
theorem small_lenC {c : CodeP} (h : smallP c = true) : SetsLen c ∧ c.ins.length ≤ 60 ∧ c.sets.length ≤ 20 := by
  unfold smallP at h
  simp only [Bool.and_eq_true, decide_eq_true_eq, List.all_eq_true] at h
  exact ⟨fun s hs => by have := h.2 s hs; omega, h.1.2, h.1.1⟩
end Go.Proofs.YtiofleijieepgaaGreatDoor
end
section
namespace Go.Proofs.YtiofleijieepgaaGreatDoor
open Go.Vc Go.Proofs Go.RowKit Cae
set_option maxRecDepth 100000
set_option linter.unusedSimpArgs false
set_option linter.unusedVariables false
attribute [local irreducible] wpL callK valK unitK runK Fun Sl Vc.Own vc vcOps opK pureK
set_option maxHeartbeats 4000000

end Go.Proofs.YtiofleijieepgaaGreatDoor
end
section
namespace Go.Vc
open Go.RowKit
end Go.Vc
namespace Go.Proofs.YtiofleijieepgaaGreatDoor
open Go.Vc Go.Proofs Go.RowKit Cae
set_option maxRecDepth 100000
set_option linter.unusedSimpArgs false
set_option linter.unusedVariables false
attribute [local irreducible] wpL callK valK unitK runK Fun Sl Vc.Own vc vcOps opK pureK
set_option maxHeartbeats 8000000

end Go.Proofs.YtiofleijieepgaaGreatDoor
end
section
namespace Go.Proofs.YtiofleijieepgaaGreatDoor
open Go.Vc Go.Proofs Go.RowKit Cae
set_option maxRecDepth 100000
set_option linter.unusedSimpArgs false
set_option linter.unusedVariables false
attribute [local irreducible] wpL callK valK unitK runK Fun Sl Vc.Own vc vcOps opK pureK
set_option maxHeartbeats 8000000
/-- smallProgram, as the statements ask. -/
def smallProgP (p : ProgP) : Bool := decide (p.rules.length ≤ 25) && p.rules.all fun r => smallP r.before && smallP r.after

theorem smallProg_spec {p : ProgP} (h : smallProgP p = true) : p.rules.length ≤ 25 ∧ ∀ r ∈ p.rules, smallP r.before = true ∧ smallP r.after = true := by
  unfold smallProgP at h
  simp only [Bool.and_eq_true, decide_eq_true_eq, List.all_eq_true] at h
  exact h
theorem smallCode_len {c : CodeP} (h : smallP c = true) : CodeLen c := by
  have hs := small_lenC h
  exact ⟨hs.1, by omega, by omega⟩
theorem smallProg_len {p : ProgP} (h : smallProgP p = true) : ProgLen p := by
  obtain ⟨h1, h2⟩ := smallProg_spec h
  exact ⟨by omega, fun r hr => ⟨smallCode_len (h2 r hr).1, smallCode_len (h2 r hr).2⟩⟩
end Go.Proofs.YtiofleijieepgaaGreatDoor
end
section
set_option linter.unusedSimpArgs false
set_option linter.unusedVariables false
namespace Cae

/-! What a line adds, by its name. -/
theorem instA_take {c : CodeP} {s : List UInt8} (h : (cutP 32 s).1 = [116, 97, 107, 101]) : instA c s = match setP (cutP 32 s).2.1 with
    | none => none
    | some t => some ⟨if idxS t c.sets < c.sets.length then c.sets else c.sets ++ [t], c.ins ++ [⟨1, idxS t c.sets, 0⟩]⟩ := by
  unfold instA; dsimp only; rw [if_pos h]; cases setP (cutP 32 s).2.1 <;> rfl
theorem instA_split {c : CodeP} {s : List UInt8} (h : (cutP 32 s).1 = [115, 112, 108, 105, 116]) : instA c s = match numA (cutP 32 (cutP 32 s).2.1).1, numA (cutP 32 (cutP 32 s).2.1).2.1 with
    | some a, some b => if (cutP 32 (cutP 32 s).2.1).2.2 then some ⟨c.sets, c.ins ++ [⟨2, a, b⟩]⟩ else none
    | _, _ => none := by
  unfold instA; dsimp only; rw [if_neg (by rw [h]; decide), if_pos h]; cases numA (cutP 32 (cutP 32 s).2.1).1 <;> cases numA (cutP 32 (cutP 32 s).2.1).2.1 <;> rfl
theorem instA_jump {c : CodeP} {s : List UInt8} (h : (cutP 32 s).1 = [106, 117, 109, 112]) : instA c s = match numA (cutP 32 s).2.1 with
    | some a => some ⟨c.sets, c.ins ++ [⟨3, a, 0⟩]⟩
    | none => none := by
  unfold instA; dsimp only; rw [if_neg (by rw [h]; decide), if_neg (by rw [h]; decide), if_pos h]; cases numA (cutP 32 s).2.1 <;> rfl
theorem instA_end {c : CodeP} {s : List UInt8} (h : (cutP 32 s).1 = [101, 110, 100]) : instA c s = if (cutP 32 s).2.2 then none else some ⟨c.sets, c.ins ++ [⟨4, 0, 0⟩]⟩ := by
  unfold instA; dsimp only; rw [if_neg (by rw [h]; decide), if_neg (by rw [h]; decide), if_neg (by rw [h]; decide), if_pos h]
theorem instA_yes {c : CodeP} {s : List UInt8} (h : (cutP 32 s).1 = [121, 101, 115]) : instA c s = if (cutP 32 s).2.2 then none else some ⟨c.sets, c.ins ++ [⟨5, 0, 0⟩]⟩ := by
  unfold instA; dsimp only; rw [if_neg (by rw [h]; decide), if_neg (by rw [h]; decide), if_neg (by rw [h]; decide), if_neg (by rw [h]; decide), if_pos h]
theorem setP_right {s : List UInt8} {t : List Rg} (h : setP s = some t) : setRight (-2) t = true := by
  by_cases hx : ∃ l, PrintOf s l
  · obtain ⟨l, hl⟩ := hx
    rw [setP_of hl] at h
    cases h
    exact hl.1
  · rw [setP_no (fun l hl => hx ⟨l, hl⟩)] at h
    cases h
/-- Reading keeps: no more sets than instructions, an instruction a line, sets as they may be. -/
def Few (c : CodeP) : Prop := c.sets.length ≤ c.ins.length ∧ ∀ t ∈ c.sets, setRight (-2) t = true
theorem few_nil : Few ⟨[], []⟩ := ⟨Nat.le_refl _, fun t h => by cases h⟩
theorem instA_grow {c c' : CodeP} {s : List UInt8} (h : instA c s = some c') (hc : Few c) : Few c' ∧ c'.ins.length = c.ins.length + 1 := by
  have plain : ∀ x : I3, Few ⟨c.sets, c.ins ++ [x]⟩ ∧ (c.ins ++ [x]).length = c.ins.length + 1 := fun x => ⟨⟨by have := hc.1; show c.sets.length ≤ (c.ins ++ [x]).length; rw [List.length_append]; omega, hc.2⟩, by simp⟩
  unfold instA at h
  dsimp only at h
  split at h
  · split at h
    · cases h
    · rename_i t ht
      simp only [Option.some.injEq] at h
      subst h
      refine ⟨⟨?_, ?_⟩, by simp⟩
      · have := hc.1
        show (if idxS t c.sets < c.sets.length then c.sets else c.sets ++ [t]).length ≤ _
        split <;> simp <;> omega
      · intro u hu
        have hu : u ∈ (if idxS t c.sets < c.sets.length then c.sets else c.sets ++ [t]) := hu
        split at hu
        · exact hc.2 u hu
        · rw [List.mem_append, List.mem_singleton] at hu
          rcases hu with hu | rfl
          · exact hc.2 u hu
          · exact setP_right ht
  · split at h
    · split at h
      · split at h
        · simp only [Option.some.injEq] at h; subst h; exact plain _
        · cases h
      · cases h
    · split at h
      · split at h
        · simp only [Option.some.injEq] at h; subst h; exact plain _
        · cases h
      · split at h
        · split at h
          · cases h
          · simp only [Option.some.injEq] at h; subst h; exact plain _
        · split at h
          · split at h
            · cases h
            · simp only [Option.some.injEq] at h; subst h; exact plain _
          · cases h
theorem codeA_grow : ∀ {l l' : List (List UInt8)} {c c' : CodeP}, codeA c l = .ok (c', l') → Few c → Few c' ∧ c'.ins.length + l'.length = c.ins.length + l.length
  | [], l', c, c', h, hc => by
    rw [codeA] at h
    simp only [Except.ok.injEq, Prod.mk.injEq] at h
    obtain ⟨rfl, rfl⟩ := h
    exact ⟨hc, rfl⟩
  | s :: l, l', c, c', h, hc => by
    rw [codeA] at h
    split at h
    · simp only [Except.ok.injEq, Prod.mk.injEq] at h
      obtain ⟨rfl, rfl⟩ := h
      exact ⟨hc, rfl⟩
    · split at h
      · cases h
      · rename_i d hd
        obtain ⟨h1, h2⟩ := instA_grow hd hc
        obtain ⟨h3, h4⟩ := codeA_grow h h1
        exact ⟨h3, by rw [List.length_cons]; omega⟩
theorem codeA_err : ∀ {l : List (List UInt8)} {c : CodeP} {e : Nat}, codeA c l = .error e → e ≤ l.length
  | [], c, e, h => by rw [codeA] at h; cases h
  | s :: l, c, e, h => by
    rw [codeA] at h
    split at h
    · cases h
    · split at h
      · simp only [Except.error.injEq] at h
        subst h
        rw [List.length_cons]
        omega
      · have := codeA_err h
        rw [List.length_cons]
        omega
theorem pair_less {l l' : List (List UInt8)} {r : PairP} (h : pairA l = .ok (r, l')) : l'.length < l.length := by
  have := pair_read h
  subst this
  unfold pairL
  simp
  omega
theorem pair_few {l l' : List (List UInt8)} {r : PairP} (h : pairA l = .ok (r, l')) : Few r.before ∧ Few r.after ∧ r.before.ins.length + r.after.ins.length ≤ l.length := by
  unfold pairA at h
  split at h
  · cases h
  · rename_i b l1 h1
    split at h
    · cases h
    · rename_i c l2 h2
      split at h
      · cases h
      · rename_i l3 h3
        split at h
        · cases h
        · rename_i d l4 h4
          simp only [Except.ok.injEq, Prod.mk.injEq] at h
          obtain ⟨rfl, rfl⟩ := h
          obtain ⟨f1, g1⟩ := codeA_grow h2 few_nil
          obtain ⟨f2, g2⟩ := codeA_grow h4 few_nil
          have e1 := says_read h1
          have e3 := after_read h3
          have m1 := congrArg List.length e1
          have m3 := congrArg List.length e3
          simp only [List.length_cons, List.length_nil] at m1 m3 g1 g2
          exact ⟨f1, f2, by show c.ins.length + d.ins.length ≤ _; omega⟩
def FewP (n : Nat) (rs : List PairP) : Prop := rs.length ≤ n ∧ ∀ r ∈ rs, Few r.before ∧ Few r.after ∧ r.before.ins.length + r.after.ins.length ≤ n
theorem rulesA_few : ∀ {n N : Nat} {acc rs : List PairP} {l l' : List (List UInt8)}, rulesA n acc l = .ok (rs, l') → FewP N acc → acc.length + l.length ≤ N → FewP N rs
  | 0, N, acc, rs, l, l', h, ha, hl => by
    rw [rulesA] at h
    simp only [Except.ok.injEq, Prod.mk.injEq] at h
    obtain ⟨rfl, rfl⟩ := h
    exact ha
  | n + 1, N, acc, rs, l, l', h, ha, hl => by
    rw [rulesA] at h
    split at h
    · split at h
      · cases h
      · rename_i r m hm
        have hlt := pair_less hm
        have hf := pair_few hm
        refine rulesA_few h ⟨by rw [List.length_append]; simp; omega, fun x hx => ?_⟩ (by rw [List.length_append]; simp; omega)
        rw [List.mem_append, List.mem_singleton] at hx
        rcases hx with hx | rfl
        · exact ha.2 x hx
        · exact ⟨hf.1, hf.2.1, by omega⟩
    · simp only [Except.ok.injEq, Prod.mk.injEq] at h
      obtain ⟨rfl, rfl⟩ := h
      exact ha
theorem bodyA_few {l : List (List UInt8)} {p : ProgP} (h : bodyA l = .ok p) : FewP l.length p.rules := by
  unfold bodyA at h
  split at h
  · cases h
  · rename_i rs l1 h1
    have := rulesA_few (N := l.length) h1 ⟨Nat.zero_le _, fun r hr => by cases hr⟩ (by simp)
    split at h
    · cases h
    · split at h
      · simp only [Except.ok.injEq] at h; subst h; exact this
      · cases h
/-! Where reading goes, step by step. -/
theorem says_err {w : List UInt8} {l : List (List UInt8)} (h1 : ∀ l', l ≠ (w ++ wordT true) :: l') (h2 : ∀ l', l ≠ (w ++ wordT false) :: l') : saysA w l = .error l.length := by
  cases l with
  | nil => rfl
  | cons s l =>
    rw [saysA, if_neg (fun h => h1 l (by rw [h])), if_neg (fun h => h2 l (by rw [h]))]
    rfl
theorem after_err {l : List (List UInt8)} (h : ∀ l', l ≠ afterW :: l') : afterA l = .error l.length := by
  cases l with
  | nil => rfl
  | cons s l =>
    rw [afterA, if_neg (fun e => h l (by rw [e]))]
    rfl
theorem after_put (l : List (List UInt8)) : afterA (afterW :: l) = .ok l := by rw [afterA, if_pos rfl]
theorem pair_e1 {l : List (List UInt8)} {e : Nat} (h : saysA ruleW l = .error e) : pairA l = .error e := by unfold pairA; simp only [h]
theorem pair_e2 {l l1 : List (List UInt8)} {b : Bool} {e : Nat} (h1 : saysA ruleW l = .ok (b, l1)) (h2 : codeA ⟨[], []⟩ l1 = .error e) : pairA l = .error e := by unfold pairA; simp only [h1, h2]
theorem pair_e3 {l l1 l2 : List (List UInt8)} {b : Bool} {c : CodeP} {e : Nat} (h1 : saysA ruleW l = .ok (b, l1)) (h2 : codeA ⟨[], []⟩ l1 = .ok (c, l2)) (h3 : afterA l2 = .error e) : pairA l = .error e := by unfold pairA; simp only [h1, h2, h3]
theorem pair_e4 {l l1 l2 l3 : List (List UInt8)} {b : Bool} {c : CodeP} {e : Nat} (h1 : saysA ruleW l = .ok (b, l1)) (h2 : codeA ⟨[], []⟩ l1 = .ok (c, l2)) (h3 : afterA l2 = .ok l3) (h4 : codeA ⟨[], []⟩ l3 = .error e) : pairA l = .error e := by unfold pairA; simp only [h1, h2, h3, h4]
theorem pair_ok {l l1 l2 l3 l4 : List (List UInt8)} {b : Bool} {c d : CodeP} (h1 : saysA ruleW l = .ok (b, l1)) (h2 : codeA ⟨[], []⟩ l1 = .ok (c, l2)) (h3 : afterA l2 = .ok l3) (h4 : codeA ⟨[], []⟩ l3 = .ok (d, l4)) : pairA l = .ok (⟨b, c, d⟩, l4) := by unfold pairA; simp only [h1, h2, h3, h4]
theorem rules_err {n : Nat} {acc : List PairP} {l : List (List UInt8)} {e : Nat} (hn : l.length ≤ n) (hs : ruleStartA l = true) (h : pairA l = .error e) : rulesA n acc l = .error e := by
  cases n with
  | zero =>
    have : l = [] := List.eq_nil_of_length_eq_zero (by omega)
    subst this; cases hs
  | succ n => rw [rulesA, if_pos hs]; simp only [h]
theorem rules_next {n : Nat} {acc : List PairP} {l l' : List (List UInt8)} {r : PairP} (hn : l.length ≤ n) (hs : ruleStartA l = true) (h : pairA l = .ok (r, l')) : ∃ m, rulesA n acc l = rulesA m (acc ++ [r]) l' ∧ l'.length ≤ m := by
  have hlt := pair_less h
  cases n with
  | zero => omega
  | succ n => exact ⟨n, by rw [rulesA, if_pos hs]; simp only [h], by omega⟩
theorem rules_end {n : Nat} {acc : List PairP} {l : List (List UInt8)} (hs : ruleStartA l = false) : rulesA n acc l = .ok (acc, l) := by
  cases n with
  | zero => rw [rulesA]
  | succ n => rw [rulesA, if_neg (by rw [hs]; simp)]
theorem body_e1 {L : List (List UInt8)} {e : Nat} (h : rulesA L.length [] L = .error e) : bodyA L = .error e := by unfold bodyA; simp only [h]
theorem body_e2 {L l : List (List UInt8)} {rs : List PairP} {e : Nat} (h : rulesA L.length [] L = .ok (rs, l)) (h2 : saysA elseW l = .error e) : bodyA L = .error e := by unfold bodyA; simp only [h, h2]
theorem body_e3 {L l : List (List UInt8)} {rs : List PairP} {b : Bool} {s : List UInt8} {l2 : List (List UInt8)} (h : rulesA L.length [] L = .ok (rs, l)) (h2 : saysA elseW l = .ok (b, s :: l2)) : bodyA L = .error (l2.length + 1) := by
  unfold bodyA; simp only [h, h2]; simp
theorem body_ok {L l : List (List UInt8)} {rs : List PairP} {b : Bool} (h : rulesA L.length [] L = .ok (rs, l)) (h2 : saysA elseW l = .ok (b, [])) : bodyA L = .ok ⟨rs, b⟩ := by
  unfold bodyA; simp only [h, h2]; simp
theorem parse_e {s : List UInt8} {e : Nat} (h : bodyA (linesA s) = .error e) : parseA s = .form ((linesA s).length - e) := by unfold parseA; simp only [h]
theorem parse_no {s : List UInt8} {p : ProgP} (h : bodyA (linesA s) = .ok p) (hs : ¬ s.getLast? = some 10) : parseA s = .form (linesA s).length := by unfold parseA; simp only [h]; rw [if_neg hs]
theorem parse_arg {s : List UInt8} {p : ProgP} (h : bodyA (linesA s) = .ok p) (hs : s.getLast? = some 10) (hp : progRight p = false) : parseA s = .arg := by unfold parseA; simp only [h]; rw [if_pos hs, if_neg (by rw [hp]; simp)]
theorem parse_yes {s : List UInt8} {p : ProgP} (h : bodyA (linesA s) = .ok p) (hs : s.getLast? = some 10) (hp : progRight p = true) : parseA s = .ok p := by unfold parseA; simp only [h]; rw [if_pos hs, if_pos hp]
/-! How long a text is. -/
theorem linesA_len (s : List UInt8) : (linesA s).length ≤ s.length + 1 := by
  have := splitB_len 10 (trimA s)
  have h2 : (trimA s).length ≤ s.length := by
    unfold trimA
    split <;> simp
  unfold linesA
  omega
theorem linesA_mem {s : List UInt8} : ∀ t ∈ linesA s, t.length ≤ s.length := by
  have key : ∀ (s : List UInt8), ∀ t ∈ splitB 10 s, t.length ≤ s.length := by
    intro s
    induction s with
    | nil => intro t ht; simp [splitB] at ht; subst ht; simp
    | cons b r ih =>
      intro t ht
      rw [splitB] at ht
      split at ht
      · rw [List.mem_cons] at ht
        rcases ht with rfl | ht
        · simp
        · have := ih t ht; simp; omega
      · split at ht
        · simp at ht; subst ht; simp
        · rename_i p ps hps
          rw [hps] at ih
          rw [List.mem_cons] at ht
          rcases ht with rfl | ht
          · have := ih p List.mem_cons_self; simp; omega
          · have := ih t (List.mem_cons_of_mem _ ht); simp; omega
  intro t ht
  have := key (trimA s) t ht
  have h2 : (trimA s).length ≤ s.length := by
    unfold trimA
    split <;> simp
  omega
theorem linesT_len {l : List (List UInt8)} {m : Nat} (h : ∀ t ∈ l, t.length + 1 ≤ m) : (linesT l).length ≤ l.length * m := by
  induction l with
  | nil => simp [linesT]
  | cons t l ih =>
    have h1 := h t List.mem_cons_self
    have h2 := ih (fun x hx => h x (List.mem_cons_of_mem _ hx))
    have e : linesT (t :: l) = t ++ 10 :: linesT l := by simp [linesT]
    rw [e, List.length_append, List.length_cons, List.length_cons, Nat.add_mul]
    omega
theorem printP_len (s : List Rg) : (printP s).length ≤ s.length * 20 + 2 := by
  have key : ∀ l : List Rg, (Go.Lib.join (l.map rgP) [32]).length ≤ l.length * 20 := by
    intro l
    induction l with
    | nil => simp [Go.Lib.join]
    | cons r l ih =>
      have h1 := rgP_len r
      cases l with
      | nil => simp [Go.Lib.join_one]; omega
      | cons r2 l =>
        rw [List.map_cons, List.map_cons, Go.Lib.join_cons]
        rw [List.map_cons, Go.Lib.join_cons] at ih
        simp only [Go.Lib.joinTail, List.map_cons, List.flatten_cons, List.length_append, List.length_cons, List.length_nil] at ih ⊢
        omega
  have := key s
  unfold printP
  simp only [List.length_cons, List.length_append, List.length_nil]
  omega
theorem inst_len {c : CodeP} (hc : codeRight c = true) (hs : ∀ s ∈ c.sets, s.length ≤ 20) {x : I3} (hx : x ∈ c.ins) : (instL c.sets x).length + 1 ≤ 408 := by
  obtain ⟨h1, h2, h3, _⟩ := code_parts hc
  obtain ⟨op, a, b⟩ := x
  rcases ins_cases (h2 _ hx) (by omega) with hh | hh | hh | hh | hh
  · obtain ⟨t, ht, hr, hlt⟩ := take_set hc hx hh.1
    have h0 := hh.1
    simp only at h0 ht hlt
    subst h0
    have e : instL c.sets ⟨1, a, b⟩ = [116, 97, 107, 101] ++ 32 :: printP t := by
      show [116, 97, 107, 101] ++ 32 :: printP (c.sets.getD a.toNat []) = _
      rw [ht]
    have hm : t ∈ c.sets := by
      rw [← ht, List.getD_eq_getElem?_getD, List.getElem?_eq_getElem hlt]
      exact List.getElem_mem _
    have := hs t hm
    have := printP_len t
    rw [e]
    simp only [List.length_append, List.length_cons, List.length_nil]
    omega
  · have h0 := hh.1
    simp only at h0 hh
    subst h0
    have := Go.Lib.itoa_length_le a (by omega) (by omega)
    have := Go.Lib.itoa_length_le b (by omega) (by omega)
    have e : instL c.sets ⟨2, a, b⟩ = [115, 112, 108, 105, 116] ++ 32 :: (itoaT a ++ 32 :: itoaT b) := rfl
    rw [e]
    unfold itoaT
    simp only [List.length_append, List.length_cons, List.length_nil]
    omega
  · have h0 := hh.1
    simp only at h0 hh
    subst h0
    have := Go.Lib.itoa_length_le a (by omega) (by omega)
    have e : instL c.sets ⟨3, a, b⟩ = [106, 117, 109, 112] ++ 32 :: itoaT a := rfl
    rw [e]
    unfold itoaT
    simp only [List.length_append, List.length_cons, List.length_nil]
    omega
  · have h0 := hh.1
    simp only at h0
    subst h0
    have e : instL c.sets ⟨4, a, b⟩ = [101, 110, 100] := rfl
    rw [e]; decide
  · have h0 := hh.1
    simp only at h0
    subst h0
    have e : instL c.sets ⟨5, a, b⟩ = [121, 101, 115] := rfl
    rw [e]; decide
end Cae
namespace Go.Proofs.YtiofleijieepgaaGreatDoor
open Go.Vc Go.Proofs Go.RowKit Cae
set_option maxRecDepth 100000
set_option linter.unusedSimpArgs false
set_option linter.unusedVariables false
attribute [local irreducible] wpL callK valK unitK runK Fun Sl Vc.Own vc vcOps opK pureK
theorem smallC_spec {c : CodeP} (h : smallP c = true) : c.sets.length ≤ 20 ∧ c.ins.length ≤ 60 ∧ ∀ s ∈ c.sets, s.length ≤ 20 := by
  unfold smallP at h
  simp only [Bool.and_eq_true, decide_eq_true_eq, List.all_eq_true] at h
  exact ⟨h.1.1, h.1.2, h.2⟩
theorem smallCode_text {c : CodeP} (h : smallP c = true) (hc : codeRight c = true) : (linesT (codeL c)).length ≤ 24480 := by
  obtain ⟨h1, h2, h3⟩ := smallC_spec h
  have := linesT_len (l := codeL c) (m := 408) (fun t ht => by
    unfold codeL at ht
    obtain ⟨x, hx, rfl⟩ := List.mem_map.1 ht
    exact inst_len hc h3 hx)
  have e : (codeL c).length = c.ins.length := by simp [codeL]
  rw [e] at this
  omega
theorem wordT_len (b : Bool) : (wordT b).length ≤ 5 := by cases b <;> decide
theorem smallProg_text {p : ProgP} (h : smallProgP p = true) (hr : progRight p = true) : (progT p).length ≤ 990000 := by
  obtain ⟨h1, h2⟩ := smallProg_spec h
  obtain ⟨h3, h4⟩ := right_parts hr
  have key : ∀ l : List PairP, (∀ r ∈ l, r ∈ p.rules) → (linesT (l.flatMap pairL)).length ≤ l.length * 49000 := by
    intro l
    induction l with
    | nil => intro _; simp [linesT]
    | cons r l ih =>
      intro hl
      have hm := hl r List.mem_cons_self
      have i1 := ih (fun x hx => hl x (List.mem_cons_of_mem _ hx))
      have i2 := smallCode_text (h2 r hm).1 (h4 r hm).1
      have i3 := smallCode_text (h2 r hm).2 (h4 r hm).2
      have i4 := wordT_len r.brk
      have e : linesT ((r :: l).flatMap pairL) = (ruleW ++ wordT r.brk ++ [10]) ++ (linesT (codeL r.before) ++ ((afterW ++ [10]) ++ (linesT (codeL r.after) ++ linesT (l.flatMap pairL)))) := by
        simp [linesT, pairL]
      rw [e]
      simp only [List.length_append, List.length_cons, List.length_nil, ruleW, afterW, Nat.add_mul]
      omega
  have k := key p.rules (fun _ h => h)
  have e : progT p = linesT (p.rules.flatMap pairL) ++ (elseW ++ wordT p.els ++ [10]) := by simp [progT, progL, linesT]
  have i4 := wordT_len p.els
  rw [e]
  simp only [List.length_append, List.length_cons, List.length_nil, elseW]
  omega
theorem few_len {c : CodeP} (h : Few c) (hn : c.ins.length < 1000000000) : CodeLen c := ⟨fun s hs => by have := right_len (h.2 s hs); omega, hn, by have := h.1; omega⟩
theorem fewP_len {n : Nat} {p : ProgP} (h : FewP n p.rules) (hn : n < 1000000000) : ProgLen p := ⟨by have := h.1; omega, fun r hr => by
  obtain ⟨h1, h2, h3⟩ := h.2 r hr
  exact ⟨few_len h1 (by omega), few_len h2 (by omega)⟩⟩
end Go.Proofs.YtiofleijieepgaaGreatDoor
end
section
set_option linter.unusedSimpArgs false
set_option linter.unusedVariables false
namespace Cae

/-! An instruction as the reference reads it, step by step. -/
def nameI : Nat → List UInt8
  | 0 => [116, 97, 107, 101]
  | 1 => [115, 112, 108, 105, 116]
  | 2 => [106, 117, 109, 112]
  | 3 => [101, 110, 100]
  | 4 => [121, 101, 115]
  | _ => []
def opOf (h : List UInt8) : Nat := if h = [116, 97, 107, 101] then 1 else if h = [115, 112, 108, 105, 116] then 2 else if h = [106, 117, 109, 112] then 3 else if h = [101, 110, 100] then 4 else if h = [121, 101, 115] then 5 else 0
def opS (h : List UInt8) (i : Nat) : Nat := if opOf h ≤ i then opOf h else 0
theorem opOf_le (h : List UInt8) : opOf h ≤ 5 := by
  unfold opOf
  repeat' split
  all_goals omega
theorem opOf_back {h : List UInt8} {i : Nat} (e : opOf h = i + 1) : nameI i = h := by
  unfold opOf at e
  split at e
  · rename_i q; rw [q]; (obtain rfl : i = 0 := (by omega)); rfl
  split at e
  · rename_i q; rw [q]; (obtain rfl : i = 1 := (by omega)); rfl
  split at e
  · rename_i q; rw [q]; (obtain rfl : i = 2 := (by omega)); rfl
  split at e
  · rename_i q; rw [q]; (obtain rfl : i = 3 := (by omega)); rfl
  split at e
  · rename_i q; rw [q]; (obtain rfl : i = 4 := (by omega)); rfl
  · omega
theorem opS_ne {h : List UInt8} (i : Nat) (hne : nameI i ≠ h) : opS h (i + 1) = opS h i := by
  have : opOf h ≠ i + 1 := fun e => hne (opOf_back e)
  unfold opS
  split <;> split <;> omega
theorem opS_eq {h : List UInt8} (i : Nat) (hi : i < 5) (he : nameI i = h) : opS h (i + 1) = i + 1 := by
  subst he
  rcases (show i = 0 ∨ i = 1 ∨ i = 2 ∨ i = 3 ∨ i = 4 by omega) with rfl | rfl | rfl | rfl | rfl <;> decide
theorem opS_zero (h : List UInt8) : opS h 0 = 0 := by unfold opS; split <;> omega
theorem opS_five (h : List UInt8) : opS h 5 = opOf h := by
  have := opOf_le h
  unfold opS
  rw [if_pos this]
/-- The first set from a place on that is written as one is. -/
def fR (u : List Rg) (sets : List (List Rg)) (k : Nat) : Nat := k + (sets.drop k).findIdx fun t => printP t == printP u
theorem fR_zero (u : List Rg) (sets : List (List Rg)) : fR u sets 0 = idxR u sets := by simp [fR, idxR]
theorem fR_len (u : List Rg) (sets : List (List Rg)) : fR u sets sets.length = sets.length := by simp [fR]
theorem fR_step {u t : List Rg} {sets : List (List Rg)} {k : Nat} (h : sets.drop k = t :: sets.drop (k + 1)) : fR u sets k = if printP t = printP u then k else fR u sets (k + 1) := by
  unfold fR
  rw [h, List.findIdx_cons]
  by_cases e : printP t = printP u
  · rw [if_pos e, e]; simp
  · rw [if_neg e, beq_eq_false_iff_ne.2 e]
    simp only [cond_false]
    omega
theorem idxR_le (u : List Rg) (sets : List (List Rg)) : idxR u sets ≤ sets.length := List.findIdx_le_length
theorem pad_get {l : List (List UInt8)} {i : Nat} (hi : i < l.length + 3) : (l ++ [[], [], []])[i]? = some (l.getD i []) := by
  rw [List.getD_eq_getElem?_getD]
  by_cases h : i < l.length
  · rw [List.getElem?_append_left h, List.getElem?_eq_getElem h]; rfl
  · rw [List.getElem?_append_right (by omega), List.getElem?_eq_none (show l.length ≤ i by omega)]
    rcases (show i - l.length = 0 ∨ i - l.length = 1 ∨ i - l.length = 2 by omega) with e | e | e <;> rw [e] <;> rfl
/-- An instruction is there: is it written so? -/
def finI (c : CodeP) (x : I3) (s : List UInt8) : Option CodeP := if 0 ≤ x.a ∧ 0 ≤ x.b ∧ instL c.sets x = s then some ⟨c.sets, c.ins ++ [x]⟩ else none
theorem refI_0 {c : CodeP} {s : List UInt8} (h : opOf ((splitB 32 s).headD []) = 0) : refI c s = none := by
  unfold refI
  dsimp only
  unfold opOf at h
  repeat' split at h
  all_goals first | omega | skip
  rename_i h1 h2 h3 h4 h5
  rw [if_neg h1, if_neg h2, if_neg h3, if_neg h4, if_neg h5]
theorem refI_1n {c : CodeP} {s : List UInt8} (h : opOf ((splitB 32 s).headD []) = 1) (hu : setP (s.drop (min s.length 5)) = none ∨ s.length < 5 ∨ s.getD 4 0 ≠ 32) : refI c s = none := by
  unfold refI
  dsimp only
  rw [if_pos (show (splitB 32 s).headD [] = [116, 97, 107, 101] from (opOf_back (i := 0) h).symm)]
  cases hs : setP (s.drop (min s.length 5)) with
  | none => rfl
  | some u =>
    rcases hu with hu | hu
    · rw [hs] at hu; cases hu
    · dsimp only
      rw [if_pos hu]
theorem refI_1 {c : CodeP} {s : List UInt8} {u : List Rg} (h : opOf ((splitB 32 s).headD []) = 1) (hu : setP (s.drop (min s.length 5)) = some u) (h5 : ¬ (s.length < 5 ∨ s.getD 4 0 ≠ 32)) :
    refI c s = finI ⟨if idxR u c.sets < c.sets.length then c.sets else c.sets ++ [u], c.ins⟩ ⟨1, idxR u c.sets, 0⟩ s := by
  unfold refI finI
  dsimp only
  rw [if_pos (show (splitB 32 s).headD [] = [116, 97, 107, 101] from (opOf_back (i := 0) h).symm), hu]
  dsimp only
  rw [if_neg h5]
  have : ((0 : Int) ≤ (idxR u c.sets : Nat)) := Int.natCast_nonneg _
  simp [this]
theorem refI_2 {c : CodeP} {s : List UInt8} (h : opOf ((splitB 32 s).headD []) = 2) : refI c s = finI c ⟨2, atoiV ((splitB 32 s).getD 1 []), atoiV ((splitB 32 s).getD 2 [])⟩ s := by
  unfold refI finI
  dsimp only
  have e : (splitB 32 s).headD [] = [115, 112, 108, 105, 116] := (opOf_back (i := 1) h).symm
  rw [e, if_neg (by decide), if_pos rfl]
theorem refI_3 {c : CodeP} {s : List UInt8} (h : opOf ((splitB 32 s).headD []) = 3) : refI c s = finI c ⟨3, atoiV ((splitB 32 s).getD 1 []), 0⟩ s := by
  unfold refI finI
  dsimp only
  have e : (splitB 32 s).headD [] = [106, 117, 109, 112] := (opOf_back (i := 2) h).symm
  rw [e, if_neg (by decide), if_neg (by decide), if_pos rfl]
  simp
theorem refI_4 {c : CodeP} {s : List UInt8} (h : opOf ((splitB 32 s).headD []) = 4) : refI c s = finI c ⟨4, 0, 0⟩ s := by
  unfold refI finI
  dsimp only
  have e : (splitB 32 s).headD [] = [101, 110, 100] := (opOf_back (i := 3) h).symm
  rw [e, if_neg (by decide), if_neg (by decide), if_neg (by decide), if_pos rfl]
  simp
theorem refI_5 {c : CodeP} {s : List UInt8} (h : opOf ((splitB 32 s).headD []) = 5) : refI c s = finI c ⟨5, 0, 0⟩ s := by
  unfold refI finI
  dsimp only
  have e : (splitB 32 s).headD [] = [121, 101, 115] := (opOf_back (i := 4) h).symm
  rw [e, if_neg (by decide), if_neg (by decide), if_neg (by decide), if_neg (by decide), if_pos rfl]
  simp
theorem atoiV_in (s : List UInt8) : -9223372036854775808 ≤ atoiV s ∧ atoiV s ≤ 9223372036854775807 := by
  unfold atoiV
  split
  · rename_i h; exact Go.Lib.atoiAll_bounds h
  · unfold Go.Lib.atoiSat
    split <;> omega
  · omega
theorem split_mem {s : List UInt8} {i : Nat} : ((splitB 32 s).getD i []).length ≤ s.length := by
  have key : ∀ (s : List UInt8), ∀ t ∈ splitB 32 s, t.length ≤ s.length := by
    intro s
    induction s with
    | nil => intro t ht; simp [splitB] at ht; subst ht; simp
    | cons b r ih =>
      intro t ht
      rw [splitB] at ht
      split at ht
      · rcases List.mem_cons.1 ht with rfl | ht
        · simp
        · have := ih t ht; rw [List.length_cons]; omega
      · cases hs : splitB 32 r with
        | nil => exact absurd hs (split_ne _ _)
        | cons p ps =>
          rw [hs] at ht ih
          rcases List.mem_cons.1 ht with rfl | ht
          · have := ih p List.mem_cons_self; rw [List.length_cons, List.length_cons]; omega
          · have := ih t (List.mem_cons_of_mem _ ht); rw [List.length_cons]; omega
  rw [List.getD_eq_getElem?_getD]
  cases h : (splitB 32 s)[i]? with
  | none => simp
  | some t => exact key s t (List.mem_of_getElem? h)
end Cae
end
