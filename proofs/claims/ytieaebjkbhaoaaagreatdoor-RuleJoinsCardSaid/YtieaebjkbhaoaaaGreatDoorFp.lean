import Derived.Test.YtieaebjkbhaoaaaGreatDoorVo
import Derived.Test.YtieaebjkbhaoaaaGreatDoorVw
set_option linter.unusedSimpArgs false
set_option linter.unusedVariables false
namespace Go.Vc
open Go.RowKit
section
variable {P : Program} {t : Fr} {w : World} {K : VK} {Q : EP}
/-- What a call does that may panic. -/
def Fun2 (P : Program) (f : FuncId) (args : List Value) (w : World) (R : VK) (E : List PanicEntry → World → Prop) : Prop :=
  (callFunc f args.toArray).run P w = .ok (.enter f args.toArray) w ∧ Calls P f args.toArray w fun e w' => match e with
    | .returned v => R v w'
    | .panicked c => E c w'
    | .outgrown => False
theorem Fun2.mono {f : FuncId} {args : List Value} {R R' : VK} {E E' : List PanicEntry → World → Prop} (h : Fun2 P f args w R E) (k : ∀ v w', R v w' → R' v w') (ke : ∀ c w', E c w' → E' c w') : Fun2 P f args w R' E' :=
  ⟨h.1, h.2.mono fun e w' he => by cases e <;> first | exact k _ _ he | exact ke _ _ he | exact he.elim⟩
theorem callP_of {f : FuncId} {args : List Value} {R : VK} {E : List PanicEntry → World → Prop} {p} (h : Fun2 P f args w R E) (k : ∀ v w', R v w' → K v w') (ke : ∀ c w', E c w' → Q (.panic c) t w') : callK P f args t w K Q p := by
  unfold callK
  rw [h.1]
  exact h.2.mono fun e w' he => by cases e <;> first | exact k _ _ he | exact ke _ _ he | exact he.elim
theorem Fun.two {f : FuncId} {args : List Value} {R : VK} (h : Fun P f args w R) : Fun2 P f args w R (fun _ _ => False) :=
  ⟨h.1, h.2.mono fun e w' ⟨v, he, hr⟩ => by subst he; exact hr⟩
def retE (P : Program) (rs : List ResultVar) (R : VK) (E : List PanicEntry → World → Prop) (_ : Ph (R, E)) : EP
  | .normal, t, w => retL P t w rs fun vs => R (tup vs) w
  | .ret, t, w => retL P t w rs fun vs => R (tup vs) w
  | .panic c, _, w => E c w
  | _, _, _ => False
variable {R : VK} {E : List PanicEntry → World → Prop}
theorem retE_normal (rs) (p) : retE P rs R E p .normal t w = retL P t w rs fun vs => R (tup vs) w := (rfl)
theorem retE_ret (rs) (p) : retE P rs R E p .ret t w = retL P t w rs fun vs => R (tup vs) w := (rfl)
theorem retE_panic (rs) (c) (p) : retE P rs R E p (.panic c) t w = E c w := (rfl)
theorem fun2_of_vc {f : FuncId} {fn : Func} {c : Code} {args : List Value} (hf : P.funcs[f]? = some fn) (hb : fn.body = some c) (hn : (fn.name == "runtime.NumGoroutine") = false)
    (rs : List ResultVar) (hrs : fn.results = rs.toArray) (h : vc P c (retE P rs R E .mk) (fr0 args fn.ntmps) w .mk) : Fun2 P f args w R E := by
  refine ⟨callFunc_enter hf (by simp [hb]) hn, calls_of_wp hf hb ?_⟩
  have h1 := vc_ok c _ _ w h
  unfold wpL at h1
  have e : (args.toArray ++ Array.replicate (fn.ntmps - args.toArray.size) undef) = (fr0 args fn.ntmps).toArray := by simp [fr0]
  rw [e]
  refine Code.wp_mono ?_ h1
  rintro e a w' ⟨hd, hh⟩
  have ha : a.tmps.toList.toArray = a.tmps := by simp
  cases e <;> simp only [retE] at hh <;> first | exact hh.elim | skip
  · obtain ⟨vs, hv, hk⟩ := resultsC_run fn rs hrs _ _ hh
    exact ⟨hd, _, by rw [← ha]; exact hv, hk⟩
  · obtain ⟨vs, hv, hk⟩ := resultsC_run fn rs hrs _ _ hh
    exact ⟨hd, _, by rw [← ha]; exact hv, hk⟩
  · exact ⟨hd, hh⟩
theorem panicK {ty : TypeId} {v : Value} {p} (k : Q (.panic [{ v := .iface ty v, recovered := false }]) t w) : valK P (Instr.panic (.iface ty v)) t w K Q p := by
  unfold valK
  have : ((do pure (Next.value (← Instr.panic (.iface ty v))) : Sem Next).run P w) = .halt (.panic (.iface ty v)) w := rfl
  rw [this]
  exact k
end
attribute [push_cast] retE_normal retE_ret retE_panic seqQ_panic blockQ_panic
end Go.Vc
