import Derived.Test.YtieaebjkbhaoaaaGreatDoorRng
import Derived.Recover
set_option linter.unusedSimpArgs false
set_option linter.unusedVariables false
namespace Go.Vc
open Go.RowKit
section
variable {P : Program} {ds : List Deferred}
theorem resA_of_resKD {t : Fr} {dst : Option Tmp} {C : World → Prop} {K : VK} {N : Act → World → Prop} (hn : ∀ v w', K v w' → N ⟨(put t dst v).toArray, ds⟩ w') {r : Result Next} (h : resK P t (fun v w' => C w' ∧ K v w') noQ r) : resA P ⟨t.toArray, ds⟩ dst C N r := by
  cases r with
  | halt x w' => cases x <;> simp only [resK, noQ] at h
  | ok n w' =>
    cases n <;> simp only [resK] at h <;> simp only [resA]
    case value v => exact ⟨h.1, by rw [put_eqD]; exact hn _ _ h.2⟩
    case skip => exact ⟨h.1, by rw [put_eqD]; exact hn _ _ h.2⟩
    case enter f args =>
      refine h.mono fun e w'' he => ?_
      cases e with
      | returned v => exact ⟨v, rfl, he.1, by rw [put_eqD]; exact hn _ _ he.2⟩
      | panicked c => exact he.elim
      | outgrown => exact he.elim

theorem mixOp_of_mixKD {ops : List Oper} {i : Nat} {o : Oper} {C : World → Prop} {t : Fr} {w : World} {K : VK} {N : Act → World → Prop} (hi : ops[i]? = some o) (hw : Region.wanted o (yielded ops.toArray t.toArray) = true)
    (hn : ∀ v w', K v w' → N ⟨(put t o.dst v).toArray, ds⟩ w') (h : mixK P o t w C K .mk) : mixOp P ops.toArray C i N ⟨t.toArray, ds⟩ w := by
  unfold mixOp
  simp only [List.getElem?_toArray, hi, hw, if_true, ev_eq]
  unfold mixK at h
  split at h
  · rename_i ty x ho
    have hc : chain P o = false := by simp [chain, ho]
    simp only [hc, Bool.false_eq_true, if_false]
    obtain ⟨v, hr, hall, hk⟩ := loadK_run ho h
    refine ⟨v, fun w' hw' => ?_, by rw [put_eqD]; exact hn _ _ hk⟩
    obtain ⟨u, hu, hv⟩ := loadK_run ho (hall w' hw')
    rw [hu, hv]
  · split at h
    · rename_i hc
      simp only [hc, if_true]
      exact resA_of_resKD hn (opK_ok h)
    · rename_i hc
      simp only [hc]
      rcases pureK_ok h with h | ⟨v, hg, hk⟩
      · exact h.elim
      · exact ⟨v, fun w' _ => hg w', by rw [put_eqD]; exact hn _ _ hk⟩

theorem mixOp_skipD {ops : List Oper} {i : Nat} {o : Oper} {C : World → Prop} {t : Fr} {w : World} {N : Act → World → Prop} (hi : ops[i]? = some o) (hw : Region.wanted o (yielded ops.toArray t.toArray) = false)
    (h : N ⟨(put t o.dst undef).toArray, ds⟩ w) : mixOp P ops.toArray C i N ⟨t.toArray, ds⟩ w := by
  unfold mixOp
  simp only [List.getElem?_toArray, hi, hw, Bool.false_eq_true, if_false]
  rw [put_eqD]; exact h

theorem wpLex_of_vcMixD {ops : List Oper} {C : World → Prop} {R : Fr → World → Prop} {N : Act → World → Prop} (hn : ∀ t w, R t w → N ⟨t.toArray, ds⟩ w) : ∀ (l : List Oper) (k : Nat) (t : Fr) (w : World), (∀ j, l[j]? = ops[k + j]?) →
    vcMix P ops C R l t w .mk → wpLex P ops.toArray C N (List.range' k l.length) ⟨t.toArray, ds⟩ w
  | [], _, _, _, _, h => hn _ _ h
  | o :: r, k, t, w, hl, h => by
    have h0 : ops[k]? = some o := by simpa using (hl 0).symm
    have ih := fun t w => wpLex_of_vcMixD (C := C) hn r (k + 1) t w (fun j => by have := hl (j + 1); simpa [Nat.add_assoc, Nat.add_comm 1 j] using this)
    simp only [List.length_cons, List.range'_succ, wpLex]
    simp only [vcMix] at h
    split at h
    · rename_i hg
      exact mixOp_of_mixKD h0 (by simp [Region.wanted, hg]) (fun v w' hk => ih _ _ hk) h
    · rename_i j want hg
      rcases guard_cases hg h with ⟨hw, hh⟩ | ⟨hw, hh⟩
      · exact mixOp_of_mixKD h0 hw (fun v w' hk => ih _ _ hk) hh
      · exact mixOp_skipD h0 hw (ih _ _ hh)

theorem wpD_draw {id : Nat} {l : List Oper} {t : Fr} {w : World} {Q : Exit → Act → World → Prop} (C : World → Prop) (hm : P.follows .mixedOrders = true) (hB : mixB P l.toArray = true) (hC : C w.drew)
    (h : vcMix P l C (fun t w => Q .normal ⟨t.toArray, ds⟩ w) l t w.drew .mk) : (Code.region id l.toArray true).wp P Q ⟨t.toArray, ds⟩ w := by
  simp only [mixB, Bool.and_eq_true] at hB
  refine wp_region_any hm (wpAny_of_mix (C := C) (R := fun a w => Q .normal a w) (fun _ _ h => h) _ _ _ _ hC ?_)
  refine wpMix_lex hB.1 _ 0 _ _ _ (by simp) hC (fun j o _ hl => by simp [Array.getElem?_replicate] at hl; split at hl <;> simp at hl) hB.2 ?_
  have := wpLex_of_vcMixD (P := P) (ds := ds) (ops := l) (C := C) (R := fun t w => Q .normal ⟨t.toArray, ds⟩ w) (N := fun a w => Q .normal a w) (fun t w hk => hk) l 0 t w.drew (fun j => by simp) h
  simpa using this

/-- Plain code behind which calls were deferred. -/
theorem plainD {c : Code} (hp : plainB c = true) {Q : Exit → Act → World → Prop} {t : Fr} {w : World} (h : vc P c (fun e t w => Q e ⟨t.toArray, ds⟩ w) t w .mk) : c.wp P Q ⟨t.toArray, ds⟩ w :=
  wpIn_wide.1 (plainIn (n := 0) (ro := none) hp h)
theorem seqD {a b : Code} (hp : plainB a = true) {Q : Exit → Act → World → Prop} {t : Fr} {w : World} (h : vc P a (seqQ (fun t w => b.wp P Q ⟨t.toArray, ds⟩ w) (fun e t w => Q e ⟨t.toArray, ds⟩ w) .mk) t w .mk) : (Code.seq a b).wp P Q ⟨t.toArray, ds⟩ w := by
  have e : (fun (t : Fr) (w : World) => b.wpIn (fen none) 0 P Q ⟨t.toArray, ds⟩ w) = fun t w => b.wp P Q ⟨t.toArray, ds⟩ w := by
    funext t w
    exact propext wpIn_wide
  have h' : (fun N : Fr → World → Prop => vc P a (seqQ N (fun e t w => Q e ⟨t.toArray, ds⟩ w) .mk) t w .mk) (fun t w => b.wpIn (fen none) 0 P Q ⟨t.toArray, ds⟩ w) := by
    rw [e]
    exact h
  exact wpIn_wide.1 (seqIn (n := 0) (ro := none) hp h')
theorem condFD {c : Operand} {x y : Code} {Q : Exit → Act → World → Prop} {t : Fr} {w : World} (hc : ev t c = .bool false) (h : y.wp P Q ⟨t.toArray, ds⟩ w) : (Code.cond c x y).wp P Q ⟨t.toArray, ds⟩ w :=
  wpIn_wide.1 (condF (n := 0) (F := Fence.wide) hc (wpIn_wide.2 h))
theorem condTD {c : Operand} {x y : Code} {Q : Exit → Act → World → Prop} {t : Fr} {w : World} (hc : ev t c = .bool true) (h : x.wp P Q ⟨t.toArray, ds⟩ w) : (Code.cond c x y).wp P Q ⟨t.toArray, ds⟩ w :=
  wpIn_wide.1 (condT (n := 0) (F := Fence.wide) hc (wpIn_wide.2 h))
theorem wpS_plain {c : Code} {Q : Exit → Act → List Frame → World → Prop} {t : Fr} {cs : List Frame} {w : World} (h : vc P c (fun e t w => Q e ⟨t.toArray, []⟩ cs w) t w .mk) : c.wpS P Q ⟨t.toArray, []⟩ cs w := by
  refine wpS_of_wp ?_
  have h1 := vc_ok c _ _ w h
  unfold wpL at h1
  refine Code.wp_mono ?_ h1
  rintro e a w' ⟨hd, hh⟩
  rw [act_eq hd]
  exact hh
/-- An assertion of the very type that is held. -/
theorem assert_same {ty xT : TypeId} {v : Value} {fs : Array Field} {t : Fr} {w : World} {K : VK} {Q : EP} {p} (hu : P.underlying ty = some (.struct fs)) (k : K (.tuple #[v, .bool true]) w) : valK P (Instr.typeAssert (.iface ty v) xT ty true) t w K Q p :=
  valK_of (by simp [Instr.typeAssert, run_underlying hu]) k
theorem noRes {fn : Func} (h : fn.results = #[]) (t : Fr) (w : World) : (results fn t.toArray).run P w = .ok (.tuple #[]) w := by
  obtain ⟨vs, h1, h2⟩ := resultsC_run (P := P) (w := w) fn [] h t (fun vs => vs = []) rfl
  rw [h1, h2]
  rfl
/-- A region that makes a closure, and defers its call. -/
theorem deferReg {id : Nat} {g : FuncId} {d : Tmp} {cap : List Operand} {ty1 ty2 : TypeId} {p1 p2 : String} {a1 a2 : Array Edge} {Q : Exit → Act → World → Prop} {t : Fr} {w : World}
    (hd : d < t.length) (h : Q .normal ⟨(t.set d (.func (.func g) #[] (cap.map (ev t)).toArray)).toArray, { target := .fn (.func g) (cap.map (ev t)).toArray, args := #[] } :: ds⟩ w) :
    (Code.region id #[⟨some d, .makeFunc (.func g) #[] cap.toArray, ty1, p1, a1, none⟩, ⟨none, .defer { callee := .value (.tmp d), args := #[], argTypes := #[] }, ty2, p2, a2, none⟩] false).wp P Q ⟨t.toArray, ds⟩ w := by
  refine wp_region_list ?_
  unfold wpList
  rw [if_pos (by rfl)]
  refine .inl ?_
  unfold Oper.wp
  have h1 : ∀ (ρ : Operand → Value) (cap : Array Operand) (o : Oper), o.op = .makeFunc (.func g) #[] cap → (execOp ρ o).run P w = .ok (.value (.func (.func g) #[] (cap.map ρ))) w := fun ρ cap o ho => by
    unfold execOp
    simp only [ho]
    simp [go_sem, Instr.makeFunc]
  rw [h1 _ cap.toArray _ rfl]
  unfold Oper.upon
  dsimp only
  rw [put_eqD]
  unfold wpList
  rw [if_pos (by rfl)]
  refine .inl ?_
  unfold Oper.wp
  rw [ev_eq, ev_eq]
  have hg : (put t (some d) (.func (.func g) #[] (cap.toArray.map (ev t)))).getD d undef = .func (.func g) #[] (cap.toArray.map (ev t)) := by
    simp [put, hd]
  have h2 : ∀ (o : Oper), o.op = .defer { callee := .value (.tmp d), args := #[], argTypes := #[] } → (execOp (ev (put t (some d) (.func (.func g) #[] (cap.toArray.map (ev t))))) o).run P w = .ok (.defer { target := .fn (.func g) (cap.toArray.map (ev t)), args := #[] }) w := fun o ho => by
    unfold execOp
    simp only [ho]
    simp only [resolve, ev, hg, Deferred.ofValue]
    simp [go_sem]
  rw [h2 _ rfl]
  unfold Oper.upon
  dsimp only
  unfold wpList
  have e : ∀ (a : Act) , a.put none undef = a := fun a => rfl
  rw [e]
  simpa [put] using h
end
end Go.Vc
