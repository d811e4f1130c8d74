import Derived.Test.YtplbgmoeannobaaGreatDoorVo
import Derived.RangeFuncFrom
import Derived.LoopIn
import Derived.RangeFuncLeaves
set_option linter.unusedSimpArgs false
set_option linter.unusedVariables false
namespace Go.Vc
open Go.RowKit
section
variable {P : Program} {n : Nat} {ro : Option Nat} {ds : List Deferred}

/-- The fence that lets all in; in a round, or in none. -/
def fen (ro : Option Nat) : Fence := { Fence.wide with round := ro }
theorem callsFen {f : FuncId} {args : Array Value} {w : World} {R : Ending → World → Prop} (h : Calls P f args w R) : CallsIn (fen ro) n P f args w R := (callsIn_wide (n := n)).2 h
def liftD (ds : List Deferred) (Q : EP) : Exit → Act → World → Prop := fun e a w => a.defers = ds ∧ Q e a.tmps.toList w
theorem put_eqD (t : Fr) (d : Option Tmp) (v : Value) : (Act.mk t.toArray ds).put d v = ⟨(put t d v).toArray, ds⟩ := by
  cases d <;> simp [Act.put, put]
theorem act_eqD {a : Act} (h : a.defers = ds) : a = ⟨a.tmps.toList.toArray, ds⟩ := by cases a; simp_all

theorem resK_uponIn {o : Oper} {t : Fr} {K : Value → World → Prop} {Q : EP} {r : Result Next} {next : Act → World → Prop}
    (hn : ∀ v w', K v w' → next ⟨(put t o.dst v).toArray, ds⟩ w') (h : resK P t K Q r) : o.uponIn (fen ro) n P ⟨t.toArray, ds⟩ next (liftD ds Q) r := by
  cases r with
  | ok x w' =>
    cases x <;> simp only [resK] at h <;> simp only [Oper.uponIn]
    case value v => rw [put_eqD]; exact hn _ _ h
    case skip => rw [put_eqD]; exact hn _ _ h
    case enter f args =>
      refine ⟨(fun hh => by cases hh), callsFen (h.mono fun e w'' he => ?_)⟩
      cases e with
      | returned v => dsimp only at he ⊢; rw [put_eqD]; exact hn _ _ he
      | panicked c => exact ⟨rfl, by simpa using he⟩
      | outgrown => exact he.elim
  | halt x w' =>
    cases x <;> simp only [resK] at h <;> simp only [Oper.uponIn]
    exact ⟨rfl, by simpa using h⟩

def noDefer (o : Oper) : Bool := match o.op with | .defer _ => false | _ => true
theorem noDefer_ne {o : Oper} (h : noDefer o = true) : ∀ c, o.op ≠ .defer c := fun c e => by simp [noDefer, e] at h
theorem semAt_fen {o : Oper} (h : noDefer o = true) (ro : Option Nat) (ρ : Operand → Value) : Oper.semAt ro ρ o = execOp ρ o := Oper.semAt_eq ro ρ o (noDefer_ne h)

theorem wpIn_of_opK {o : Oper} (hd : noDefer o = true) {t : Fr} {w : World} {K : Value → World → Prop} {Q : EP} {next : Act → World → Prop}
    (hn : ∀ v w', K v w' → next ⟨(put t o.dst v).toArray, ds⟩ w') (h : opK P o t w K Q .mk) : o.wpIn (fen ro) n P ⟨t.toArray, ds⟩ w next (liftD ds Q) := by
  have h' := opK_ok h
  unfold runK at h'
  refine ⟨fun _ _ => trivial, ?_⟩
  rw [semAt_fen hd, ev_eq]
  exact resK_uponIn hn h'

theorem vcOpsIn_ok {ops : List Oper} {K : Fr → World → Prop} {Q : EP} {next : Exit → Act → World → Prop} (rest : List Oper) (hn : ∀ t w, K t w → wpListIn (fen ro) n P ops.toArray next rest ⟨t.toArray, ds⟩ w) (hq : ∀ e a w, liftD ds Q e a w → next e a w) :
    ∀ (l : List Oper), l.all noDefer = true → ∀ (t : Fr) (w : World), vcOps P ops K Q l t w .mk → wpListIn (fen ro) n P ops.toArray next (l ++ rest) ⟨t.toArray, ds⟩ w
  | [], _, t, w, h => hn t w h
  | o :: r, hd, t, w, h => by
    simp only [List.all_cons, Bool.and_eq_true] at hd
    rw [List.cons_append]
    have step : ∀ (t' : Fr), Region.wanted o (yielded ops.toArray t'.toArray) = true → opK P o t' w (fun v w' => vcOps P ops K Q r (put t' o.dst v) w' .mk) Q .mk → wpListIn (fen ro) n P ops.toArray next (o :: (r ++ rest)) ⟨t'.toArray, ds⟩ w := fun t' hw h' => by
      unfold wpListIn
      rw [if_pos hw]
      have := wpIn_of_opK (ro := ro) (n := n) (ds := ds) hd.1 (next := wpListIn (fen ro) n P ops.toArray next (r ++ rest)) (fun v w' hk => vcOpsIn_ok rest hn hq r hd.2 _ w' hk) h'
      refine ⟨this.1, ?_⟩
      have h2 := this.2
      generalize (Oper.semAt _ _ o).run P w = res at h2 ⊢
      cases res with
      | ok x w' =>
        cases x <;> simp only [Oper.uponIn] at h2 ⊢ <;> first | exact h2 | skip
        · exact ⟨h2.1, h2.2.mono fun e w'' he => by
            cases e with
            | returned v => exact he
            | panicked c => exact hq _ _ _ he
            | outgrown => obtain ⟨a₀, w₀, hh⟩ := he; exact ⟨a₀, w₀, hq _ _ _ hh⟩⟩
        · exact ⟨h2.1, h2.2.mono fun e w'' he => by
            cases e with
            | returned v => exact he
            | panicked c => exact hq _ _ _ he
            | outgrown => obtain ⟨a₀, w₀, hh⟩ := he; exact ⟨a₀, w₀, hq _ _ _ hh⟩⟩
      | halt x w' => cases x <;> simp only [Oper.uponIn] at h2 ⊢ <;> first | exact h2 | exact hq _ _ _ h2
    have skip : ∀ (t' : Fr), Region.wanted o (yielded ops.toArray t'.toArray) = false → vcOps P ops K Q r (put t' o.dst undef) w .mk → wpListIn (fen ro) n P ops.toArray next (o :: (r ++ rest)) ⟨t'.toArray, ds⟩ w := fun t' hw h' => by
      unfold wpListIn
      rw [if_neg (by rw [hw]; simp), put_eqD]
      exact ⟨fun _ _ => trivial, vcOpsIn_ok rest hn hq r hd.2 _ w h'⟩
    simp only [vcOps] at h
    split at h
    · rename_i hg
      exact step t (by simp [Region.wanted, hg]) h
    · rename_i j want hg
      have hwant : ∀ t' : Fr, Region.wanted o (yielded ops.toArray t'.toArray) = (yielded ops.toArray t'.toArray j == some want) := fun t' => by simp only [Region.wanted, hg]
      unfold guardK at h
      split at h
      · rename_i hs
        exact skip t (by rw [hwant, yielded_eq, hs]; rfl) h
      · rename_i s hs
        split at h
        · rename_i b hb
          have hlt : s < t.length := by
            rcases Nat.lt_or_ge s t.length with h' | h'
            · exact h'
            · simp [List.getD_eq_getElem?_getD, List.getElem?_eq_none h', undef] at hb
          have hv : t[s]? = some (.bool b) := by
            rw [List.getD_eq_getElem?_getD] at hb
            rw [List.getElem?_eq_getElem hlt] at hb ⊢
            simpa using hb
          have hy : yielded ops.toArray t.toArray j = some b := by rw [yielded_eq, hs]; simp [hv]
          have same := set_getD_same t s hlt
          rw [hb] at same
          by_cases hbw : b = want
          · subst hbw
            have h1 := h.1 rfl
            rw [same] at h1
            exact step t (by rw [hwant, hy]; simp) h1
          · have hbn : b = !want := by cases b <;> cases want <;> simp_all
            have h2 := h.2 hbn
            rw [← hbn, same] at h2
            exact skip t (by rw [hwant, hy]; simpa using hbw) h2
        · rename_i hb
          refine skip t ?_ h
          rw [hwant, yielded_eq, hs]
          simp only [Option.bind_some]
          cases hv : t[s]? with
          | none => rfl
          | some v =>
            have : t.getD s undef = v := by rw [List.getD_eq_getElem?_getD, hv]; rfl
            rw [this] at hb
            cases v <;> simp at hb ⊢

/-- Code without loops, and without regions that draw their order. -/
def plainB : Code → Bool
  | .skip | .exit _ | .ret | .label _ | .goto _ => true
  | .region _ ops false => ops.toList.all noDefer
  | .seq a b => plainB a && plainB b
  | .cond _ a b => plainB a && plainB b
  | .block _ c => plainB c
  | _ => false

theorem vcIn_ok : ∀ (c : Code), plainB c = true → ∀ (Q : EP) (t : Fr) (w : World), vc P c Q t w .mk → c.wpIn (fen ro) n P (liftD ds Q) ⟨t.toArray, ds⟩ w
  | .skip, _, _, _, _, h => wpIn_skip ⟨rfl, by simpa [vc] using h⟩
  | .region _ ops false, hp, Q, t, w, h => by
    refine wpIn_region_list ?_
    have := vcOpsIn_ok (P := P) (n := n) (ro := ro) (ds := ds) (ops := ops.toList) (K := Q .normal) (Q := Q) (next := liftD ds Q) [] (fun t w hk => ⟨rfl, by simpa using hk⟩) (fun _ _ _ h => h) ops.toList hp t w h
    simpa using this
  | .seq a b, hp, Q, t, w, h => by
    simp only [plainB, Bool.and_eq_true] at hp
    refine wpIn_seq (Code.wpIn_mono ?_ (vcIn_ok a hp.1 _ t w h))
    rintro e a' w' ⟨hd, hh⟩
    cases e <;> simp only [seqQ] at hh <;> simp only [Exit.then] <;> first | exact ⟨hd, hh⟩ | skip
    have := vcIn_ok b hp.2 Q _ w' hh
    rw [act_eqD hd]
    exact this
  | .cond c a b, hp, Q, t, w, h => by
    simp only [plainB, Bool.and_eq_true] at hp
    simp only [vc] at h
    unfold condK at h
    split at h
    · rename_i x hx
      exact wpIn_cond_split (t := x) (by rw [ev_eq]; exact hx) (fun hx' => vcIn_ok a hp.1 Q t w (h.1 hx')) (fun hx' => vcIn_ok b hp.2 Q t w (h.2 hx'))
    · exact h.elim
  | .block i c, hp, Q, t, w, h => by
    refine wpIn_block (Code.wpIn_mono ?_ (vcIn_ok c hp _ t w h))
    rintro e a' w' ⟨hd, hh⟩
    cases e <;> simp only [blockQ] at hh <;> simp only [Exit.inBlock] <;> first | exact ⟨hd, hh⟩ | skip
    split at hh
    · rename_i e; simp only [e, if_true]; exact ⟨hd, hh⟩
    · rename_i e; simp only [e, if_false]; exact ⟨hd, hh⟩
  | .exit i, _, _, _, _, h => wpIn_exit ⟨rfl, by simpa [vc] using h⟩
  | .ret, _, _, _, _, h => wpIn_ret ⟨rfl, by simpa [vc] using h⟩
  | .label _, _, _, _, _, h => wpIn_label ⟨rfl, by simpa [vc] using h⟩
  | .goto l, _, _, _, _, h => wpIn_goto ⟨rfl, by simpa [vc] using h⟩
  | .region _ _ true, hp, _, _, _, _ => by cases hp
  | .loop _, hp, _, _, _, _ => by cases hp
  | .scope _, hp, _, _, _, _ => by cases hp
  | .rangeFunc .., hp, _, _, _, _ => by cases hp
  | .refuse _, hp, _, _, _, _ => by cases hp
/-- How the body of a round may be left. -/
def roundQ {α : Type} (Z : Nat → Prop) (I : List α → World → Prop) (Ix : Code → List α → World → Prop) (xs : List α) (W : World) : Exit → Act → World → Prop
  | .normal, _, W' => (∀ k, Z k → W'.heap[k]? = W.heap[k]?) ∧ I xs W'
  | .ret, _, W' => (∀ k, Z k → W'.heap[k]? = W.heap[k]?) ∧ Ix .ret xs W'
  | .exit id, _, W' => (∀ k, Z k → W'.heap[k]? = W.heap[k]?) ∧ Ix (.exit id) xs W'
  | .goto t, _, W' => (∀ k, Z k → W'.heap[k]? = W.heap[k]?) ∧ Ix (.goto t) xs W'
  | _, _, _ => False

theorem keptPut {X : Nat → Prop} (W : World) (l : Nat) (o : Obj) (hX : X l) : Kept X W (W.putObj l o) :=
  ⟨rfl, rfl, rfl, by simp, fun k _ hk => World.putObj_heap_other (fun e => hk (by rw [e]; exact hX))⟩

/-- What an iterator gives: its own steps turn blocks of B alone; a round keeps Z. -/
def Iter (P : Program) (n : Nat) {α : Type} (gf : Nat) (lb : Array Value) (encs : α → Array Value) (B Z : Nat → Prop) (S Sp : List α → Prop) (A : List α → α → Prop) (w : World) : Prop :=
  ∀ (l : Nat) (J Jx : List α → World → Prop) (W : World), (∀ k, k < w.heap.size → W.heap[k]? = w.heap[k]?) → w.heap.size ≤ W.heap.size → (∀ s A A', J s A → Kept B A A' → J s A') → (∀ s A A', Jx s A → Kept B A A' → Jx s A') →
    (∀ pre x W1, J pre W1 → A pre x → YieldAt Fence.wide n P l (encs x) W1 fun e W' =>
      (e = .returned (.bool true) ∧ J (pre ++ [x]) W' ∧ (∀ k, Z k → W'.heap[k]? = W1.heap[k]?) ∧ W1.heap.size ≤ W'.heap.size) ∨ (e = .returned (.bool false) ∧ Jx (pre ++ [x]) W')) →
    J [] W → CallsIn Fence.wide n P gf (#[.func (.yield l) #[] #[]] ++ lb) W fun e W' => (∃ v, e = .returned v) ∧ ((∃ xs, S xs ∧ J xs W') ∨ (∃ pre, Sp pre ∧ Jx pre W'))

/-- A range over a function whose own steps turn blocks that it had before. -/
theorem rangeK {α : Type} {g : Operand} {ps : Array Tmp} {assign body : Code} {Q : Exit → Act → World → Prop} {a : Act} {w : World} {gf : Nat} {lb : Array Value} (hg : a.eval g = .func (.func gf) #[] lb) (eg : ∀ args w, (callFunc gf args).run P w = .ok (.enter gf args) w)
    {encs : α → Array Value} (hps : ∀ x, (encs x).size = ps.size) {B Z : Nat → Prop} {S Sp : List α → Prop} {A : List α → α → Prop} (hB : ∀ k, B k → k < w.heap.size) (hZ : ∀ k, Z k → k < w.heap.size) (hseq : Iter P (n - 1) gf lb encs B Z S Sp A w)
    (I : List α → World → Prop) (Ix : Code → List α → World → Prop) (hI : ∀ s W W', I s W → Kept (fun k => B k ∨ k = w.heap.size ∨ k = w.heap.size + 1) W W' → I s W') (hIx : ∀ c s W W', Ix c s W → Kept (fun k => B k ∨ k = w.heap.size ∨ k = w.heap.size + 1) W W' → Ix c s W') (h0 : I [] w) (a₁ : α → Act)
    (hassign : ∀ (x : α) (W : World) (K : Act → World → Prop), K (a₁ x) W →
      assign.wpIn (fen (some (w.heap.size + 1))) (n - 1) P (Exit.then K (fun _ _ _ => False)) { tmps := (ps.zip (encs x)).foldl (fun t (p, v) => t.setIfInBounds p v) a.tmps, defers := [] } W)
    (hbody : ∀ (pre : List α) (x : α) (W : World), I pre W → A pre x → w.heap.size + 1 < W.heap.size → body.wpIn (fen (some (w.heap.size + 1))) (n - 1) P (fun e a' W' => W.heap.size ≤ W'.heap.size ∧ roundQ (fun k => Z k ∨ k = w.heap.size ∨ k = w.heap.size + 1) I Ix (pre ++ [x]) W e a' W') (a₁ x) W)
    (hdone : ∀ (xs : List α) (W : World), S xs → I xs W → W.heap[w.heap.size]? = some (.deferred (some [])) → Q .normal { a with defers := { target := .collected w.heap.size, args := #[] } :: a.defers } W)
    (hstop : ∀ (c : Code) (pre : List α) (W : World), Sp pre → Ix c pre W → W.heap[w.heap.size]? = some (.deferred (some [])) → c.wpIn Fence.wide n P Q { a with defers := { target := .collected w.heap.size, args := #[] } :: a.defers } W) :
    (Code.rangeFunc g ps assign body).wpIn Fence.wide n P Q a w := by
  refine wpIn_rangeFunc ?_
  intro fn _
  have hrec : ∃ rec : LoopState → Option Code → Loop, rec = fun st pe => { state := st, pending := pe, fn, tmps := a.tmps, params := ps, assign, body, defers := w.heap.size } := ⟨_, rfl⟩
  obtain ⟨rec, hrec⟩ := hrec
  have hg1 : ∃ W1, (w.alloc (.deferred (some []))).alloc (.loop (rec .ready none)) = W1 := ⟨_, rfl⟩
  obtain ⟨W1, hW1⟩ := hg1
  have sz1 : W1.heap.size = w.heap.size + 1 + 1 := by rw [← hW1]; simp
  have hL1 : W1.heap[w.heap.size + 1]? = some (.loop (rec .ready none)) := by
    rw [← hW1]
    have := World.alloc_heap_new (w.alloc (.deferred (some []))) (.loop (rec .ready none))
    rwa [World.size_alloc] at this
  have hK1 : W1.heap[w.heap.size]? = some (.deferred (some [])) := by
    rw [← hW1]; exact (Below.heap_alloc _ _ _ (by simp)).trans (World.alloc_heap_new w _)
  have hk1 : ∀ k, k < w.heap.size → W1.heap[k]? = w.heap[k]? := fun k hk => by
    rw [← hW1]; exact (Below.heap_alloc _ _ _ (by simp; omega)).trans (Below.heap_alloc _ _ _ hk)
  have hkept : Kept (fun k => B k ∨ k = w.heap.size ∨ k = w.heap.size + 1) w W1 := ⟨by rw [← hW1]; rfl, by rw [← hW1]; rfl, by rw [← hW1]; rfl, by omega, fun k hk _ => hk1 k hk⟩
  have hbook : ∀ {W : World} (o : Obj), Kept (fun k => B k ∨ k = w.heap.size ∨ k = w.heap.size + 1) W (W.putObj (w.heap.size + 1) o) := fun o => keptPut _ _ _ (.inr (.inr rfl))
  have hne : ∀ {k : Nat}, B k → k ≠ w.heap.size ∧ k ≠ w.heap.size + 1 := fun {k} hk => by have := hB k hk; omega
  refine ⟨w.heap.size + 1, [{ target := .collected w.heap.size, args := #[] }], W1, { target := .fn (.func gf) lb, args := #[.func (.yield (w.heap.size + 1)) #[] #[]] }, W1, gf,
    #[.func (.yield (w.heap.size + 1)) #[] #[]] ++ lb, W1, ?_, ?_, fun _ _ => trivial, ?_, (fun hh => by cases hh), ?_⟩
  · rw [← hW1, hrec]; exact run_enterLoop_outer _ _ _ _ _
  · simp only [resolve, hg]
    simp [go_sem]
  · simp [invoke, go_sem, eg]
  · refine (hseq (w.heap.size + 1)
      (fun pre W => I pre W ∧ W.heap[w.heap.size + 1]? = some (.loop (rec .ready none)) ∧ W.heap[w.heap.size]? = some (.deferred (some [])))
      (fun pre W => ∃ c, Ix c pre W ∧ W.heap[w.heap.size + 1]? = some (.loop (rec .done (some c))) ∧ W.heap[w.heap.size]? = some (.deferred (some [])))
      W1 hk1 (by omega) ?_ ?_ ?_ ⟨hI _ _ _ h0 hkept, hL1, hK1⟩).mono ?_
    · rintro s A A' ⟨h1, h2, h3⟩ hk
      exact ⟨hI _ _ _ h1 (hk.weaken (fun i _ h => .inl h)), (hk.block _ (Array.getElem?_eq_some_iff.1 h2).1 (fun h => (hne h).2 rfl)).trans h2, (hk.block _ (Array.getElem?_eq_some_iff.1 h3).1 (fun h => (hne h).1 rfl)).trans h3⟩
    · rintro s A A' ⟨c, h1, h2, h3⟩ hk
      exact ⟨c, hIx _ _ _ _ h1 (hk.weaken (fun i _ h => .inl h)), (hk.block _ (Array.getElem?_eq_some_iff.1 h2).1 (fun h => (hne h).2 rfl)).trans h2, (hk.block _ (Array.getElem?_eq_some_iff.1 h3).1 (fun h => (hne h).1 rfl)).trans h3⟩
    · rintro pre x W ⟨hi, hl, hk⟩ hlen
      have hlt : w.heap.size + 1 < W.heap.size := (Array.getElem?_eq_some_iff.1 hl).1
      have hy := run_yield (P := P) (args := encs x) hl (by rw [hrec]; exact hps x)
      rw [hrec] at hy
      refine ⟨fn, _, assign, body, hy, roundIn_of_wpIn trivial (hassign x W _ ⟨_, run_beginRound hl (by rw [hrec]), ?_⟩)⟩
      have hgV : ∃ V, W.putObj (w.heap.size + 1) (.loop { rec .ready none with state := .busy }) = V := ⟨_, rfl⟩
      obtain ⟨V, hV⟩ := hgV
      have hVl : V.heap[w.heap.size + 1]? = some (.loop { rec .ready none with state := .busy }) := by rw [← hV]; exact World.putObj_heap_same hlt
      have hVk : V.heap[w.heap.size]? = some (.deferred (some [])) := by rw [← hV]; exact (World.putObj_heap_other (by omega)).trans hk
      have hVs : V.heap.size = W.heap.size := by rw [← hV]; simp
      have hVo : ∀ k, k ≠ w.heap.size + 1 → V.heap[k]? = W.heap[k]? := fun k h => by rw [← hV]; exact World.putObj_heap_other h
      rw [hV]
      refine wpIn_mono (hbody pre x V (by rw [← hV]; exact hI _ _ _ hi (hbook _)) hlen (by omega)) ?_
      have fin : ∀ (jump : Option Code) (W3 : World), V.heap.size ≤ W3.heap.size → (∀ k, Z k ∨ k = w.heap.size ∨ k = w.heap.size + 1 → W3.heap[k]? = V.heap[k]?) →
          (Instr.endRound (w.heap.size + 1) jump).run P W3 = .ok (.bool jump.isNone) (W3.putObj (w.heap.size + 1) (.loop (rec (if jump.isNone then .ready else .done) jump))) ∧
          (W3.putObj (w.heap.size + 1) (.loop (rec (if jump.isNone then .ready else .done) jump))).heap[w.heap.size + 1]? = some (.loop (rec (if jump.isNone then .ready else .done) jump)) ∧
          (W3.putObj (w.heap.size + 1) (.loop (rec (if jump.isNone then .ready else .done) jump))).heap[w.heap.size]? = some (.deferred (some [])) ∧
          ∀ k, Z k → (W3.putObj (w.heap.size + 1) (.loop (rec (if jump.isNone then .ready else .done) jump))).heap[k]? = W.heap[k]? := fun jump W3 hs3 hz3 => by
        have hl3 := (hz3 _ (.inr (.inr rfl))).trans hVl
        have hr := run_endRound (P := P) jump hl3
        rw [hrec] at hr ⊢
        refine ⟨hr, World.putObj_heap_same (by omega), (World.putObj_heap_other (by omega)).trans ((hz3 _ (.inr (.inl rfl))).trans hVk), fun k hk => ?_⟩
        have := hZ k hk
        exact (World.putObj_heap_other (by omega)).trans ((hz3 k (.inl hk)).trans (hVo k (by omega)))
      rintro e a3 W3 ⟨hs3, hp⟩
      cases e with
      | normal =>
        obtain ⟨hz3, hi3⟩ := hp
        obtain ⟨hr, hl4, hk4, hz4⟩ := fin none W3 hs3 hz3
        exact ⟨_, _, hr, .inl ⟨rfl, ⟨hI _ _ _ hi3 (hbook _), hl4, hk4⟩, hz4, by simp; omega⟩⟩
      | ret =>
        obtain ⟨hz3, hi3⟩ := hp
        obtain ⟨hr, hl4, hk4, hz4⟩ := fin (some .ret) W3 hs3 hz3
        exact ⟨_, _, hr, .inr ⟨rfl, .ret, hIx _ _ _ _ hi3 (hbook _), hl4, hk4⟩⟩
      | exit id =>
        obtain ⟨hz3, hi3⟩ := hp
        obtain ⟨hr, hl4, hk4, hz4⟩ := fin (some (.exit id)) W3 hs3 hz3
        exact ⟨_, _, hr, .inr ⟨rfl, .exit id, hIx _ _ _ _ hi3 (hbook _), hl4, hk4⟩⟩
      | goto t =>
        obtain ⟨hz3, hi3⟩ := hp
        obtain ⟨hr, hl4, hk4, hz4⟩ := fin (some (.goto t)) W3 hs3 hz3
        exact ⟨_, _, hr, .inr ⟨rfl, .goto t, hIx _ _ _ _ hi3 (hbook _), hl4, hk4⟩⟩
      | panic ch => exact hp.elim
      | outgrown => exact hp.elim
    · rintro e W2 ⟨⟨v, rfl⟩, (⟨xs, hS, hi, hl, hk⟩ | ⟨pre, hSp, c, hi, hl, hk⟩)⟩
      · have hr := run_endLoop (P := P) hl (by rw [hrec]; simp)
        rw [hrec] at hr
        exact ⟨none, _, hr, hdone xs _ hS (hI _ _ _ hi (hbook _)) ((World.putObj_heap_other (by omega)).trans hk)⟩
      · have hr := run_endLoop (P := P) hl (by rw [hrec]; simp)
        rw [hrec] at hr
        exact ⟨some c, _, hr, hstop c pre _ hSp (hIx _ _ _ _ hi (hbook _)) ((World.putObj_heap_other (by omega)).trans hk)⟩
theorem plainIn {c : Code} (hp : plainB c = true) {Q : Exit → Act → World → Prop} {t : Fr} {w : World} (h : vc P c (fun e t w => Q e ⟨t.toArray, ds⟩ w) t w .mk) : c.wpIn (fen ro) n P Q ⟨t.toArray, ds⟩ w :=
  wpIn_mono (vcIn_ok c hp _ t w h) (by rintro e a w' ⟨hd, hh⟩; rw [act_eqD hd]; exact hh)
theorem seqIn {a b : Code} (hp : plainB a = true) {Q : Exit → Act → World → Prop} {t : Fr} {w : World} (h : vc P a (seqQ (fun t w => b.wpIn (fen ro) n P Q ⟨t.toArray, ds⟩ w) (fun e t w => Q e ⟨t.toArray, ds⟩ w) .mk) t w .mk) : (Code.seq a b).wpIn (fen ro) n P Q ⟨t.toArray, ds⟩ w := by
  refine wpIn_seq (wpIn_mono (vcIn_ok a hp _ t w h) ?_)
  rintro e a' w' ⟨hd, hh⟩
  cases e <;> simp only [seqQ] at hh <;> simp only [Exit.then] <;> (rw [act_eqD hd]; exact hh)

theorem roundWide {m m' l : Nat} {f : FuncId} {tmps : Array Value} {assign body : Code} {w : World} {R : Ending → World → Prop} (h : RoundIn Fence.wide m P l f tmps assign body w R) : RoundIn (fen none) m' P l f tmps assign body w R :=
  ⟨trivial, fun c cs _ => h.2 c cs (room_wide _)⟩

/-- A region that calls yield. -/
theorem yieldRegion {id l m : Nat} {l1 l2 : List Oper} {o : Oper} {x : Operand} {args : Array Operand} {ats : Array TypeId} {Q : Exit → Act → World → Prop} {t : Fr} {w : World} (hp1 : l1.all noDefer = true) (hp2 : l2.all noDefer = true) (ho : o.op = .call { callee := .value x, args, argTypes := ats }) (hg : o.guard = none)
    (h : vcOps P (l1 ++ o :: l2) (fun t w => ev t x = .func (.yield l) #[] #[] ∧ ∃ R, YieldAt Fence.wide m P l (args.toList.map (ev t)).toArray w R ∧ ∀ e w', R e w' → ∃ b, e = .returned (.bool b) ∧ vcOps P (l1 ++ o :: l2) (fun t w => Q .normal ⟨t.toArray, ds⟩ w) (fun e t w => Q e ⟨t.toArray, ds⟩ w) l2 (put t o.dst (.bool b)) w' .mk) (fun e t w => Q e ⟨t.toArray, ds⟩ w) l1 t w .mk) :
    (Code.region id (l1 ++ o :: l2).toArray false).wpIn (fen none) n P Q ⟨t.toArray, ds⟩ w := by
  refine wpIn_region_list ?_
  rw [List.toList_toArray]
  refine vcOpsIn_ok (ro := none) (o :: l2) ?_ (fun e a w hh => by rw [act_eqD hh.1]; exact hh.2) l1 hp1 t w h
  rintro t1 w1 ⟨hx, R, ⟨fn, tmps, assign, body, hy, hR⟩, hk⟩
  unfold wpListIn
  rw [if_pos (by simp [Region.wanted, hg])]
  refine ⟨fun _ _ => trivial, ?_⟩
  rw [semAt_fen (by simp [noDefer, ho]), ev_eq]
  have he : (execOp (ev t1) o).run P w1 = .ok (.round l fn tmps assign body) w1 := by
    unfold execOp
    simp only [ho]
    have hy' : (Instr.yield l (args.map (ev t1))).run P w1 = .ok (.round l fn tmps assign body) w1 := by rw [show args.map (ev t1) = (args.toList.map (ev t1)).toArray by rw [← Array.toList_map]]; exact hy
    simp [resolve, hx, invoke, go_sem, hy']
  rw [he]
  refine ⟨(fun hh => by cases hh), (roundWide hR).mono fun e w' hr => ?_⟩
  obtain ⟨b, rfl, hb⟩ := hk e w' hr
  show wpListIn _ _ _ _ _ _ _ _
  rw [put_eqD]
  have := vcOpsIn_ok (P := P) (n := n) (ro := none) (ds := ds) (ops := l1 ++ o :: l2) (next := Q) [] (fun t w hh => hh) (fun e a w hh => by rw [act_eqD hh.1]; exact hh.2) l2 hp2 _ w' hb
  simpa using this

theorem loopIn {c : Code} {Q : Exit → Act → World → Prop} {t : Fr} {w : World} (M : List Nat) (I : (Nat → Value) → World → Prop) (μ : (Nat → Value) → World → Nat) (h0 : I (at_ t) w)
    (hr : ∀ z w', I z w' → c.wpIn (fen ro) n P (fun e a' w'' => match e with | .normal => a'.defers = ds ∧ a'.tmps.toList = ov t M (at_ a'.tmps.toList) ∧ I (at_ a'.tmps.toList) w'' ∧ μ (at_ a'.tmps.toList) w'' < μ z w' | e => Q e a' w'') ⟨(ov t M z).toArray, ds⟩ w') : (Code.loop c).wpIn (fen ro) n P Q ⟨t.toArray, ds⟩ w := by
  refine wpIn_loop (fun a w' => a.defers = ds ∧ a.tmps.toList = ov t M (at_ a.tmps.toList) ∧ I (at_ a.tmps.toList) w') (fun a w' => μ (at_ a.tmps.toList) w') ⟨rfl, by simp [ov_at], by simpa using h0⟩ ?_
  rintro a w' ⟨hd, ht, hI⟩
  have h1 := hr _ w' hI
  rw [← ht] at h1
  rw [act_eqD hd]
  refine wpIn_mono h1 ?_
  intro e a' w'' hh
  cases e <;> simp only [Exit.then] <;> first | exact hh | skip
  obtain ⟨hd', h1, h2, h3⟩ := hh
  exact ⟨⟨hd', h1, h2⟩, by simpa using h3⟩

/-- The return of a function in which a range over a function stands. -/
theorem leave0 {fn : Func} {rs : List ResultVar} {R : VK} (hrs : fn.results = rs.toArray) {t : Fr} {w : World} (h : retC P rs R .mk .ret t w) : bodyPostM Fence.wide n P fn (fun e w' => ∃ v, e = .returned v ∧ R v w') .ret ⟨t.toArray, []⟩ w := by
  obtain ⟨vs, hv, hk⟩ := resultsC_run fn rs hrs t _ h
  exact ⟨_, hv, _, rfl, hk⟩
theorem leaveD {fn : Func} {rs : List ResultVar} {R : VK} (hrs : fn.results = rs.toArray) {t : Fr} {w : World} {D : Nat} (hD : w.heap[D]? = some (.deferred (some []))) (h : retC P rs R .mk .ret t (w.putObj D (.deferred none))) : bodyPostM Fence.wide n P fn (fun e w' => ∃ v, e = .returned v ∧ R v w') .ret ⟨t.toArray, [{ target := .collected D, args := #[] }]⟩ w := by
  obtain ⟨vs, hv, hk⟩ := resultsC_run fn rs hrs t _ h
  exact ⟨by simp, .inl ⟨_, _, rfl, run_takeDeferred hD, _, hv, _, rfl, hk⟩⟩
theorem fun_of_in {f : FuncId} {fn : Func} {c : Code} {args : List Value} {w : World} {R : VK} (hf : P.funcs[f]? = some fn) (hb : fn.body = some c) (hn : (fn.name == "runtime.NumGoroutine") = false)
    (h : c.wpIn (fen none) 0 P (bodyPostM Fence.wide 0 P fn (fun e w' => ∃ v, e = .returned v ∧ R v w')) ⟨(fr0 args fn.ntmps).toArray, []⟩ w) : Fun P f args w R := by
  refine ⟨callFunc_enter hf (by simp [hb]) hn, (callsIn_wide (n := 0)).1 (callsIn_of_wp_marks hf hb trivial ?_ rfl)⟩
  have e : (args.toArray ++ Array.replicate (fn.ntmps - args.toArray.size) undef) = (fr0 args fn.ntmps).toArray := by simp [fr0]
  rw [e]
  exact h
theorem condF {F : Fence} {c : Operand} {x y : Code} {Q : Exit → Act → World → Prop} {t : Fr} {w : World} (hc : ev t c = .bool false) (h : y.wpIn F n P Q ⟨t.toArray, ds⟩ w) : (Code.cond c x y).wpIn F n P Q ⟨t.toArray, ds⟩ w :=
  wpIn_cond_false (by rw [ev_eq]; exact hc) h
theorem condT {F : Fence} {c : Operand} {x y : Code} {Q : Exit → Act → World → Prop} {t : Fr} {w : World} (hc : ev t c = .bool true) (h : x.wpIn F n P Q ⟨t.toArray, ds⟩ w) : (Code.cond c x y).wpIn F n P Q ⟨t.toArray, ds⟩ w :=
  wpIn_cond_true (by rw [ev_eq]; exact hc) h
theorem then_n {K : Act → World → Prop} {Q : Exit → Act → World → Prop} {a : Act} {w : World} : Exit.then K Q .normal a w = K a w := (rfl)
theorem then_r {K : Act → World → Prop} {Q : Exit → Act → World → Prop} {a : Act} {w : World} : Exit.then K Q .ret a w = Q .ret a w := (rfl)
theorem then_e {K : Act → World → Prop} {Q : Exit → Act → World → Prop} {a : Act} {w : World} (i : Nat) : Exit.then K Q (.exit i) a w = Q (.exit i) a w := (rfl)
theorem inBlock_n {i : Nat} {Q : Exit → Act → World → Prop} {a : Act} {w : World} : Exit.inBlock i Q .normal a w = Q .normal a w := (rfl)
theorem inBlock_r {i : Nat} {Q : Exit → Act → World → Prop} {a : Act} {w : World} : Exit.inBlock i Q .ret a w = Q .ret a w := (rfl)
theorem inBlock_e {i j : Nat} {Q : Exit → Act → World → Prop} {a : Act} {w : World} : Exit.inBlock i Q (.exit j) a w = if j = i then Q .normal a w else Q (.exit j) a w := (rfl)
theorem zip1 (p : Tmp) (v : Value) (t : Fr) : ((#[p] : Array Tmp).zip #[v]).foldl (fun t (x : Tmp × Value) => t.setIfInBounds x.1 x.2) t.toArray = (t.set p v).toArray := by
  simp
theorem roundQ_n {α : Type} {Z : Nat → Prop} {I : List α → World → Prop} {Ix : Code → List α → World → Prop} {xs : List α} {W W' : World} {a : Act} : roundQ Z I Ix xs W .normal a W' = ((∀ k, Z k → W'.heap[k]? = W.heap[k]?) ∧ I xs W') := (rfl)
theorem roundQ_r {α : Type} {Z : Nat → Prop} {I : List α → World → Prop} {Ix : Code → List α → World → Prop} {xs : List α} {W W' : World} {a : Act} : roundQ Z I Ix xs W .ret a W' = ((∀ k, Z k → W'.heap[k]? = W.heap[k]?) ∧ Ix .ret xs W') := (rfl)
theorem roundQ_e {α : Type} {Z : Nat → Prop} {I : List α → World → Prop} {Ix : Code → List α → World → Prop} {xs : List α} {W W' : World} {a : Act} (i : Nat) : roundQ Z I Ix xs W (.exit i) a W' = ((∀ k, Z k → W'.heap[k]? = W.heap[k]?) ∧ Ix (.exit i) xs W') := (rfl)
/-- The law, with the evaluator's words. -/
theorem rangeV {α : Type} {g : Operand} {q : Tmp} {assign body : Code} {Q : Exit → Act → World → Prop} {t : Fr} {w : World} {gf : Nat} {lb : List Value} (hg : ev t g = .func (.func gf) #[] lb.toArray) (eg : ∀ args w, (callFunc gf args).run P w = .ok (.enter gf args) w)
    {en : α → Value} {B Z : Nat → Prop} {S Sp : List α → Prop} {A : List α → α → Prop} (hB : ∀ k, B k → k < w.heap.size) (hZ : ∀ k, Z k → k < w.heap.size) (hseq : Iter P (n - 1) gf lb.toArray (fun x => #[en x]) B Z S Sp A w)
    (I : List α → World → Prop) (Ix : Code → List α → World → Prop) (hI : ∀ s W W', I s W → Kept (fun k => B k ∨ k = w.heap.size ∨ k = w.heap.size + 1) W W' → I s W') (hIx : ∀ c s W W', Ix c s W → Kept (fun k => B k ∨ k = w.heap.size ∨ k = w.heap.size + 1) W W' → Ix c s W') (h0 : I [] w) (d : Nat)
    (pa : plainB assign = true) (pb : plainB body = true) (hassign : ∀ (x : α) (W : World), vc P assign (fun e t' W' => e = .normal ∧ t' = ((t.set q (en x)).set d (en x)) ∧ W' = W) (t.set q (en x)) W .mk)
    (hbody : ∀ (pre : List α) (x : α) (W : World), I pre W → A pre x → w.heap.size + 1 < W.heap.size → vc P body (fun e t' W' => W.heap.size ≤ W'.heap.size ∧ roundQ (fun k => Z k ∨ k = w.heap.size ∨ k = w.heap.size + 1) I Ix (pre ++ [x]) W e ⟨t'.toArray, []⟩ W') (((t.set q (en x)).set d (en x))) W .mk)
    (hdone : ∀ (xs : List α) (W : World), S xs → I xs W → W.heap[w.heap.size]? = some (.deferred (some [])) → Q .normal ⟨t.toArray, { target := .collected w.heap.size, args := #[] } :: ds⟩ W)
    (hstop : ∀ (c : Code) (pre : List α) (W : World), Sp pre → Ix c pre W → W.heap[w.heap.size]? = some (.deferred (some [])) → c.wpIn (fen none) n P Q ⟨t.toArray, { target := .collected w.heap.size, args := #[] } :: ds⟩ W) :
    (Code.rangeFunc g #[q] assign body).wpIn (fen none) n P Q ⟨t.toArray, ds⟩ w := by
  refine rangeK (a := ⟨t.toArray, ds⟩) (by rw [ev_eq]; exact hg) eg (encs := fun x => #[en x]) (fun _ => rfl) hB hZ hseq I Ix hI hIx h0 (fun x => ⟨((t.set q (en x)).set d (en x)).toArray, []⟩) ?_ ?_ hdone hstop
  · intro x W K hK
    have e : (((#[q] : Array Tmp).zip #[en x]).foldl (fun t (x : Tmp × Value) => t.setIfInBounds x.1 x.2) t.toArray) = (t.set q (en x)).toArray := zip1 q (en x) t
    show assign.wpIn _ _ _ _ ⟨(((#[q] : Array Tmp).zip #[en x]).foldl (fun t (x : Tmp × Value) => t.setIfInBounds x.1 x.2) t.toArray), []⟩ _
    rw [e]
    refine wpIn_mono (vcIn_ok (ds := []) assign pa _ _ _ (hassign x W)) ?_
    rintro e a w' ⟨hd, rfl, ht, rfl⟩
    show K a w'
    rw [act_eqD hd, ht]
    exact hK
  · intro pre x W h1 h2 h3
    refine wpIn_mono (vcIn_ok (ds := []) body pb _ _ _ (hbody pre x W h1 h2 h3)) ?_
    rintro e a w' ⟨hd, h4, h5⟩
    refine ⟨h4, ?_⟩
    rw [act_eqD hd]
    exact h5
end
attribute [push_cast] then_n then_r then_e inBlock_n inBlock_r inBlock_e roundQ_n roundQ_r roundQ_e
end Go.Vc
