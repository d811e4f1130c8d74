import Derived.Test.YtieaebjkbhaoaaaGreatDoorPar
import Derived.Test.YtieaebjkbhaoaaaGreatDoorPrl3
import Derived.Test.YtieaebjkbhaoaaaGreatDoorBoom
namespace Go.Proofs.YtieaebjkbhaoaaaGreatDoor
open Go.Vc Go.Proofs Go.RowKit Cae
set_option maxRecDepth 100000
set_option linter.unusedSimpArgs false
set_option linter.unusedVariables false
attribute [local irreducible] wpL callK valK unitK runK Fun Sl Own vc vcOps opK pureK
set_option maxHeartbeats 4000000

theorem und_wrong : (Tryz.prog.underlying 39).isSome = true := by kernel_rfl
attribute [push_cast] und_wrong
/-! The parser: what it holds, what it throws. -/
def encTok (t : Tok) : List Value := [.int .i64 t.kind, str t.text, .int .i64 t.pos]
structure TL (l : List Tok) : Prop where
  last : ∃ i e, l = i ++ [e] ∧ e.kind = 5
  txt : ∀ t ∈ l, t.text.length ≤ 1000000
  len : l.length ≤ 900
  num : ∀ t ∈ l, t.kind = 2 → t.text ≠ [] ∧ ∀ c ∈ t.text, digitP c = true
theorem TL.cons {l : List Tok} (h : TL l) : ∃ t r, l = t :: r := by
  obtain ⟨i, e, rfl, _⟩ := h.last
  cases i with
  | nil => exact ⟨e, [], rfl⟩
  | cons x i => exact ⟨x, i ++ [e], rfl⟩
theorem TL.tail {t : Tok} {r : List Tok} (h : TL (t :: r)) (h5 : t.kind ≠ 5) : TL r := by
  obtain ⟨i, e, he, h5'⟩ := h.last
  refine ⟨?_, fun x hx => h.txt x (List.mem_cons_of_mem _ hx), by have := h.len; rw [List.length_cons] at this; omega, fun x hx => h.num x (List.mem_cons_of_mem _ hx)⟩
  cases i with
  | nil => simp at he; rw [he.1] at h5; exact absurd h5' h5
  | cons x i => simp at he; exact ⟨i, e, he.2, h5'⟩
theorem hd_cons (t : Tok) (r : List Tok) : hd (t :: r) = t := rfl
structure PS (pb B : Nat) (w : World) (l : List Tok) : Prop where
  st : ∃ v, Blk w pb 46 [v] ∧ Sl (fun b => b = pb ∨ B ≤ b) 3 (En encTok) w v l
  lt : pb < B
  le : B ≤ w.heap.size
  tl : TL l
  db : Db w
  er : Errs w
  gl : 8 ≤ pb
theorem Errs.kept {X : Nat → Prop} {w w' : World} (h : Errs w) (hb : Kept X w w') (hX : ∀ i, i < 8 → ¬ X i) : Errs w' := by
  obtain ⟨⟨t, p, h1⟩, ⟨t', p', h2⟩⟩ := h
  exact ⟨⟨t, p, hb.cell h1 (hX _ (by decide))⟩, ⟨t', p', hb.cell h2 (hX _ (by decide))⟩⟩
theorem Db.kept {X : Nat → Prop} {w w' : World} (h : Db w) (hb : Kept X w w') (hX : ∀ i, i < 8 → ¬ X i) : Db w' := hb.cell h (hX _ (by decide))
theorem PS.kept {pb B : Nat} {w w' : World} {l : List Tok} {Y : Nat → Prop} (h : PS pb B w l) (hk : Kept Y w w') (hY : ∀ i, Y i → B ≤ i) : PS pb B w' l := by
  obtain ⟨v, h1, h2⟩ := h.st
  have hl := h.lt
  have hg := h.gl
  exact ⟨⟨v, h1.kept hk (fun hh => by have := hY _ hh; omega), h2.kept hk (fun i hi => .inr (hY i hi))⟩, h.lt, Nat.le_trans h.le hk.size, h.tl, h.db.kept hk (fun i hi hh => by have := hY _ hh; omega), h.er.kept hk (fun i hi hh => by have := hY _ hh; omega), h.gl⟩
theorem PS.below {pb B : Nat} {w w' : World} {l : List Tok} (h : PS pb B w l) (hk : Below w.heap.size w w') : PS pb B w' l :=
  h.kept (Kept.of_below hk (X := fun i => w.heap.size ≤ i) (fun i h1 h2 => h1)) (fun i hi => Nat.le_trans h.le hi)
theorem PS.hd {pb B : Nat} {w : World} {t : Tok} {r : List Tok} (h : PS pb B w (t :: r)) : ∃ b o c, Blk w pb 46 [.slice (some ⟨b, o, none⟩) (r.length + 1) c] ∧ r.length + 1 ≤ c ∧ b ≠ pb ∧
    w.cell? ⟨b, o, none⟩ = some (.int .i64 t.kind) ∧ w.cell? ⟨b, o + 1, none⟩ = some (str t.text) ∧ w.cell? ⟨b, o + 2, none⟩ = some (.int .i64 t.pos) ∧ cellsAt w ⟨b, o, none⟩ 0 3 = some [.int .i64 t.kind, str t.text, .int .i64 t.pos] := by
  obtain ⟨v, h1, h2⟩ := h.st
  obtain ⟨a, c, rfl, hc⟩ := h2.shape
  obtain ⟨b, o, rfl, hb, hcell⟩ := h2.get (i := 0) (x := t) rfl
  refine ⟨b, o, c, h1, hc, fun e => hb (.inl e), ?_, ?_, ?_, cellsAt_of (encTok t) 0 (fun j u hu => by have := hcell j u hu; simpa using this)⟩
  · have := hcell 0 _ rfl; simpa using this
  · have := hcell 1 _ rfl; simpa using this
  · have := hcell 2 _ rfl; simpa using this
/-- Behind a token that is taken. -/
theorem PS.pop {pb B b o c : Nat} {w w' : World} {t : Tok} {r : List Tok} (h : PS pb B w (t :: r)) (hb : Blk w pb 46 [.slice (some ⟨b, o, none⟩) (r.length + 1) c]) (h5 : t.kind ≠ 5)
    (hp : Put w w' pb 46 [.slice (if (c : Int) = 1 then some ⟨b, o, none⟩ else some ⟨b, o + 3, none⟩) r.length (c - 1)]) : PS pb B w' r := by
  have hl := h.lt
  have hg := h.gl
  have htl := h.tl.tail h5
  obtain ⟨t2, r2, rfl⟩ := htl.cons
  obtain ⟨v, h1, h2⟩ := h.st
  have e : v = .slice (some ⟨b, o, none⟩) ((t2 :: r2).length + 1) c := by
    have h1' : w.heap[pb]? = _ := h1
    have hb' : w.heap[pb]? = _ := hb
    rw [h1'] at hb'
    simpa using hb'
  subst e
  have hk := hp.kept
  have hc : (t2 :: r2).length + 1 ≤ c := by
    obtain ⟨a, c', he, hc⟩ := h2.shape
    cases he
    exact hc
  have hc1 : ¬ (c : Int) = 1 := by rw [List.length_cons] at hc; omega
  have hpb := hp.blk
  rw [if_neg hc1] at hpb
  refine ⟨⟨_, hpb, ?_⟩, h.lt, by rw [hp.size]; exact h.le, htl, h.db.kept hk (fun i hi hh => by omega), h.er.kept hk (fun i hi hh => by omega), h.gl⟩
  unfold Sl at h2 ⊢
  obtain ⟨a, c', he, hc', hall⟩ := h2
  cases he
  refine ⟨some ⟨b, o + 3, none⟩, c - 1, rfl, by omega, fun i x hx => ?_⟩
  obtain ⟨b', o', cs, ha, hX, hcs, hcell, hr⟩ := hall (i + 1) x (by simpa using hx)
  cases ha
  refine ⟨b, o + 3, cs, rfl, hX, hcs, fun j u hu => ?_, hr⟩
  have := hcell j u hu
  rw [show o + (i + 1) * 3 + j = o + 3 + i * 3 + j by omega] at this
  exact hk.cell this (fun hh => hX (.inl hh))
theorem slice1 {e e' : TypeId} {b o n c : Nat} {kk : IntKind} {L : VP} {other : Prop} (p) : sliceK (some (.slice e)) (some (e', 3)) (.slice (some ⟨b, o, none⟩) (n + 1) c) (some (.int kk 1)) none none L other p = ((1 ≤ n + 1 ∧ n + 1 ≤ c) ∧ L (.slice (if (c : Int) = 1 then some ⟨b, o, none⟩ else some ⟨b, o + 3, none⟩) n (c - 1))) := by
  simp only [sliceK, natAt, add_lit, Option.map_some]
  apply propext
  constructor
  · rintro ⟨h1, h2⟩
    refine ⟨by omega, ?_⟩
    have e1 : ((n + 1 : Nat) : Int).toNat - (1 : Int).toNat = n := by omega
    have e2 : c - (1 : Int).toNat = c - 1 := by omega
    rw [e1, e2] at h2
    exact h2
  · rintro ⟨h1, h2⟩
    refine ⟨by omega, ?_⟩
    have e1 : ((n + 1 : Nat) : Int).toNat - (1 : Int).toNat = n := by omega
    have e2 : c - (1 : Int).toNat = c - 1 := by omega
    rw [e1, e2]
    exact h2
/-- What is thrown: an error at a place. -/
def Thr (sz : Nat) (w : World) (c : List PanicEntry) (e pos : Nat) : Prop := ∃ b, sz ≤ b ∧ c = [{ v := .iface 39 (.agg #[.iface 73 (.pointer (some ⟨b, 0, none⟩))]), recovered := false }] ∧ Blk w b 75 [.int .i64 e, .int .i64 pos]
theorem Thr.mono {sz sz' : Nat} {w : World} {c : List PanicEntry} {e pos : Nat} (h : Thr sz w c e pos) (hs : sz' ≤ sz) : Thr sz' w c e pos := by
  obtain ⟨b, h1, h2, h3⟩ := h
  exact ⟨b, by omega, h2, h3⟩
def PRes {α : Type} (pb B : Nat) (w : World) (l : List Tok) (p : Pa α) (V : World → Value → α → Prop) : VK := fun r w' => ∃ x l', p l = .ok (x, l') ∧ V w' r x ∧ PS pb B w' l' ∧ Kept (· = pb) w w'
def PThr {α : Type} (pb : Nat) (w : World) (l : List Tok) (p : Pa α) : List PanicEntry → World → Prop := fun c w' => ∃ e pos, p l = .error (e, pos) ∧ Thr w.heap.size w' c e pos ∧ Kept (· = pb) w w'
def Pc {α : Type} (f : FuncId) (args : List Value) (pb B : Nat) (w : World) (l : List Tok) (p : Pa α) (V : World → Value → α → Prop) : Prop := Fun2 Tryz.prog f args w (PRes pb B w l p V) (PThr pb w l p)

theorem fail_c (e : Nat) {pb B : Nat} {w : World} {l : List Tok} (h : PS pb B w l) : Fun2 Tryz.prog 14 [.pointer (some ⟨pb, 0, none⟩), .int .i64 (e : Int)] w (fun _ _ => False) (fun c w' => Thr w.heap.size w' c e (Cae.hd l).pos ∧ Below w.heap.size w w') := by
  obtain ⟨t, r, rfl⟩ := h.tl.cons
  obtain ⟨b, o, c, hB, hc, hne, c0, c1, c2, c3⟩ := h.hd
  have cb : w.cell? ⟨pb, 0, none⟩ = some (.slice (some ⟨b, o, none⟩) (r.length + 1) c) := hB.cell rfl
  refine fun2_of_vc Tryz.func14 rfl (by kernel_rfl) [] rfl ?_
  simp -dsimp (maxSteps := 4000000) only [push_cast, fr0, Tryz.ntmps14, List.length_cons, List.length_nil, Nat.reduceAdd, Nat.reduceSub, Nat.reduceBEq, List.replicate_succ, List.replicate_zero]
  simp -dsimp only [push_cast, Nat.reduceAdd, Nat.reduceLeDiff, Nat.reduceBEq, decide_true, ne_eq, eq_self, not_true_eq_false, not_false_eq_true, true_imp_iff, false_imp_iff, Int.reduceNe, Int.reduceEq, Int.reduceLT, Int.reduceLE, Bool.not_true, Bool.not_false, cb, c2]
  refine ⟨by omega, boxK_of ?_⟩
  intro w' hw'
  have hB2 : Blk w' w.heap.size 75 [.int .i64 e, .int .i64 t.pos] := hw'.blk
  have hbb := hw'.below
  simp -dsimp only [push_cast, Nat.reduceAdd, Nat.reduceLeDiff, Nat.reduceBEq, decide_true, ne_eq, eq_self, not_true_eq_false, not_false_eq_true, true_imp_iff, false_imp_iff, Int.reduceNe, Int.reduceEq, Int.reduceLT, Int.reduceLE, Bool.not_true, Bool.not_false]
  refine panicK ?_
  simp -dsimp only [push_cast, Nat.reduceAdd, Nat.reduceLeDiff, Nat.reduceBEq, decide_true, ne_eq, eq_self, not_true_eq_false, not_false_eq_true, true_imp_iff, false_imp_iff, Int.reduceNe, Int.reduceEq, Int.reduceLT, Int.reduceLE, Bool.not_true, Bool.not_false]
  exact ⟨⟨_, Nat.le_refl _, rfl, hB2⟩, hbb⟩
theorem see_c (s : List UInt8) {pb B : Nat} {w : World} {l : List Tok} (h : PS pb B w l) : Fun Tryz.prog 23 [.pointer (some ⟨pb, 0, none⟩), str s] w fun r w' => r = .bool (seeP s l) ∧ w' = w := by
  obtain ⟨t, r, rfl⟩ := h.tl.cons
  obtain ⟨b, o, c, hB, hc, hne, c0, c1, c2, c3⟩ := h.hd
  have cb : w.cell? ⟨pb, 0, none⟩ = some (.slice (some ⟨b, o, none⟩) (r.length + 1) c) := hB.cell rfl
  have hs : seeP s (t :: r) = (t.kind != 5 && t.text == s) := rfl
  refine fun_of_vc Tryz.func23 rfl (by kernel_rfl) [4] rfl ?_
  simp -dsimp (maxSteps := 4000000) only [push_cast, fr0, Tryz.ntmps23, List.length_cons, List.length_nil, Nat.reduceAdd, Nat.reduceSub, Nat.reduceBEq, List.replicate_succ, List.replicate_zero]
  simp -dsimp only [push_cast, Nat.reduceAdd, Nat.reduceLeDiff, Nat.reduceBEq, decide_true, ne_eq, eq_self, not_true_eq_false, not_false_eq_true, true_imp_iff, false_imp_iff, Int.reduceNe, Int.reduceEq, Int.reduceLT, Int.reduceLE, Bool.not_true, Bool.not_false, cb, c0, c1]
  refine ⟨by omega, fun h5 => ⟨by omega, ?_⟩, fun h5 => ?_⟩
  · rw [hs]
    have h5' : t.kind ≠ 5 := fun e => h5 (by omega)
    congr 1
    by_cases he : t.text = s <;> simp [he, h5']
  · rw [hs]
    have h5' : t.kind = 5 := by omega
    simp [h5']
theorem popP_cons {t : Tok} {r : List Tok} (h : t.kind ≠ 5) : popP (t :: r) = .ok ((), r) := by simp [popP, h]
theorem seeP_kind {s : List UInt8} {t : Tok} {r : List Tok} (h : seeP s (t :: r) = true) : t.kind ≠ 5 := by
  have : (t.kind != 5 && t.text == s) = true := h
  simp at this
  exact this.1
def Took (s : List UInt8) (pb B : Nat) (w : World) (l : List Tok) : VK := fun r w' => (seeP s l = true ∧ r = .bool true ∧ ∃ t r', l = t :: r' ∧ t.kind ≠ 5 ∧ PS pb B w' r' ∧ Kept (· = pb) w w' ∧ w'.heap.size = w.heap.size) ∨ (seeP s l = false ∧ r = .bool false ∧ w' = w)
theorem take_c (s : List UInt8) {pb B : Nat} {w : World} {l : List Tok} (h : PS pb B w l) : Fun Tryz.prog 27 [.pointer (some ⟨pb, 0, none⟩), str s] w (Took s pb B w l) := by
  obtain ⟨t, r, rfl⟩ := h.tl.cons
  obtain ⟨b, o, c, hB, hc, hne, c0, c1, c2, c3⟩ := h.hd
  have cb : w.cell? ⟨pb, 0, none⟩ = some (.slice (some ⟨b, o, none⟩) (r.length + 1) c) := hB.cell rfl
  refine fun_of_vc Tryz.func27 rfl (by kernel_rfl) [4] rfl ?_
  simp -dsimp (maxSteps := 4000000) only [push_cast, fr0, Tryz.ntmps27, List.length_cons, List.length_nil, Nat.reduceAdd, Nat.reduceSub, Nat.reduceBEq, List.replicate_succ, List.replicate_zero]
  refine callK_of (see_c s h) ?_
  rintro _ _ ⟨rfl, rfl⟩
  cases hs : seeP s (t :: r) with
  | false =>
    simp -dsimp only [push_cast, Nat.reduceAdd, Nat.reduceLeDiff, Nat.reduceBEq, decide_true, ne_eq, eq_self, not_true_eq_false, not_false_eq_true, true_imp_iff, false_imp_iff, Int.reduceNe, Int.reduceEq, Int.reduceLT, Int.reduceLE, Bool.not_true, Bool.not_false]
    exact .inr ⟨hs, rfl, rfl⟩
  | true =>
    have h5 := seeP_kind hs
    simp -dsimp only [push_cast, Nat.reduceAdd, Nat.reduceLeDiff, Nat.reduceBEq, decide_true, ne_eq, eq_self, not_true_eq_false, not_false_eq_true, true_imp_iff, false_imp_iff, Int.reduceNe, Int.reduceEq, Int.reduceLT, Int.reduceLE, Bool.not_true, Bool.not_false, cb, slice1]
    refine ⟨by omega, ?_⟩
    refine storeK_of hB (by simp) rfl ?_
    intro w' hw'
    have hps := h.pop hB h5 hw'
    have hk := hw'.kept
    have hz := hw'.size
    simp -dsimp only [push_cast, Nat.reduceAdd, Nat.reduceLeDiff, Nat.reduceBEq, decide_true, ne_eq, eq_self, not_true_eq_false, not_false_eq_true, true_imp_iff, false_imp_iff, Int.reduceNe, Int.reduceEq, Int.reduceLT, Int.reduceLE, Bool.not_true, Bool.not_false]
    exact .inl ⟨hs, rfl, t, r, rfl, h5, hps, hk, hz⟩
theorem must_c (s : List UInt8) {pb B : Nat} {w : World} {l : List Tok} (h : PS pb B w l) : Pc 24 [.pointer (some ⟨pb, 0, none⟩), str s] pb B w l (mustP s) (fun _ r _ => r = .tuple #[]) := by
  refine fun2_of_vc Tryz.func24 rfl (by kernel_rfl) [] rfl ?_
  simp -dsimp (maxSteps := 4000000) only [push_cast, fr0, Tryz.ntmps24, List.length_cons, List.length_nil, Nat.reduceAdd, Nat.reduceSub, Nat.reduceBEq, List.replicate_succ, List.replicate_zero]
  refine callK_of (take_c s h) ?_
  rintro _ w1 hT
  rcases hT with ⟨hs, rfl, t, r, rfl, h5, hps, hk, hz⟩ | ⟨hs, rfl, rfl⟩
  · simp -dsimp only [push_cast, Nat.reduceAdd, Nat.reduceLeDiff, Nat.reduceBEq, decide_true, ne_eq, eq_self, not_true_eq_false, not_false_eq_true, true_imp_iff, false_imp_iff, Int.reduceNe, Int.reduceEq, Int.reduceLT, Int.reduceLE, Bool.not_true, Bool.not_false]
    exact ⟨(), r, by unfold mustP pif; rw [hs]; exact popP_cons h5, rfl, hps, hk⟩
  · simp -dsimp only [push_cast, Nat.reduceAdd, Nat.reduceLeDiff, Nat.reduceBEq, decide_true, ne_eq, eq_self, not_true_eq_false, not_false_eq_true, true_imp_iff, false_imp_iff, Int.reduceNe, Int.reduceEq, Int.reduceLT, Int.reduceLE, Bool.not_true, Bool.not_false]
    refine callP_of (fail_c 3 h) (fun _ _ h => h.elim) ?_
    rintro c w2 ⟨ht, hb⟩
    simp -dsimp only [push_cast, Nat.reduceAdd, Nat.reduceLeDiff, Nat.reduceBEq, decide_true, ne_eq, eq_self, not_true_eq_false, not_false_eq_true, true_imp_iff, false_imp_iff, Int.reduceNe, Int.reduceEq, Int.reduceLT, Int.reduceLE, Bool.not_true, Bool.not_false]
    exact ⟨3, _, by unfold mustP pif; rw [hs]; rfl, ht, Kept.of_below hb (fun i h1 h2 => by omega)⟩
theorem deep_c (n : Int) {pb B : Nat} {w : World} {l : List Tok} (h : PS pb B w l) : Fun2 Tryz.prog 39 [.pointer (some ⟨pb, 0, none⟩), .int .i64 n] w (fun r w' => n ≤ 8 ∧ r = .tuple #[] ∧ w' = w) (fun c w' => 8 < n ∧ Thr w.heap.size w' c 4 (Cae.hd l).pos ∧ Below w.heap.size w w') := by
  refine fun2_of_vc Tryz.func39 rfl (by kernel_rfl) [] rfl ?_
  simp -dsimp (maxSteps := 4000000) only [push_cast, fr0, Tryz.ntmps39, List.length_cons, List.length_nil, Nat.reduceAdd, Nat.reduceSub, Nat.reduceBEq, List.replicate_succ, List.replicate_zero]
  refine ⟨fun h8 => ?_, fun h8 => by omega⟩
  refine callP_of (fail_c 4 h) (fun _ _ h => h.elim) ?_
  rintro c w2 ⟨ht, hb⟩
  simp -dsimp only [push_cast, Nat.reduceAdd, Nat.reduceLeDiff, Nat.reduceBEq, decide_true, ne_eq, eq_self, not_true_eq_false, not_false_eq_true, true_imp_iff, false_imp_iff, Int.reduceNe, Int.reduceEq, Int.reduceLT, Int.reduceLE, Bool.not_true, Bool.not_false]
  exact ⟨h8, ht, hb⟩
def keptL : List (List UInt8 × Value) := [([99, 108, 97, 115, 115], .int .i64 1), ([98, 114, 101, 97, 107], .int .i64 1), ([107, 101, 101, 112], .int .i64 1), ([101, 108, 115, 101], .int .i64 1)]
theorem kept_c (s : List UInt8) (w : World) : Fun Tryz.prog 49 [str s] w fun r w' => r = .bool (keptP s) ∧ Below w.heap.size w w' := by
  refine fun_of_vc Tryz.func49 rfl (by kernel_rfl) [2] rfl ?_
  simp -dsimp (maxSteps := 4000000) only [push_cast, fr0, Tryz.ntmps49, List.length_cons, List.length_nil, Nat.reduceAdd, Nat.reduceSub, Nat.reduceBEq, List.replicate_succ, List.replicate_zero]
  refine makeMapG (key := fun l : List UInt8 => str l) ?_
  intro w1 m1 b1 z1
  simp -dsimp only [push_cast, Nat.reduceAdd, Nat.reduceLeDiff, Nat.reduceBEq, decide_true, ne_eq, eq_self, not_true_eq_false, not_false_eq_true, true_imp_iff, false_imp_iff, Int.reduceNe, Int.reduceEq, Int.reduceLT, Int.reduceLE, Bool.not_true, Bool.not_false]
  refine updateG_new (kt := 9) (et := 3) (k := [99, 108, 97, 115, 115]) (by kernel_rfl) (keyStr (by kernel_rfl)) m1 rfl rfl ?_
  intro w2 m2 k2 z2
  simp -dsimp only [push_cast, Nat.reduceAdd, Nat.reduceLeDiff, Nat.reduceBEq, decide_true, ne_eq, eq_self, not_true_eq_false, not_false_eq_true, true_imp_iff, false_imp_iff, Int.reduceNe, Int.reduceEq, Int.reduceLT, Int.reduceLE, Bool.not_true, Bool.not_false]
  refine updateG_new (kt := 9) (et := 3) (k := [98, 114, 101, 97, 107]) (by kernel_rfl) (keyStr (by kernel_rfl)) m2 rfl (by decide) ?_
  intro w3 m3 k3 z3
  simp -dsimp only [push_cast, Nat.reduceAdd, Nat.reduceLeDiff, Nat.reduceBEq, decide_true, ne_eq, eq_self, not_true_eq_false, not_false_eq_true, true_imp_iff, false_imp_iff, Int.reduceNe, Int.reduceEq, Int.reduceLT, Int.reduceLE, Bool.not_true, Bool.not_false]
  refine updateG_new (kt := 9) (et := 3) (k := [107, 101, 101, 112]) (by kernel_rfl) (keyStr (by kernel_rfl)) m3 rfl (by decide) ?_
  intro w4 m4 k4 z4
  simp -dsimp only [push_cast, Nat.reduceAdd, Nat.reduceLeDiff, Nat.reduceBEq, decide_true, ne_eq, eq_self, not_true_eq_false, not_false_eq_true, true_imp_iff, false_imp_iff, Int.reduceNe, Int.reduceEq, Int.reduceLT, Int.reduceLE, Bool.not_true, Bool.not_false]
  refine updateG_new (kt := 9) (et := 3) (k := [101, 108, 115, 101]) (by kernel_rfl) (keyStr (by kernel_rfl)) m4 rfl (by decide) ?_
  intro w5 m5 k5 z5
  have m6 : MapG (fun l : List UInt8 => str l) w5 w.heap.size keptL := m5
  have hb : Below w.heap.size w w5 := b1.trans ((((k2.trans k3 (fun _ _ h => h)).trans k4 (fun _ _ h => h)).trans k5 (fun _ _ h => h)).below (by omega) (fun i h => by omega))
  simp -dsimp only [push_cast, Nat.reduceAdd, Nat.reduceLeDiff, Nat.reduceBEq, decide_true, ne_eq, eq_self, not_true_eq_false, not_false_eq_true, true_imp_iff, false_imp_iff, Int.reduceNe, Int.reduceEq, Int.reduceLT, Int.reduceLE, Bool.not_true, Bool.not_false]
  refine lookupG (kt := 9) (et := 3) (z := .int .i64 0) (c := false) (k := s) (by kernel_rfl) (keyStr (by kernel_rfl)) (by kernel_rfl) m6 ?_
  cases hk : keptP s with
  | true =>
    have ha : (assocG s keptL).getD (.int .i64 0) = .int .i64 1 := by
      simp only [keptP, Bool.or_eq_true, beq_iff_eq] at hk
      rcases hk with ((rfl | rfl) | rfl) | rfl <;> rfl
    rw [if_neg (by decide), ha]
    simp -dsimp only [push_cast, Nat.reduceAdd, Nat.reduceLeDiff, Nat.reduceBEq, decide_true, ne_eq, eq_self, not_true_eq_false, not_false_eq_true, true_imp_iff, false_imp_iff, Int.reduceNe, Int.reduceEq, Int.reduceLT, Int.reduceLE, Bool.not_true, Bool.not_false]
    exact hb
  | false =>
    have ha : (assocG s keptL).getD (.int .i64 0) = .int .i64 0 := by
      simp only [keptP, Bool.or_eq_false_iff, beq_eq_false_iff_ne] at hk
      simp [keptL, assocG, hk.1.1.1, hk.1.1.2, hk.1.2, hk.2]
    rw [if_neg (by decide), ha]
    simp -dsimp only [push_cast, Nat.reduceAdd, Nat.reduceLeDiff, Nat.reduceBEq, decide_true, ne_eq, eq_self, not_true_eq_false, not_false_eq_true, true_imp_iff, false_imp_iff, Int.reduceNe, Int.reduceEq, Int.reduceLT, Int.reduceLE, Bool.not_true, Bool.not_false]
    exact ⟨rfl, hb⟩
theorem named_c {pb B : Nat} {w : World} {l : List Tok} (h : PS pb B w l) : Fun Tryz.prog 37 [.pointer (some ⟨pb, 0, none⟩)] w fun r w' => r = .bool (namedP l) ∧ Below w.heap.size w w' := by
  obtain ⟨t, r, rfl⟩ := h.tl.cons
  obtain ⟨b, o, c, hB, hc, hne, c0, c1, c2, c3⟩ := h.hd
  have cb : w.cell? ⟨pb, 0, none⟩ = some (.slice (some ⟨b, o, none⟩) (r.length + 1) c) := hB.cell rfl
  have hs : namedP (t :: r) = (t.kind == 1 && !keptP t.text) := rfl
  refine fun_of_vc Tryz.func37 rfl (by kernel_rfl) [2] rfl ?_
  simp -dsimp (maxSteps := 4000000) only [push_cast, fr0, Tryz.ntmps37, List.length_cons, List.length_nil, Nat.reduceAdd, Nat.reduceSub, Nat.reduceBEq, List.replicate_succ, List.replicate_zero]
  simp -dsimp only [push_cast, Nat.reduceAdd, Nat.reduceLeDiff, Nat.reduceBEq, decide_true, ne_eq, eq_self, not_true_eq_false, not_false_eq_true, true_imp_iff, false_imp_iff, Int.reduceNe, Int.reduceEq, Int.reduceLT, Int.reduceLE, Bool.not_true, Bool.not_false, cb, c0, c1]
  refine ⟨by omega, fun h5 => ⟨by omega, ?_⟩, fun h5 => ?_⟩
  · refine callK_of (kept_c t.text w) ?_
    rintro _ w1 ⟨rfl, hb⟩
    have h5' : t.kind = 1 := by omega
    simp -dsimp only [push_cast, Nat.reduceAdd, Nat.reduceLeDiff, Nat.reduceBEq, decide_true, ne_eq, eq_self, not_true_eq_false, not_false_eq_true, true_imp_iff, false_imp_iff, Int.reduceNe, Int.reduceEq, Int.reduceLT, Int.reduceLE, Bool.not_true, Bool.not_false]
    exact ⟨by rw [hs, h5']; rfl, hb⟩
  · have h5' : t.kind ≠ 1 := fun e => h5 (by omega)
    exact ⟨by rw [hs]; simp [h5'], Below.refl _ _⟩
end Go.Proofs.YtieaebjkbhaoaaaGreatDoor
