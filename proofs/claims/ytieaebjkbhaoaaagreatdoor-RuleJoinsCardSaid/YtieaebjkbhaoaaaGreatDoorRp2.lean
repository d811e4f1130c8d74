import Derived.Test.YtieaebjkbhaoaaaGreatDoorRp1
namespace Go.Proofs.YtieaebjkbhaoaaaGreatDoor
open Go.Vc Go.Proofs Go.RowKit Cae
set_option maxRecDepth 100000
set_option linter.unusedSimpArgs false
set_option linter.unusedVariables false
attribute [local irreducible] wpL callK valK unitK runK Fun Sl Own vc vcOps opK pureK
set_option maxHeartbeats 4000000

theorem name_c {pb B : Nat} {w : World} {l : List Tok} (h : PS pb B w l) : Pc 25 [.pointer (some ⟨pb, 0, none⟩)] pb B w l nameP (fun _ r n => r = str n) := by
  obtain ⟨t, r, rfl⟩ := h.tl.cons
  obtain ⟨b, o, c, hB, hc, hne, c0, c1, c2, c3⟩ := h.hd
  have cb : w.cell? ⟨pb, 0, none⟩ = some (.slice (some ⟨b, o, none⟩) (r.length + 1) c) := hB.cell rfl
  have hn : namedP (t :: r) = (t.kind == 1 && !keptP t.text) := rfl
  refine fun2_of_vc Tryz.func25 rfl (by kernel_rfl) [.tmp 2] rfl ?_
  simp -dsimp (maxSteps := 4000000) only [push_cast, fr0, Tryz.ntmps25, List.length_cons, List.length_nil, Nat.reduceAdd, Nat.reduceSub, Nat.reduceBEq, List.replicate_succ, List.replicate_zero]
  simp -dsimp only [push_cast, Nat.reduceAdd, Nat.reduceLeDiff, Nat.reduceBEq, decide_true, ne_eq, eq_self, not_true_eq_false, not_false_eq_true, true_imp_iff, false_imp_iff, Int.reduceNe, Int.reduceEq, Int.reduceLT, Int.reduceLE, Bool.not_true, Bool.not_false, cb, Nat.zero_mul, Nat.add_zero, c3]
  refine ⟨by omega, ?_⟩
  refine allocK (z := [.int .i64 0, str [], .int .i64 0]) (by kernel_rfl) ?_
  intro w1 hw1
  have B1 := hw1.blk
  have P1 := h.below hw1.below
  have z1 := hw1.size
  have b1 := hw1.below
  simp -dsimp only [push_cast, Nat.reduceAdd, Nat.reduceLeDiff, Nat.reduceBEq, decide_true, ne_eq, eq_self, not_true_eq_false, not_false_eq_true, true_imp_iff, false_imp_iff, Int.reduceNe, Int.reduceEq, Int.reduceLT, Int.reduceLE, Bool.not_true, Bool.not_false]
  refine storeAgg (xt := 49) (n := 3) (by kernel_rfl) B1 rfl (by decide) (by simp; exact ⟨rfl, rfl, rfl⟩) ?_
  intro w2 hw2
  have B2 : Blk w2 w.heap.size 49 [.int .i64 t.kind, str t.text, .int .i64 t.pos] := hw2.blk
  have P2 := P1.kept hw2.kept (fun i hi => by have := h.le; omega)
  have z2 := hw2.size
  have b2 := b1.trans (hw2.kept.below (B := w.heap.size) (by omega) (fun i h => by omega))
  simp -dsimp only [push_cast, Nat.reduceAdd, Nat.reduceLeDiff, Nat.reduceBEq, decide_true, ne_eq, eq_self, not_true_eq_false, not_false_eq_true, true_imp_iff, false_imp_iff, Int.reduceNe, Int.reduceEq, Int.reduceLT, Int.reduceLE, Bool.not_true, Bool.not_false]
  refine callK_of (named_c P2) ?_
  rintro _ w3 ⟨rfl, b3⟩
  have P3 := P2.below b3
  have B3 := B2.below b3 (by omega)
  have b13 : Below w.heap.size w w3 := b2.trans (b3.mono (by omega))
  have k13 : Kept (· = pb) w w3 := Kept.of_below b13 (fun i h1 h2 => by omega)
  cases hnm : namedP (t :: r) with
  | false =>
    simp -dsimp only [push_cast, Nat.reduceAdd, Nat.reduceLeDiff, Nat.reduceBEq, decide_true, ne_eq, eq_self, not_true_eq_false, not_false_eq_true, true_imp_iff, false_imp_iff, Int.reduceNe, Int.reduceEq, Int.reduceLT, Int.reduceLE, Bool.not_true, Bool.not_false]
    refine callP_of (fail_c 3 P3) (fun _ _ h => h.elim) ?_
    rintro c w4 ⟨ht, hb⟩
    simp -dsimp only [push_cast, Nat.reduceAdd, Nat.reduceLeDiff, Nat.reduceBEq, decide_true, ne_eq, eq_self, not_true_eq_false, not_false_eq_true, true_imp_iff, false_imp_iff, Int.reduceNe, Int.reduceEq, Int.reduceLT, Int.reduceLE, Bool.not_true, Bool.not_false]
    have hz3 := b3.size
    exact ⟨3, _, by unfold nameP pif; rw [hnm]; rfl, ht.mono (by omega), k13.trans (Kept.of_below hb (X := (· = pb)) (fun i h1 h2 => by omega)) (fun i _ h => h)⟩
  | true =>
    have d1 : w3.cell? ⟨w.heap.size, 1, none⟩ = some (str t.text) := B3.cell rfl
    simp -dsimp only [push_cast, Nat.reduceAdd, Nat.reduceLeDiff, Nat.reduceBEq, decide_true, ne_eq, eq_self, not_true_eq_false, not_false_eq_true, true_imp_iff, false_imp_iff, Int.reduceNe, Int.reduceEq, Int.reduceLT, Int.reduceLE, Bool.not_true, Bool.not_false, d1]
    refine ⟨fun hlong => ?_, fun hshort => ?_⟩
    · refine callP_of (fail_c 4 P3) (fun _ _ h => h.elim) ?_
      rintro c w4 ⟨ht, hb⟩
      simp -dsimp only [push_cast, Nat.reduceAdd, Nat.reduceLeDiff, Nat.reduceBEq, decide_true, ne_eq, eq_self, not_true_eq_false, not_false_eq_true, true_imp_iff, false_imp_iff, Int.reduceNe, Int.reduceEq, Int.reduceLT, Int.reduceLE, Bool.not_true, Bool.not_false]
      have hz3 := b3.size
      have hl : longP (t :: r) = true := decide_eq_true (show 10 < t.text.length by omega)
      exact ⟨4, _, by unfold nameP pif; rw [hnm, hl]; rfl, ht.mono (by omega), k13.trans (Kept.of_below hb (X := (· = pb)) (fun i h1 h2 => by omega)) (fun i _ h => h)⟩
    · have hl : longP (t :: r) = false := decide_eq_false (show ¬ 10 < t.text.length by omega)
      have h5 : t.kind ≠ 5 := by
        rw [hn] at hnm
        simp at hnm
        omega
      have hB3 := hB.kept (Kept.of_below b13 (X := fun i => w.heap.size ≤ i) (fun i h1 h2 => h1)) (by have := h.lt; have := h.le; omega)
      have cb3 : w3.cell? ⟨pb, 0, none⟩ = some (.slice (some ⟨b, o, none⟩) (r.length + 1) c) := hB3.cell rfl
      simp -dsimp only [push_cast, Nat.reduceAdd, Nat.reduceLeDiff, Nat.reduceBEq, decide_true, ne_eq, eq_self, not_true_eq_false, not_false_eq_true, true_imp_iff, false_imp_iff, Int.reduceNe, Int.reduceEq, Int.reduceLT, Int.reduceLE, Bool.not_true, Bool.not_false, cb3, slice1]
      refine ⟨by omega, ?_⟩
      refine storeK_of hB3 (by simp) rfl ?_
      intro w4 hw4
      have P4 := P3.pop hB3 h5 hw4
      have B4 := B3.kept hw4.kept (by have := h.lt; have := h.le; omega)
      have d4 : w4.cell? ⟨w.heap.size, 1, none⟩ = some (str t.text) := B4.cell rfl
      have k4 := k13.trans hw4.kept (fun i _ h => h)
      simp -dsimp only [push_cast, Nat.reduceAdd, Nat.reduceLeDiff, Nat.reduceBEq, decide_true, ne_eq, eq_self, not_true_eq_false, not_false_eq_true, true_imp_iff, false_imp_iff, Int.reduceNe, Int.reduceEq, Int.reduceLT, Int.reduceLE, Bool.not_true, Bool.not_false, d4]
      exact ⟨t.text, r, by simp [nameP, pif, hnm, hl, Cae.pb, peek, popP, pr, h5, Cae.hd], rfl, P4, k4⟩

/-! What a kind is in memory: no block of X is read. -/
def KindV (X : Nat → Prop) (w : World) : Value → KindP → Prop
  | v, .lit pos s => ∃ b sv, v = .pointer (some ⟨b, 0, none⟩) ∧ ¬ X b ∧ Blk w b 82 [.int .i64 1, .int .i64 pos, sv, str [], .pointer none, .pointer none] ∧ Sl X 2 (En encR) w sv s
  | v, .ref pos n => ∃ b, v = .pointer (some ⟨b, 0, none⟩) ∧ ¬ X b ∧ Blk w b 82 [.int .i64 2, .int .i64 pos, .slice none 0 0, str n, .pointer none, .pointer none]
  | v, .not pos k => ∃ b u, v = .pointer (some ⟨b, 0, none⟩) ∧ ¬ X b ∧ Blk w b 82 [.int .i64 6, .int .i64 pos, .slice none 0 0, str [], u, .pointer none] ∧ KindV X w u k
  | v, .bin c pos k r => ∃ b u x, v = .pointer (some ⟨b, 0, none⟩) ∧ ¬ X b ∧ Blk w b 82 [.int .i64 c, .int .i64 pos, .slice none 0 0, str [], u, x] ∧ KindV X w u k ∧ KindV X w x r
theorem KindV.mono {X X' Y : Nat → Prop} {w w' : World} (hk : Kept Y w w') (hY : ∀ i, Y i → X i) (hX : ∀ i, X' i → X i) : ∀ {k : KindP} {v : Value}, KindV X w v k → KindV X' w' v k
  | .lit pos s, v, ⟨b, sv, hv, hb, hB, hs⟩ => ⟨b, sv, hv, fun hh => hb (hX b hh), hB.kept hk (fun hh => hb (hY b hh)), (hs.kept hk hY).weaken hX⟩
  | .ref pos n, v, ⟨b, hv, hb, hB⟩ => ⟨b, hv, fun hh => hb (hX b hh), hB.kept hk (fun hh => hb (hY b hh))⟩
  | .not pos k, v, ⟨b, u, hv, hb, hB, h⟩ => ⟨b, u, hv, fun hh => hb (hX b hh), hB.kept hk (fun hh => hb (hY b hh)), h.mono hk hY hX⟩
  | .bin c pos k r, v, ⟨b, u, x, hv, hb, hB, h, h'⟩ => ⟨b, u, x, hv, fun hh => hb (hX b hh), hB.kept hk (fun hh => hb (hY b hh)), h.mono hk hY hX, h'.mono hk hY hX⟩
theorem KindV.below {X : Nat → Prop} {w w' : World} {k : KindP} {v : Value} (h : KindV X w v k) (hb : Below w.heap.size w w') : KindV X w' v k := by
  induction k generalizing v with
  | lit pos s => obtain ⟨b, sv, hv, hx, hB, hs⟩ := h; exact ⟨b, sv, hv, hx, hB.below hb hB.lt, hs.below hb⟩
  | ref pos n => obtain ⟨b, hv, hx, hB⟩ := h; exact ⟨b, hv, hx, hB.below hb hB.lt⟩
  | not pos k ih => obtain ⟨b, u, hv, hx, hB, hs⟩ := h; exact ⟨b, u, hv, hx, hB.below hb hB.lt, ih hs⟩
  | bin c pos k r ih ih' => obtain ⟨b, u, x, hv, hx, hB, hs, hs'⟩ := h; exact ⟨b, u, x, hv, hx, hB.below hb hB.lt, ih hs, ih' hs'⟩
theorem Sl.top {α : Type} {X : Nat → Prop} {k : Nat} {R : List Value → α → Prop} {w : World} {v : Value} {l : List α} (hk : 0 < k) (h : Sl X k R w v l) : Sl (fun b => X b ∨ w.heap.size ≤ b) k R w v l := by
  unfold Sl at h ⊢
  obtain ⟨a, c, rfl, hc, h⟩ := h
  refine ⟨a, c, rfl, hc, fun i x hx => ?_⟩
  obtain ⟨b, o, cs, ha, hb, hcs, hcell, hr⟩ := h i x hx
  refine ⟨b, o, cs, ha, fun hh => ?_, hcs, hcell, hr⟩
  rcases hh with hh | hh
  · exact hb hh
  · obtain ⟨u, hu⟩ : ∃ u, cs[0]? = some u := ⟨cs[0]'(by omega), List.getElem?_eq_getElem (by omega)⟩
    have := World.block_lt_of_cell? w _ (hcell 0 u hu)
    simp at this
    omega
theorem KindV.top {X : Nat → Prop} {w : World} {k : KindP} {v : Value} (h : KindV X w v k) : KindV (fun b => X b ∨ w.heap.size ≤ b) w v k := by
  induction k generalizing v with
  | lit pos s => obtain ⟨b, sv, hv, hx, hB, hs⟩ := h; exact ⟨b, sv, hv, fun hh => hh.elim hx (fun hh => by have := hB.lt; omega), hB, Sl.top (by decide) hs⟩
  | ref pos n => obtain ⟨b, hv, hx, hB⟩ := h; exact ⟨b, hv, fun hh => hh.elim hx (fun hh => by have := hB.lt; omega), hB⟩
  | not pos k ih => obtain ⟨b, u, hv, hx, hB, hs⟩ := h; exact ⟨b, u, hv, fun hh => hh.elim hx (fun hh => by have := hB.lt; omega), hB, ih hs⟩
  | bin c pos k r ih ih' => obtain ⟨b, u, x, hv, hx, hB, hs, hs'⟩ := h; exact ⟨b, u, x, hv, fun hh => hh.elim hx (fun hh => by have := hB.lt; omega), hB, ih hs, ih' hs'⟩
theorem KindV.ptr {X : Nat → Prop} {w : World} {k : KindP} {v : Value} (h : KindV X w v k) : ∃ b, v = .pointer (some ⟨b, 0, none⟩) ∧ b < w.heap.size := by
  cases k with
  | lit pos s => obtain ⟨b, sv, hv, hx, hB, hs⟩ := h; exact ⟨b, hv, hB.lt⟩
  | ref pos n => obtain ⟨b, hv, hx, hB⟩ := h; exact ⟨b, hv, hB.lt⟩
  | not pos k => obtain ⟨b, u, hv, hx, hB, hs⟩ := h; exact ⟨b, hv, hB.lt⟩
  | bin c pos k r => obtain ⟨b, u, x, hv, hx, hB, hs, hs'⟩ := h; exact ⟨b, hv, hB.lt⟩
def lenAt (w : World) (pb : Nat) : Nat := match w.cell? ⟨pb, 0, none⟩ with
  | some (.slice _ n _) => n
  | _ => 0
theorem PS.len {pb B : Nat} {w : World} {l : List Tok} (h : PS pb B w l) : lenAt w pb = l.length := by
  obtain ⟨v, h1, h2⟩ := h.st
  obtain ⟨a, c, rfl, _⟩ := h2.shape
  unfold lenAt
  rw [h1.cell (o := 0) rfl]
end Go.Proofs.YtieaebjkbhaoaaaGreatDoor
