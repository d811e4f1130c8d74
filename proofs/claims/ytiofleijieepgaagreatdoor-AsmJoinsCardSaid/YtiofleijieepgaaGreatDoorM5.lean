/- Texts of this claim, merged: Par, Al2, Prul, Stp, Pst, Pasm, Pasm2, Pasm3, Pasm4, Pasm5, Pasm6, Pasm7, At1, At2, Fp, Vq, Vr. -/
import Derived.Test.YtiofleijieepgaaGreatDoorM4
import Derived.Test.YtiofleijieepgaaGreatDoorM3
import Derived.Lib.AtoiAllCases
import Derived.Lib.AtoiTie
import Derived.Lib.ItoaNum
import Derived.Lib.CountLaws
import Derived.Lib.Split
import Derived.Lib.LastIndexLaws
import Derived.Lib.IndexBytes
import Derived.Shelf.Strings.Prefix
import Derived.Shelf.Strings.Split
import Derived.Shelf.Strings.LastIndexAll
import Derived.Shelf.Strconv.AtoiAll
import Derived.Shelf.Strconv.Itoa3
import Derived.Shelf.Slices.Turned
import Derived.Lib.AppendIntMem
import Derived.Shelf.Strings.BuilderK
import Derived.Test.YtiofleijieepgaaGreatDoorM1
section
namespace Go.Proofs.YtiofleijieepgaaGreatDoor
open Go.Vc Go.Proofs Go.RowKit Cae
set_option maxRecDepth 100000
set_option linter.unusedSimpArgs false
set_option linter.unusedVariables false
attribute [local irreducible] wpL callK valK unitK runK Fun Sl Vc.Own vc vcOps opK pureK
set_option maxHeartbeats 8000000

/-- What Parse hands back. -/
def ParseR (B : Nat) (s : List UInt8) (r : Value) (w : World) : Prop :=
  (∃ v l, r = .tuple #[v, .nilIface] ∧ Go.Vc.Own B 138 2 encR w v l ∧ PrintOf s l) ∨ ((∀ l, ¬ PrintOf s l) ∧ r = .tuple #[.slice none 0 0, .iface 47 (.int .i64 3)])
/-- Between two rounds. -/
def ParI (sz : Nat) (w : World) (s body : List UInt8) (pre : List (List UInt8)) (W : World) : Prop :=
  ∃ v out, Blk W sz 102 [.slice none 0 0] ∧ Blk W (sz + 1) 29 [.nilIface] ∧ Blk W (sz + 2) 9 [str body] ∧ Blk W (sz + 3) 102 [v] ∧ Go.Vc.Own (sz + 9) 138 2 encR W v out ∧ out.length = pre.length ∧ (body = [] → out = []) ∧ (∀ l, PrintOf s l → out = l.take pre.length) ∧ Below sz w W
/-- Where a round has left the loop. -/
def ParX (sz : Nat) (w : World) (s body : List UInt8) (c : Code) (pre : List (List UInt8)) (W : World) : Prop :=
  (c = .ret ∧ Blk W sz 102 [.slice none 0 0] ∧ Blk W (sz + 1) 29 [.iface 47 (.int .i64 3)] ∧ (∀ l, ¬ PrintOf s l) ∧ Below sz w W) ∨ (c = .exit 0 ∧ body = [] ∧ ParI sz w s body [] W)
theorem ParI.kept {sz : Nat} {w W W' : World} {s body : List UInt8} {pre : List (List UInt8)} (hw : sz = w.heap.size) (h : ParI sz w s body pre W) (hk : Kept (fun k => k = sz + 4 ∨ k = sz + 7 ∨ k = sz + 7 + 1) W W') : ParI sz w s body pre W' := by
  obtain ⟨v, out, h1, h2, h3, h4, h5, h6, h7, h8, h9⟩ := h
  exact ⟨v, out, h1.kept hk (by omega), h2.kept hk (by omega), h3.kept hk (by omega), h4.kept hk (by omega), h5.keptX hk (fun g hg hh => by have := (h5.block g hg).1; omega), h6, h7, h8, h9.trans (hk.below (by have := h9.size; omega) (fun i h => by omega))⟩
theorem ParX.kept {sz : Nat} {w W W' : World} {s body : List UInt8} {c : Code} {pre : List (List UInt8)} (hw : sz = w.heap.size) (h : ParX sz w s body c pre W) (hk : Kept (fun k => k = sz + 4 ∨ k = sz + 7 ∨ k = sz + 7 + 1) W W') : ParX sz w s body c pre W' := by
  rcases h with ⟨h0, h1, h2, h3, h9⟩ | ⟨h0, h1, h2⟩
  · exact .inl ⟨h0, h1.kept hk (by omega), h2.kept hk (by omega), h3, h9.trans (hk.below (by have := h9.size; omega) (fun i h => by omega))⟩
  · exact .inr ⟨h0, h1, h2.kept hw hk⟩
theorem parse_end {w W : World} {s : List UInt8} {r1 r2 : Value} {D : Nat} (hD : D = w.heap.size + 7) (P1 : Blk W w.heap.size 102 [r1]) (P2 : Blk W (w.heap.size + 1) 29 [r2]) (hDW : W.heap[D]? = some (.deferred (some []))) (hb : Below w.heap.size w W)
    (hR : ParseR w.heap.size s (.tuple #[r1, r2]) (W.putObj D (.deferred none))) {t : Fr} (h2 : t.getD 2 undef = .pointer (some ⟨w.heap.size, 0, none⟩)) (h3 : t.getD 3 undef = .pointer (some ⟨w.heap.size + 1, 0, none⟩)) :
    bodyPostM Fence.wide 0 Tryz.prog Tryz.f91 (fun e w' => ∃ v, e = .returned v ∧ ParseR w.heap.size s v w' ∧ Below w.heap.size w w') .ret ⟨t.toArray, [{ target := .collected D, args := #[] }]⟩ W := by
  have hk := keptPut (X := fun k => k = D) W D (.deferred none) rfl
  have Q1 := P1.kept hk (by omega)
  have Q2 := P2.kept hk (by omega)
  refine leaveD (rs := [.cell 2 102, .cell 3 29]) (by rfl) hDW ?_
  have d1 : (W.putObj D (.deferred none)).cell? ⟨w.heap.size, 0, none⟩ = some r1 := Q1.cell rfl
  have d2 : (W.putObj D (.deferred none)).cell? ⟨w.heap.size + 1, 0, none⟩ = some r2 := Q2.cell rfl
  have hgW : ∃ V, W.putObj D (.deferred none) = V := ⟨_, rfl⟩
  obtain ⟨V, hV⟩ := hgW
  rw [hV] at d1 d2 hR hk ⊢
  simp -dsimp only [push_cast, Nat.reduceAdd, Nat.reduceLeDiff, Nat.reduceBEq, decide_true, h2, h3, d1, d2]
  exact ⟨hR, hb.trans (hk.below hb.size (fun i h => by omega))⟩
theorem parse_c (s : List UInt8) (hs : s.length ≤ 1000000) (w : World) (hd : Db w) (he : SErrs w) : Fun Tryz.prog 91 [str s] w fun r w' => ParseR w.heap.size s r w' ∧ Below w.heap.size w w' := by
  refine fun_of_in Tryz.func91 rfl (by kernel_rfl) ?_
  simp -dsimp (maxSteps := 4000000) only [push_cast, fr0, Tryz.ntmps91, List.length_cons, List.length_nil, Nat.reduceAdd, Nat.reduceSub, Nat.reduceBEq, List.replicate_succ, List.replicate_zero]
  refine seqIn (ro := none) (by rfl) ?_
  simp -dsimp only [push_cast, Nat.reduceAdd, Nat.reduceLeDiff, Nat.reduceBEq, decide_true, ne_eq, eq_self, not_true_eq_false, not_false_eq_true, true_imp_iff, false_imp_iff, Int.reduceNe, Int.reduceEq, Int.reduceLT, Int.reduceLE, Bool.not_true, Bool.not_false]
  refine allocK (z := [.slice none 0 0]) (by kernel_rfl) ?_
  intro w1 hw1
  have sz1 := hw1.size
  have B1 := hw1.blk
  have b1 := hw1.below
  simp -dsimp only [push_cast, Nat.reduceAdd, Nat.reduceLeDiff, Nat.reduceBEq, decide_true, ne_eq, eq_self, not_true_eq_false, not_false_eq_true, true_imp_iff, false_imp_iff, Int.reduceNe, Int.reduceEq, Int.reduceLT, Int.reduceLE, Bool.not_true, Bool.not_false]
  refine allocK (z := [.nilIface]) (by kernel_rfl) ?_
  intro w2 hw2
  have sz2 := hw2.size
  have B12 := B1.below hw2.below (by omega)
  have B22 := hw2.blk
  have b2 := b1.trans (hw2.below.mono (by omega))
  rw [sz1] at B22
  simp -dsimp only [push_cast, Nat.reduceAdd, Nat.reduceLeDiff, Nat.reduceBEq, decide_true, ne_eq, eq_self, not_true_eq_false, not_false_eq_true, true_imp_iff, false_imp_iff, Int.reduceNe, Int.reduceEq, Int.reduceLT, Int.reduceLE, Bool.not_true, Bool.not_false, sz1]
  refine seqIn (ro := none) (by rfl) ?_
  simp -dsimp only [push_cast, Nat.reduceAdd, Nat.reduceLeDiff, Nat.reduceBEq, decide_true, ne_eq, eq_self, not_true_eq_false, not_false_eq_true, true_imp_iff, false_imp_iff, Int.reduceNe, Int.reduceEq, Int.reduceLT, Int.reduceLE, Bool.not_true, Bool.not_false]
  refine callK_of (cutPre_c s [91] w2) ?_
  rintro _ w2' ⟨rfl, rfl⟩
  simp -dsimp only [push_cast, Nat.reduceAdd, Nat.reduceLeDiff, Nat.reduceBEq, decide_true, ne_eq, eq_self, not_true_eq_false, not_false_eq_true, true_imp_iff, false_imp_iff, Int.reduceNe, Int.reduceEq, Int.reduceLT, Int.reduceLE, Bool.not_true, Bool.not_false]
  refine allocK (z := [str []]) (by kernel_rfl) ?_
  intro w3 hw3
  have sz3 := hw3.size
  have B13 := B12.below hw3.below (by omega)
  have B23 := B22.below hw3.below (by omega)
  have B33 := hw3.blk
  have b3 := b2.trans (hw3.below.mono (by omega))
  have es2 : w2'.heap.size = w.heap.size + 2 := by omega
  rw [es2] at B33
  simp -dsimp only [push_cast, Nat.reduceAdd, Nat.reduceLeDiff, Nat.reduceBEq, decide_true, ne_eq, eq_self, not_true_eq_false, not_false_eq_true, true_imp_iff, false_imp_iff, Int.reduceNe, Int.reduceEq, Int.reduceLT, Int.reduceLE, Bool.not_true, Bool.not_false, es2]
  refine storeK_of B33 (by simp) rfl ?_
  intro w4 hw4
  have sz4 : w4.heap.size = w3.heap.size := hw4.size
  have B14 := B13.kept hw4.kept (by omega)
  have B24 := B23.kept hw4.kept (by omega)
  have B34 : Blk w4 (w.heap.size + 2) 9 [str (Lib.trimPrefix s [91])] := hw4.blk
  have b4 := b3.trans (hw4.kept.below (B := w.heap.size) (by omega) (fun i h => by omega))
  have c34 : w4.cell? ⟨w.heap.size + 2, 0, none⟩ = some (str (Lib.trimPrefix s [91])) := B34.cell rfl
  have htl : (Lib.trimPrefix s [91]).length ≤ s.length := by
    unfold Lib.trimPrefix
    split
    · rw [List.length_drop]; omega
    · exact Nat.le_refl _
  simp -dsimp only [push_cast, Nat.reduceAdd, Nat.reduceLeDiff, Nat.reduceBEq, decide_true, ne_eq, eq_self, not_true_eq_false, not_false_eq_true, true_imp_iff, false_imp_iff, Int.reduceNe, Int.reduceEq, Int.reduceLT, Int.reduceLE, Bool.not_true, Bool.not_false]
  refine seqIn (ro := none) (by rfl) ?_
  simp -dsimp only [push_cast, Nat.reduceAdd, Nat.reduceLeDiff, Nat.reduceBEq, decide_true, ne_eq, eq_self, not_true_eq_false, not_false_eq_true, true_imp_iff, false_imp_iff, Int.reduceNe, Int.reduceEq, Int.reduceLT, Int.reduceLE, Bool.not_true, Bool.not_false, c34]
  refine callK_of (cutSuf_c (Lib.trimPrefix s [91]) [93] (by omega) w4) ?_
  rintro _ w4' ⟨rfl, rfl⟩
  simp -dsimp only [push_cast, Nat.reduceAdd, Nat.reduceLeDiff, Nat.reduceBEq, decide_true, ne_eq, eq_self, not_true_eq_false, not_false_eq_true, true_imp_iff, false_imp_iff, Int.reduceNe, Int.reduceEq, Int.reduceLT, Int.reduceLE, Bool.not_true, Bool.not_false]
  refine storeK_of B34 (by simp) rfl ?_
  intro w5 hw5
  have sz5 : w5.heap.size = w4'.heap.size := hw5.size
  have B15 := B14.kept hw5.kept (by omega)
  have B25 := B24.kept hw5.kept (by omega)
  have hgb : ∃ body, Lib.trimSuffix (Lib.trimPrefix s [91]) [93] = body := ⟨_, rfl⟩
  obtain ⟨body, hbody⟩ := hgb
  have hbl : body.length ≤ s.length := by
    rw [← hbody]
    unfold Lib.trimSuffix
    split
    · rw [List.length_take]; omega
    · exact htl
  rw [hbody] at hw5
  rw [hbody]
  have B35 : Blk w5 (w.heap.size + 2) 9 [str body] := hw5.blk
  have b5 := b4.trans (hw5.kept.below (B := w.heap.size) (by omega) (fun i h => by omega))
  have c15 : w5.cell? ⟨w.heap.size, 0, none⟩ = some (.slice none 0 0) := B15.cell rfl
  have hgp : ∃ pf, Lib.hasPrefix s [91] = pf := ⟨_, rfl⟩
  obtain ⟨pf, hpf⟩ := hgp
  have hgq : ∃ sf, Lib.hasSuffix (Lib.trimPrefix s [91]) [93] = sf := ⟨_, rfl⟩
  obtain ⟨sf, hsf⟩ := hgq
  rw [hpf, hsf]
  simp -dsimp only [push_cast, Nat.reduceAdd, Nat.reduceLeDiff, Nat.reduceBEq, decide_true, ne_eq, eq_self, not_true_eq_false, not_false_eq_true, true_imp_iff, false_imp_iff, Int.reduceNe, Int.reduceEq, Int.reduceLT, Int.reduceLE, Bool.not_true, Bool.not_false]
  refine seqIn (ro := none) (by rfl) ?_
  cases hps : (pf && sf) with
  | false =>
    have hno : ∀ l, ¬ PrintOf s l := fun l h => by
      have := print_pre h
      rw [hpf, hsf] at this
      rw [this.1, this.2.1] at hps
      cases hps
    cases pf <;> cases sf <;> first | (cases hps; done) | skip
    all_goals
      simp -dsimp only [push_cast, Nat.reduceAdd, Nat.reduceLeDiff, Nat.reduceBEq, decide_true, ne_eq, eq_self, not_true_eq_false, not_false_eq_true, true_imp_iff, false_imp_iff, Int.reduceNe, Int.reduceEq, Int.reduceLT, Int.reduceLE, Bool.not_true, Bool.not_false]
      refine storeK_of B15 (by simp) rfl ?_
      intro w6 hw6
      have sz6 : w6.heap.size = w5.heap.size := hw6.size
      have B26 := B25.kept hw6.kept (by omega)
      have B16 : Blk w6 w.heap.size 102 [.slice none 0 0] := hw6.blk
      simp -dsimp only [push_cast, Nat.reduceAdd, Nat.reduceLeDiff, Nat.reduceBEq, decide_true, ne_eq, eq_self, not_true_eq_false, not_false_eq_true, true_imp_iff, false_imp_iff, Int.reduceNe, Int.reduceEq, Int.reduceLT, Int.reduceLE, Bool.not_true, Bool.not_false]
      refine storeK_of B26 (by simp) rfl ?_
      intro w7 hw7
      have B17 := B16.kept hw7.kept (by omega)
      have B27 : Blk w7 (w.heap.size + 1) 29 [.iface 47 (.int .i64 3)] := hw7.blk
      have b7 := (b5.trans (hw6.kept.below (B := w.heap.size) (by omega) (fun i h => by omega))).trans (hw7.kept.below (B := w.heap.size) (by omega) (fun i h => by omega))
      have d1 : w7.cell? ⟨w.heap.size, 0, none⟩ = some (.slice none 0 0) := B17.cell rfl
      have d2 : w7.cell? ⟨w.heap.size + 1, 0, none⟩ = some (.iface 47 (.int .i64 3)) := B27.cell rfl
      simp -dsimp only [push_cast, Nat.reduceAdd, Nat.reduceLeDiff, Nat.reduceBEq, decide_true, ne_eq, eq_self, not_true_eq_false, not_false_eq_true, true_imp_iff, false_imp_iff, Int.reduceNe, Int.reduceEq, Int.reduceLT, Int.reduceLE, Bool.not_true, Bool.not_false]
      refine leave0 (rs := [.cell 2 102, .cell 3 29]) (by rfl) ?_
      simp -dsimp only [push_cast, Nat.reduceAdd, Nat.reduceLeDiff, Nat.reduceBEq, decide_true, ne_eq, eq_self, not_true_eq_false, not_false_eq_true, true_imp_iff, false_imp_iff, Int.reduceNe, Int.reduceEq, Int.reduceLT, Int.reduceLE, Bool.not_true, Bool.not_false, d1, d2]
      exact ⟨.inr ⟨hno, rfl⟩, b7⟩
  | true =>
    cases pf <;> cases sf <;> first | (cases hps; done) | skip
    simp -dsimp only [push_cast, Nat.reduceAdd, Nat.reduceLeDiff, Nat.reduceBEq, decide_true, ne_eq, eq_self, not_true_eq_false, not_false_eq_true, true_imp_iff, false_imp_iff, Int.reduceNe, Int.reduceEq, Int.reduceLT, Int.reduceLE, Bool.not_true, Bool.not_false]
    refine seqIn (ro := none) (by rfl) ?_
    simp -dsimp only [push_cast, Nat.reduceAdd, Nat.reduceLeDiff, Nat.reduceBEq, decide_true, ne_eq, eq_self, not_true_eq_false, not_false_eq_true, true_imp_iff, false_imp_iff, Int.reduceNe, Int.reduceEq, Int.reduceLT, Int.reduceLE, Bool.not_true, Bool.not_false]
    refine allocK (z := [.slice none 0 0]) (by kernel_rfl) ?_
    intro w6 hw6
    have sz6 := hw6.size
    have B16 := B15.below hw6.below (by omega)
    have B26 := B25.below hw6.below (by omega)
    have B36 := B35.below hw6.below (by omega)
    have B46 := hw6.blk
    have b6 := b5.trans (hw6.below.mono (by omega))
    have es5 : w5.heap.size = w.heap.size + 3 := by omega
    rw [es5] at B46
    have c36 : w6.cell? ⟨w.heap.size + 2, 0, none⟩ = some (str body) := B36.cell rfl
    simp -dsimp only [push_cast, Nat.reduceAdd, Nat.reduceLeDiff, Nat.reduceBEq, decide_true, ne_eq, eq_self, not_true_eq_false, not_false_eq_true, true_imp_iff, false_imp_iff, Int.reduceNe, Int.reduceEq, Int.reduceLT, Int.reduceLE, Bool.not_true, Bool.not_false, es5]
    refine wpIn_seq (seqIn (ro := none) (by rfl) ?_)
    simp -dsimp only [push_cast, Nat.reduceAdd, Nat.reduceLeDiff, Nat.reduceBEq, decide_true, ne_eq, eq_self, not_true_eq_false, not_false_eq_true, true_imp_iff, false_imp_iff, Int.reduceNe, Int.reduceEq, Int.reduceLT, Int.reduceLE, Bool.not_true, Bool.not_false, c36]
    refine callK_of (splitSeqs_c body 32 w6) ?_
    rintro _ w7 ⟨rfl, hS, hP, hV, sz7, hb7⟩
    have es6 : w6.heap.size = w.heap.size + 4 := by omega
    rw [es6] at hS hP hV
    have B17 := B16.below hb7 (by omega)
    have B27 := B26.below hb7 (by omega)
    have B37 := B36.below hb7 (by omega)
    have B47 := B46.below hb7 (by omega)
    have b7 := b6.trans (hb7.mono (by omega))
    simp -dsimp only [push_cast, Nat.reduceAdd, Nat.reduceLeDiff, Nat.reduceBEq, decide_true, ne_eq, eq_self, not_true_eq_false, not_false_eq_true, true_imp_iff, false_imp_iff, Int.reduceNe, Int.reduceEq, Int.reduceLT, Int.reduceLE, Bool.not_true, Bool.not_false, es6]
    have es7 : w7.heap.size = w.heap.size + 7 := by omega
    have hS7 : Blk w7 (w.heap.size + 4) 9 [str body] := hS
    refine wpIn_block (rangeV (α := List UInt8) (gf := 166) (lb := [.pointer (some ⟨w.heap.size + 4 + 1, 0, none⟩), .pointer (some ⟨w.heap.size + 4, 0, none⟩), .pointer (some ⟨w.heap.size + 4 + 2, 0, none⟩)]) (by rfl) (fun args w => callFunc_enter Tryz.func166 (by kernel_rfl) (by kernel_rfl)) (en := fun x => str x) (B := fun k => k = w.heap.size + 4) (Z := fun k => k = w.heap.size + 4 ∨ k = w.heap.size + 4 + 1 ∨ k = w.heap.size + 4 + 2)
      (fun k hk => by omega) (fun k hk => by omega) (split_it body 32 (by omega) _ _ _ _ (by omega) (by omega) w7 hS hP hV) (ParI w.heap.size w s body) (ParX w.heap.size w s body) (fun p W W' h hk => h.kept rfl (by rw [es7] at hk; exact hk)) (fun c p W W' h hk => h.kept rfl (by rw [es7] at hk; exact hk)) ?_ 8 (by rfl) (by rfl) ?_ ?_ ?_ ?_)
    · exact ⟨_, [], B17, B27, B37, B47, Go.Vc.Own.nil (enc := encR) _ _ (fun _ => rfl) _, rfl, fun _ => rfl, fun l _ => rfl, b7⟩
    · intro x W
      simp -dsimp only [push_cast, Nat.reduceAdd, Nat.reduceLeDiff, Nat.reduceBEq, decide_true, ne_eq, eq_self, not_true_eq_false, not_false_eq_true, true_imp_iff, false_imp_iff, Int.reduceNe, Int.reduceEq, Int.reduceLT, Int.reduceLE, Bool.not_true, Bool.not_false]
    · intro pre x W hI hA hWs
      obtain ⟨v, out, P1, P2, P3, P4, ho, hol, hob, hol2, hbB⟩ := hI
      have hbs := hbB.size
      have cb : W.cell? ⟨w.heap.size + 2, 0, none⟩ = some (str body) := P3.cell rfl
      have hxm : x ∈ splitB 32 body := hA.subset (by simp)
      have hxl := splitB_mem 32 body x hxm
      have hpreL : pre.length ≤ body.length := by
        have h1 := hA.length_le
        have h2 := splitB_len 32 body
        rw [List.length_append, List.length_singleton] at h1
        omega
      have hpl : ∀ l, PrintOf s l → setRight (-2) l = true ∧ body = bodyP l := fun l hl => ⟨hl.1, by rw [← hbody]; exact (print_pre hl).2.2⟩
      simp -dsimp only [push_cast, Nat.reduceAdd, Nat.reduceLeDiff, Nat.reduceBEq, decide_true, ne_eq, eq_self, not_true_eq_false, not_false_eq_true, true_imp_iff, false_imp_iff, Int.reduceNe, Int.reduceEq, Int.reduceLT, Int.reduceLE, Bool.not_true, Bool.not_false, cb]
      refine ⟨fun hbe => ?_, fun hbne => ?_⟩
      · have hoe := hob hbe
        subst hoe
        exact ⟨Nat.le_refl _, .inr ⟨rfl, hbe, v, [], P1, P2, P3, P4, ho, rfl, fun _ => rfl, fun l _ => rfl, hbB⟩⟩
      · refine callK_of (cut_c x 45 (by omega) W) ?_
        rintro _ w8 ⟨rfl, hb8⟩
        have hgc : ∃ a b two, cutP 45 x = (a, b, two) := ⟨_, _, _, rfl⟩
        obtain ⟨a, b, two, hcut⟩ := hgc
        have hcl := cutP_len 45 x
        rw [hcut] at hcl
        rw [hcut]
        obtain ⟨hla, hlb⟩ := hcl
        dsimp only at hla hlb
        cases two with
        | true =>
          have hcp : ∀ l, PrintOf s l → ∃ r, l[pre.length]? = some r ∧ 0 ≤ r.1 ∧ r.1 ≤ r.2 ∧ r.2 ≤ 1114111 ∧ a = hexP r.1.toNat ∧ b = hexP r.2.toNat := fun l hl => by
            obtain ⟨hr, hbb⟩ := hpl l hl
            obtain ⟨r, hr1, hr0, hr2, hr3, hr4⟩ := round_plain hr hbb hbne hA
            rw [hr0] at hcut
            by_cases hlt : r.1 < r.2
            · rw [cut_rg (by omega) (by omega) (by omega) hlt] at hcut
              exact ⟨r, hr1, hr2, hr3, hr4, (Prod.mk.inj hcut).1.symm, (Prod.mk.inj (Prod.mk.inj hcut).2).1.symm⟩
            · rw [cut_rg1 (by omega) (by omega) hlt] at hcut
              cases (Prod.mk.inj (Prod.mk.inj hcut).2).2
          simp -dsimp only [push_cast, Nat.reduceAdd, Nat.reduceLeDiff, Nat.reduceBEq, decide_true, ne_eq, eq_self, not_true_eq_false, not_false_eq_true, true_imp_iff, false_imp_iff, Int.reduceNe, Int.reduceEq, Int.reduceLT, Int.reduceLE, Bool.not_true, Bool.not_false]
          refine callK_of (parseInt_c a (by omega) w8 (he.below (hbB.trans (hb8.mono hbs)))) ?_
          rintro _ w9 ⟨⟨v1, e1, rfl, he1, hx1⟩, hb9⟩
          simp -dsimp only [push_cast, Nat.reduceAdd, Nat.reduceLeDiff, Nat.reduceBEq, decide_true, ne_eq, eq_self, not_true_eq_false, not_false_eq_true, true_imp_iff, false_imp_iff, Int.reduceNe, Int.reduceEq, Int.reduceLT, Int.reduceLE, Bool.not_true, Bool.not_false]
          refine callK_of (parseInt_c b (by omega) w9 (he.below (hbB.trans ((hb8.tr hb9).mono hbs)))) ?_
          rintro _ w10 ⟨⟨v2, e2, rfl, he2, hx2⟩, hb10⟩
          have hb10' := (hb8.tr hb9).tr hb10
          have Q1 := P1.below hb10' (by omega)
          have Q2 := P2.below hb10' (by omega)
          have Q3 := P3.below hb10' (by omega)
          have Q4 := P4.below hb10' (by omega)
          have hoq := ho.below hb10'
          have hbq := hbB.trans (hb10'.mono hbs)
          have hWq := hb10'.size
          have hkq : Kept (fun _ => False) W w10 := Kept.of_below hb10' (fun i h1 h2 => by omega)
          have hval : ∀ l, PrintOf s l → ∃ r, l[pre.length]? = some r ∧ v1 = r.1 ∧ v2 = r.2 ∧ e1 = .nilIface ∧ e2 = .nilIface := fun l hl => by
            obtain ⟨r, hr1, hr2, hr3, hr4, ha1, ha2⟩ := hcp l hl
            have h1 := hx1 _ (by omega) ha1
            have h2 := hx2 _ (by omega) ha2
            exact ⟨r, hr1, by rw [h1.1]; omega, by rw [h2.1]; omega, h1.2, h2.2⟩
          by_cases hee : e1 = .nilIface ∧ e2 = .nilIface
          · obtain ⟨rfl, rfl⟩ := hee
            have cv : w10.cell? ⟨w.heap.size + 3, 0, none⟩ = some v := Q4.cell rfl
            have hsh := hoq.slice
            obtain ⟨oa, oc, rfl⟩ := hsh
            simp -dsimp only [push_cast, Nat.reduceAdd, Nat.reduceLeDiff, Nat.reduceBEq, decide_true, ne_eq, eq_self, not_true_eq_false, not_false_eq_true, true_imp_iff, false_imp_iff, Int.reduceNe, Int.reduceEq, Int.reduceLT, Int.reduceLE, Bool.not_true, Bool.not_false, cv]
            refine rowK elI_102 rfl rfl (by omega) ?_
            intro w11 hw11
            have sz11 := hw11.size
            have ho11 := hoq.new hw11
            have R4 := Q4.below hw11.below (by omega)
            simp -dsimp only [push_cast, Nat.reduceAdd, Nat.reduceLeDiff, Nat.reduceBEq, decide_true, ne_eq, eq_self, not_true_eq_false, not_false_eq_true, true_imp_iff, false_imp_iff, Int.reduceNe, Int.reduceEq, Int.reduceLT, Int.reduceLE, Bool.not_true, Bool.not_false]
            refine appendK2 (base := w.heap.size + 9) [(v1, v2)] (enc := encR) elI_102 ho11 (by rfl) (fun j u hu => by simpa [encR] using hw11.cell hu) encR_one (by simp only [List.length_cons, List.length_nil]; omega) (by omega) ?_
            intro v12 w12 ho12 hg12 hn12
            have kg : Kept (fun j => (Value.slice oa out.length oc).ownBlock = some j) w11 w12 := Kept.grown hg12 (fun _ h => h)
            have hown := ho11.block
            have R5 : Blk w12 (w.heap.size + 3) 102 [.slice oa out.length oc] := R4.kept kg (fun h => by have := (hown _ h).1; omega)
            simp -dsimp only [push_cast, Nat.reduceAdd, Nat.reduceLeDiff, Nat.reduceBEq, decide_true, ne_eq, eq_self, not_true_eq_false, not_false_eq_true, true_imp_iff, false_imp_iff, Int.reduceNe, Int.reduceEq, Int.reduceLT, Int.reduceLE, Bool.not_true, Bool.not_false]
            have hsh := ho12.slice
            obtain ⟨va, vc, rfl⟩ := hsh
            refine storeK_of R5 (by simp) rfl ?_
            intro w13 hw13
            have k13 : Kept (fun j => j = w.heap.size + 3 ∨ (Value.slice oa out.length oc).ownBlock = some j) w10 w13 := ((Kept.new (X := fun j => j = w.heap.size + 3 ∨ (Value.slice oa out.length oc).ownBlock = some j) hw11).trans kg (fun _ _ h => .inr h)).trans hw13.kept (fun _ _ h => .inl h)
            have hlow : ∀ {k : Nat}, k = w.heap.size + 3 ∨ (Value.slice oa out.length oc).ownBlock = some k → w.heap.size + 9 ≤ k ∨ k = w.heap.size + 3 := fun h => by
              rcases h with h | h
              · exact .inr h
              · exact .inl (hown _ h).1
            have S1 := Q1.kept k13 (fun h => by have := hlow h; omega)
            have S2 := Q2.kept k13 (fun h => by have := hlow h; omega)
            have S3 := Q3.kept k13 (fun h => by have := hlow h; omega)
            have S4 : Blk w13 (w.heap.size + 3) 102 [.slice va (out ++ [(v1, v2)]).length vc] := hw13.blk
            have ho13 := ho12.keptX hw13.kept (fun g hg h => by have := (ho12.block g hg).1; omega)
            have hz : ∀ k, (k = w.heap.size + 4 ∨ k = w.heap.size + 4 + 1 ∨ k = w.heap.size + 4 + 2) ∨ k = w7.heap.size ∨ k = w7.heap.size + 1 → w13.heap[k]? = W.heap[k]? := fun k hk =>
              (k13.block k (by omega) (fun h => by have := hlow h; omega)).trans (hkq.block k (by omega) (fun h => h))
            have hend : ParI w.heap.size w s body (pre ++ [x]) w13 := ⟨_, out ++ [(v1, v2)], S1, S2, S3, S4, ho13, by rw [List.length_append, List.length_append, hol]; rfl, fun h => absurd h hbne, fun l hl => by
                obtain ⟨r, hr1, rfl, rfl, _, _⟩ := hval l hl
                have ht : l.take (pre ++ [x]).length = l.take pre.length ++ [r] := by
                  rw [List.length_append, List.length_singleton, List.take_add_one, hr1]; rfl
                rw [ht, ← hol2 l hl], hbq.trans (k13.below (B := w.heap.size) (by omega) (fun i h => by have := hlow h; omega))⟩
            have hsz13 : W.heap.size ≤ w13.heap.size := by have := k13.size; omega
            simp -dsimp only [push_cast, Nat.reduceAdd, Nat.reduceLeDiff, Nat.reduceBEq, decide_true, ne_eq, eq_self, not_true_eq_false, not_false_eq_true, true_imp_iff, false_imp_iff, Int.reduceNe, Int.reduceEq, Int.reduceLT, Int.reduceLE, Bool.not_true, Bool.not_false]
            exact ⟨hsz13, hz, hend⟩
          · have herr : ∀ l, ¬ PrintOf s l := fun l hl => by
              obtain ⟨r, _, _, _, h1, h2⟩ := hval l hl
              exact hee ⟨h1, h2⟩
            have fin : ∀ (w13 : World), Blk w13 w.heap.size 102 [.slice none 0 0] → Blk w13 (w.heap.size + 1) 29 [.iface 47 (.int .i64 3)] → Kept (fun k => k = w.heap.size ∨ k = w.heap.size + 1) w10 w13 → W.heap.size ≤ w13.heap.size ∧ (∀ k, (k = w.heap.size + 4 ∨ k = w.heap.size + 4 + 1 ∨ k = w.heap.size + 4 + 2) ∨ k = w7.heap.size ∨ k = w7.heap.size + 1 → w13.heap[k]? = W.heap[k]?) ∧ ParX w.heap.size w s body .ret (pre ++ [x]) w13 := fun w13 h1 h2 hk =>
              ⟨by have := hk.size; omega, fun k h => (hk.block k (by omega) (by omega)).trans (hkq.block k (by omega) (fun h => h)), .inl ⟨rfl, h1, h2, herr, hbq.trans (hk.below (by omega) (fun i h => by omega))⟩⟩
            rcases he1 with rfl | ⟨t1, x1, rfl⟩
            · rcases he2 with rfl | ⟨t2, x2, rfl⟩
              · exact absurd ⟨rfl, rfl⟩ hee
              · simp -dsimp only [push_cast, Nat.reduceAdd, Nat.reduceLeDiff, Nat.reduceBEq, decide_true, ne_eq, eq_self, not_true_eq_false, not_false_eq_true, true_imp_iff, false_imp_iff, Int.reduceNe, Int.reduceEq, Int.reduceLT, Int.reduceLE, Bool.not_true, Bool.not_false]
                refine storeK_of Q1 (by simp) rfl ?_
                intro w11 hw11
                have T2 := Q2.kept hw11.kept (by omega)
                have T1 : Blk w11 w.heap.size 102 [.slice none 0 0] := hw11.blk
                simp -dsimp only [push_cast, Nat.reduceAdd, Nat.reduceLeDiff, Nat.reduceBEq, decide_true, ne_eq, eq_self, not_true_eq_false, not_false_eq_true, true_imp_iff, false_imp_iff, Int.reduceNe, Int.reduceEq, Int.reduceLT, Int.reduceLE, Bool.not_true, Bool.not_false]
                refine storeK_of T2 (by simp) rfl ?_
                intro w12 hw12
                have U1 := T1.kept hw12.kept (by omega)
                have hfin := fin w12 U1 hw12.blk ((hw11.kept.weaken (fun i _ h => .inl h)).trans hw12.kept (fun i _ h => .inr h))
                simp -dsimp only [push_cast, Nat.reduceAdd, Nat.reduceLeDiff, Nat.reduceBEq, decide_true, ne_eq, eq_self, not_true_eq_false, not_false_eq_true, true_imp_iff, false_imp_iff, Int.reduceNe, Int.reduceEq, Int.reduceLT, Int.reduceLE, Bool.not_true, Bool.not_false]
                exact hfin
            · simp -dsimp only [push_cast, Nat.reduceAdd, Nat.reduceLeDiff, Nat.reduceBEq, decide_true, ne_eq, eq_self, not_true_eq_false, not_false_eq_true, true_imp_iff, false_imp_iff, Int.reduceNe, Int.reduceEq, Int.reduceLT, Int.reduceLE, Bool.not_true, Bool.not_false]
              refine storeK_of Q1 (by simp) rfl ?_
              intro w11 hw11
              have T2 := Q2.kept hw11.kept (by omega)
              have T1 : Blk w11 w.heap.size 102 [.slice none 0 0] := hw11.blk
              simp -dsimp only [push_cast, Nat.reduceAdd, Nat.reduceLeDiff, Nat.reduceBEq, decide_true, ne_eq, eq_self, not_true_eq_false, not_false_eq_true, true_imp_iff, false_imp_iff, Int.reduceNe, Int.reduceEq, Int.reduceLT, Int.reduceLE, Bool.not_true, Bool.not_false]
              refine storeK_of T2 (by simp) rfl ?_
              intro w12 hw12
              have U1 := T1.kept hw12.kept (by omega)
              have hfin := fin w12 U1 hw12.blk ((hw11.kept.weaken (fun i _ h => .inl h)).trans hw12.kept (fun i _ h => .inr h))
              simp -dsimp only [push_cast, Nat.reduceAdd, Nat.reduceLeDiff, Nat.reduceBEq, decide_true, ne_eq, eq_self, not_true_eq_false, not_false_eq_true, true_imp_iff, false_imp_iff, Int.reduceNe, Int.reduceEq, Int.reduceLT, Int.reduceLE, Bool.not_true, Bool.not_false]
              exact hfin
        | false =>
          have hcp : ∀ l, PrintOf s l → ∃ r, l[pre.length]? = some r ∧ 0 ≤ r.1 ∧ r.1 ≤ r.2 ∧ r.2 ≤ 1114111 ∧ a = hexP r.1.toNat ∧ a = hexP r.2.toNat := fun l hl => by
            obtain ⟨hr, hbb⟩ := hpl l hl
            obtain ⟨r, hr1, hr0, hr2, hr3, hr4⟩ := round_plain hr hbb hbne hA
            rw [hr0] at hcut
            by_cases hlt : r.1 < r.2
            · rw [cut_rg (by omega) (by omega) (by omega) hlt] at hcut
              cases (Prod.mk.inj (Prod.mk.inj hcut).2).2
            · rw [cut_rg1 (by omega) (by omega) hlt] at hcut
              have e2 : r.2 = r.1 := by omega
              exact ⟨r, hr1, hr2, hr3, hr4, (Prod.mk.inj hcut).1.symm, by rw [e2]; exact (Prod.mk.inj hcut).1.symm⟩
          simp -dsimp only [push_cast, Nat.reduceAdd, Nat.reduceLeDiff, Nat.reduceBEq, decide_true, ne_eq, eq_self, not_true_eq_false, not_false_eq_true, true_imp_iff, false_imp_iff, Int.reduceNe, Int.reduceEq, Int.reduceLT, Int.reduceLE, Bool.not_true, Bool.not_false]
          refine callK_of (parseInt_c a (by omega) w8 (he.below (hbB.trans (hb8.mono hbs)))) ?_
          rintro _ w9 ⟨⟨v1, e1, rfl, he1, hx1⟩, hb9⟩
          simp -dsimp only [push_cast, Nat.reduceAdd, Nat.reduceLeDiff, Nat.reduceBEq, decide_true, ne_eq, eq_self, not_true_eq_false, not_false_eq_true, true_imp_iff, false_imp_iff, Int.reduceNe, Int.reduceEq, Int.reduceLT, Int.reduceLE, Bool.not_true, Bool.not_false]
          refine callK_of (parseInt_c a (by omega) w9 (he.below (hbB.trans ((hb8.tr hb9).mono hbs)))) ?_
          rintro _ w10 ⟨⟨v2, e2, rfl, he2, hx2⟩, hb10⟩
          have hb10' := (hb8.tr hb9).tr hb10
          have Q1 := P1.below hb10' (by omega)
          have Q2 := P2.below hb10' (by omega)
          have Q3 := P3.below hb10' (by omega)
          have Q4 := P4.below hb10' (by omega)
          have hoq := ho.below hb10'
          have hbq := hbB.trans (hb10'.mono hbs)
          have hWq := hb10'.size
          have hkq : Kept (fun _ => False) W w10 := Kept.of_below hb10' (fun i h1 h2 => by omega)
          have hval : ∀ l, PrintOf s l → ∃ r, l[pre.length]? = some r ∧ v1 = r.1 ∧ v2 = r.2 ∧ e1 = .nilIface ∧ e2 = .nilIface := fun l hl => by
            obtain ⟨r, hr1, hr2, hr3, hr4, ha1, ha2⟩ := hcp l hl
            have h1 := hx1 _ (by omega) ha1
            have h2 := hx2 _ (by omega) ha2
            exact ⟨r, hr1, by rw [h1.1]; omega, by rw [h2.1]; omega, h1.2, h2.2⟩
          by_cases hee : e1 = .nilIface ∧ e2 = .nilIface
          · obtain ⟨rfl, rfl⟩ := hee
            have cv : w10.cell? ⟨w.heap.size + 3, 0, none⟩ = some v := Q4.cell rfl
            have hsh := hoq.slice
            obtain ⟨oa, oc, rfl⟩ := hsh
            simp -dsimp only [push_cast, Nat.reduceAdd, Nat.reduceLeDiff, Nat.reduceBEq, decide_true, ne_eq, eq_self, not_true_eq_false, not_false_eq_true, true_imp_iff, false_imp_iff, Int.reduceNe, Int.reduceEq, Int.reduceLT, Int.reduceLE, Bool.not_true, Bool.not_false, cv]
            refine rowK elI_102 rfl rfl (by omega) ?_
            intro w11 hw11
            have sz11 := hw11.size
            have ho11 := hoq.new hw11
            have R4 := Q4.below hw11.below (by omega)
            simp -dsimp only [push_cast, Nat.reduceAdd, Nat.reduceLeDiff, Nat.reduceBEq, decide_true, ne_eq, eq_self, not_true_eq_false, not_false_eq_true, true_imp_iff, false_imp_iff, Int.reduceNe, Int.reduceEq, Int.reduceLT, Int.reduceLE, Bool.not_true, Bool.not_false]
            refine appendK2 (base := w.heap.size + 9) [(v1, v2)] (enc := encR) elI_102 ho11 (by rfl) (fun j u hu => by simpa [encR] using hw11.cell hu) encR_one (by simp only [List.length_cons, List.length_nil]; omega) (by omega) ?_
            intro v12 w12 ho12 hg12 hn12
            have kg : Kept (fun j => (Value.slice oa out.length oc).ownBlock = some j) w11 w12 := Kept.grown hg12 (fun _ h => h)
            have hown := ho11.block
            have R5 : Blk w12 (w.heap.size + 3) 102 [.slice oa out.length oc] := R4.kept kg (fun h => by have := (hown _ h).1; omega)
            simp -dsimp only [push_cast, Nat.reduceAdd, Nat.reduceLeDiff, Nat.reduceBEq, decide_true, ne_eq, eq_self, not_true_eq_false, not_false_eq_true, true_imp_iff, false_imp_iff, Int.reduceNe, Int.reduceEq, Int.reduceLT, Int.reduceLE, Bool.not_true, Bool.not_false]
            have hsh := ho12.slice
            obtain ⟨va, vc, rfl⟩ := hsh
            refine storeK_of R5 (by simp) rfl ?_
            intro w13 hw13
            have k13 : Kept (fun j => j = w.heap.size + 3 ∨ (Value.slice oa out.length oc).ownBlock = some j) w10 w13 := ((Kept.new (X := fun j => j = w.heap.size + 3 ∨ (Value.slice oa out.length oc).ownBlock = some j) hw11).trans kg (fun _ _ h => .inr h)).trans hw13.kept (fun _ _ h => .inl h)
            have hlow : ∀ {k : Nat}, k = w.heap.size + 3 ∨ (Value.slice oa out.length oc).ownBlock = some k → w.heap.size + 9 ≤ k ∨ k = w.heap.size + 3 := fun h => by
              rcases h with h | h
              · exact .inr h
              · exact .inl (hown _ h).1
            have S1 := Q1.kept k13 (fun h => by have := hlow h; omega)
            have S2 := Q2.kept k13 (fun h => by have := hlow h; omega)
            have S3 := Q3.kept k13 (fun h => by have := hlow h; omega)
            have S4 : Blk w13 (w.heap.size + 3) 102 [.slice va (out ++ [(v1, v2)]).length vc] := hw13.blk
            have ho13 := ho12.keptX hw13.kept (fun g hg h => by have := (ho12.block g hg).1; omega)
            have hz : ∀ k, (k = w.heap.size + 4 ∨ k = w.heap.size + 4 + 1 ∨ k = w.heap.size + 4 + 2) ∨ k = w7.heap.size ∨ k = w7.heap.size + 1 → w13.heap[k]? = W.heap[k]? := fun k hk =>
              (k13.block k (by omega) (fun h => by have := hlow h; omega)).trans (hkq.block k (by omega) (fun h => h))
            have hend : ParI w.heap.size w s body (pre ++ [x]) w13 := ⟨_, out ++ [(v1, v2)], S1, S2, S3, S4, ho13, by rw [List.length_append, List.length_append, hol]; rfl, fun h => absurd h hbne, fun l hl => by
                obtain ⟨r, hr1, rfl, rfl, _, _⟩ := hval l hl
                have ht : l.take (pre ++ [x]).length = l.take pre.length ++ [r] := by
                  rw [List.length_append, List.length_singleton, List.take_add_one, hr1]; rfl
                rw [ht, ← hol2 l hl], hbq.trans (k13.below (B := w.heap.size) (by omega) (fun i h => by have := hlow h; omega))⟩
            have hsz13 : W.heap.size ≤ w13.heap.size := by have := k13.size; omega
            simp -dsimp only [push_cast, Nat.reduceAdd, Nat.reduceLeDiff, Nat.reduceBEq, decide_true, ne_eq, eq_self, not_true_eq_false, not_false_eq_true, true_imp_iff, false_imp_iff, Int.reduceNe, Int.reduceEq, Int.reduceLT, Int.reduceLE, Bool.not_true, Bool.not_false]
            exact ⟨hsz13, hz, hend⟩
          · have herr : ∀ l, ¬ PrintOf s l := fun l hl => by
              obtain ⟨r, _, _, _, h1, h2⟩ := hval l hl
              exact hee ⟨h1, h2⟩
            have fin : ∀ (w13 : World), Blk w13 w.heap.size 102 [.slice none 0 0] → Blk w13 (w.heap.size + 1) 29 [.iface 47 (.int .i64 3)] → Kept (fun k => k = w.heap.size ∨ k = w.heap.size + 1) w10 w13 → W.heap.size ≤ w13.heap.size ∧ (∀ k, (k = w.heap.size + 4 ∨ k = w.heap.size + 4 + 1 ∨ k = w.heap.size + 4 + 2) ∨ k = w7.heap.size ∨ k = w7.heap.size + 1 → w13.heap[k]? = W.heap[k]?) ∧ ParX w.heap.size w s body .ret (pre ++ [x]) w13 := fun w13 h1 h2 hk =>
              ⟨by have := hk.size; omega, fun k h => (hk.block k (by omega) (by omega)).trans (hkq.block k (by omega) (fun h => h)), .inl ⟨rfl, h1, h2, herr, hbq.trans (hk.below (by omega) (fun i h => by omega))⟩⟩
            rcases he1 with rfl | ⟨t1, x1, rfl⟩
            · rcases he2 with rfl | ⟨t2, x2, rfl⟩
              · exact absurd ⟨rfl, rfl⟩ hee
              · simp -dsimp only [push_cast, Nat.reduceAdd, Nat.reduceLeDiff, Nat.reduceBEq, decide_true, ne_eq, eq_self, not_true_eq_false, not_false_eq_true, true_imp_iff, false_imp_iff, Int.reduceNe, Int.reduceEq, Int.reduceLT, Int.reduceLE, Bool.not_true, Bool.not_false]
                refine storeK_of Q1 (by simp) rfl ?_
                intro w11 hw11
                have T2 := Q2.kept hw11.kept (by omega)
                have T1 : Blk w11 w.heap.size 102 [.slice none 0 0] := hw11.blk
                simp -dsimp only [push_cast, Nat.reduceAdd, Nat.reduceLeDiff, Nat.reduceBEq, decide_true, ne_eq, eq_self, not_true_eq_false, not_false_eq_true, true_imp_iff, false_imp_iff, Int.reduceNe, Int.reduceEq, Int.reduceLT, Int.reduceLE, Bool.not_true, Bool.not_false]
                refine storeK_of T2 (by simp) rfl ?_
                intro w12 hw12
                have U1 := T1.kept hw12.kept (by omega)
                have hfin := fin w12 U1 hw12.blk ((hw11.kept.weaken (fun i _ h => .inl h)).trans hw12.kept (fun i _ h => .inr h))
                simp -dsimp only [push_cast, Nat.reduceAdd, Nat.reduceLeDiff, Nat.reduceBEq, decide_true, ne_eq, eq_self, not_true_eq_false, not_false_eq_true, true_imp_iff, false_imp_iff, Int.reduceNe, Int.reduceEq, Int.reduceLT, Int.reduceLE, Bool.not_true, Bool.not_false]
                exact hfin
            · simp -dsimp only [push_cast, Nat.reduceAdd, Nat.reduceLeDiff, Nat.reduceBEq, decide_true, ne_eq, eq_self, not_true_eq_false, not_false_eq_true, true_imp_iff, false_imp_iff, Int.reduceNe, Int.reduceEq, Int.reduceLT, Int.reduceLE, Bool.not_true, Bool.not_false]
              refine storeK_of Q1 (by simp) rfl ?_
              intro w11 hw11
              have T2 := Q2.kept hw11.kept (by omega)
              have T1 : Blk w11 w.heap.size 102 [.slice none 0 0] := hw11.blk
              simp -dsimp only [push_cast, Nat.reduceAdd, Nat.reduceLeDiff, Nat.reduceBEq, decide_true, ne_eq, eq_self, not_true_eq_false, not_false_eq_true, true_imp_iff, false_imp_iff, Int.reduceNe, Int.reduceEq, Int.reduceLT, Int.reduceLE, Bool.not_true, Bool.not_false]
              refine storeK_of T2 (by simp) rfl ?_
              intro w12 hw12
              have U1 := T1.kept hw12.kept (by omega)
              have hfin := fin w12 U1 hw12.blk ((hw11.kept.weaken (fun i _ h => .inl h)).trans hw12.kept (fun i _ h => .inr h))
              simp -dsimp only [push_cast, Nat.reduceAdd, Nat.reduceLeDiff, Nat.reduceBEq, decide_true, ne_eq, eq_self, not_true_eq_false, not_false_eq_true, true_imp_iff, false_imp_iff, Int.reduceNe, Int.reduceEq, Int.reduceLT, Int.reduceLE, Bool.not_true, Bool.not_false]
              exact hfin
    · intro xs W hS hI hD
      obtain ⟨v, out, P1, P2, P3, P4, ho, hol, hob, hol2, hbB⟩ := hI
      have hxl : xs.length ≤ body.length + 1 := by rw [hS]; exact splitB_len 32 body
      have hout : ∀ l, PrintOf s l → out = l := fun l hl => by
        have hbb : body = bodyP l := by rw [← hbody]; exact (print_pre hl).2.2
        by_cases hb0 : body = []
        · rw [hob hb0, bodyP_nil (hbb.symm.trans hb0)]
        · have hs2 : xs = l.map rgP := by rw [hS, hbb]; exact split_body hl.1 (by rw [← hbb]; exact hb0)
          rw [hol2 l hl, hs2, List.length_map, List.take_length]
      have hoL : out.length < 10000000 := by omega
      simp -dsimp only [push_cast, Nat.reduceAdd, Nat.reduceLeDiff, Nat.reduceBEq, decide_true, ne_eq, eq_self, not_true_eq_false, not_false_eq_true, true_imp_iff, false_imp_iff, Int.reduceNe, Int.reduceEq, Int.reduceLT, Int.reduceLE, Bool.not_true, Bool.not_false]
      refine seqIn (ro := none) (by rfl) ?_
      have c7 : W.cell? ⟨w.heap.size + 3, 0, none⟩ = some v := P4.cell rfl
      have hsh := ho.slice
      obtain ⟨va, vc, rfl⟩ := hsh
      simp -dsimp only [push_cast, Nat.reduceAdd, Nat.reduceLeDiff, Nat.reduceBEq, decide_true, ne_eq, eq_self, not_true_eq_false, not_false_eq_true, true_imp_iff, false_imp_iff, Int.reduceNe, Int.reduceEq, Int.reduceLT, Int.reduceLE, Bool.not_true, Bool.not_false, c7]
      refine callK_of (setRight_c out (by omega) _ _ W ho.sl) ?_
      rintro _ w8 ⟨rfl, hb8⟩
      have hbs := hbB.size
      have l4 := P4.lt
      have E1 := P1.below hb8 (by omega)
      have E2 := P2.below hb8 (by omega)
      have E4 := P4.below hb8 (by omega)
      have ho8 := ho.below hb8
      have hbB8 := hbB.trans (hb8.mono hbs)
      have hD8 := (hb8.block w7.heap.size (Array.getElem?_eq_some_iff.1 hD).1).trans hD
      have c8 : w8.cell? ⟨w.heap.size + 3, 0, none⟩ = some (.slice va out.length vc) := E4.cell rfl
      cases hr : setRight (-2) out with
      | false =>
        have herr : ∀ l, ¬ PrintOf s l := fun l hl => by
          have := hout l hl
          subst this
          rw [hl.1] at hr; cases hr
        simp -dsimp only [push_cast, Nat.reduceAdd, Nat.reduceLeDiff, Nat.reduceBEq, decide_true, ne_eq, eq_self, not_true_eq_false, not_false_eq_true, true_imp_iff, false_imp_iff, Int.reduceNe, Int.reduceEq, Int.reduceLT, Int.reduceLE, Bool.not_true, Bool.not_false]
        refine storeK_of E1 (by simp) rfl ?_
        intro wa hwa
        have sza : wa.heap.size = w8.heap.size := hwa.size
        have Ta : Blk wa w.heap.size 102 [.slice none 0 0] := hwa.blk
        have Tb := E2.kept hwa.kept (by omega)
        have hka := hwa.kept
        have hDa := (hka.block w7.heap.size (by have := (Array.getElem?_eq_some_iff.1 hD8).1; omega) (by omega)).trans hD8
        have hba := hbB8.trans (hka.below (B := w.heap.size) (by have := hbB8.size; omega) (fun i h => by omega))
        simp -dsimp only [push_cast, Nat.reduceAdd, Nat.reduceLeDiff, Nat.reduceBEq, decide_true, ne_eq, eq_self, not_true_eq_false, not_false_eq_true, true_imp_iff, false_imp_iff, Int.reduceNe, Int.reduceEq, Int.reduceLT, Int.reduceLE, Bool.not_true, Bool.not_false]
        refine storeK_of Tb (by simp) rfl ?_
        intro wb hwb
        have szb : wb.heap.size = wa.heap.size := hwb.size
        have Ub := Ta.kept hwb.kept (by omega)
        have hkb := hwb.kept
        have hDb := (hkb.block w7.heap.size (by have := (Array.getElem?_eq_some_iff.1 hDa).1; omega) (by omega)).trans hDa
        have hbb := hba.trans (hkb.below (B := w.heap.size) (by have := hba.size; omega) (fun i h => by omega))
        simp -dsimp only [push_cast, Nat.reduceAdd, Nat.reduceLeDiff, Nat.reduceBEq, decide_true, ne_eq, eq_self, not_true_eq_false, not_false_eq_true, true_imp_iff, false_imp_iff, Int.reduceNe, Int.reduceEq, Int.reduceLT, Int.reduceLE, Bool.not_true, Bool.not_false]
        exact parse_end es7 Ub hwb.blk hDb hbb (.inr ⟨herr, rfl⟩) (by rfl) (by rfl)
      | true =>
        simp -dsimp only [push_cast, Nat.reduceAdd, Nat.reduceLeDiff, Nat.reduceBEq, decide_true, ne_eq, eq_self, not_true_eq_false, not_false_eq_true, true_imp_iff, false_imp_iff, Int.reduceNe, Int.reduceEq, Int.reduceLT, Int.reduceLE, Bool.not_true, Bool.not_false, c8]
        refine callK_of (print_c out (by omega) (wr_right (a := -2) (by omega) hr) _ _ w8 ho8.sl (hd.below hbB8 hd.lt)) ?_
        rintro _ w9 ⟨rfl, hb9⟩
        have l48 := E4.lt
        have E19 := E1.below hb9 (by have := hb8.size; omega)
        have E29 := E2.below hb9 (by have := hb8.size; omega)
        have E49 := E4.below hb9 (by have := hb8.size; omega)
        have ho9 := ho8.below hb9
        have hbB9 := hbB8.trans (hb9.mono hbB8.size)
        have hD9 := (hb9.block w7.heap.size (Array.getElem?_eq_some_iff.1 hD8).1).trans hD8
        have c9 : w9.cell? ⟨w.heap.size + 3, 0, none⟩ = some (.slice va out.length vc) := E49.cell rfl
        simp -dsimp only [push_cast, Nat.reduceAdd, Nat.reduceLeDiff, Nat.reduceBEq, decide_true, ne_eq, eq_self, not_true_eq_false, not_false_eq_true, true_imp_iff, false_imp_iff, Int.reduceNe, Int.reduceEq, Int.reduceLT, Int.reduceLE, Bool.not_true, Bool.not_false]
        refine ⟨fun hne => ?_, fun heq => ?_⟩
        · have herr : ∀ l, ¬ PrintOf s l := fun l hl => by
            have := hout l hl
            subst this
            exact hne hl.2
          refine storeK_of E19 (by simp) rfl ?_
          intro wa hwa
          have sza : wa.heap.size = w9.heap.size := hwa.size
          have Ta : Blk wa w.heap.size 102 [.slice none 0 0] := hwa.blk
          have Tb := E29.kept hwa.kept (by omega)
          have hka := hwa.kept
          have hDa := (hka.block w7.heap.size (by have := (Array.getElem?_eq_some_iff.1 hD9).1; omega) (by omega)).trans hD9
          have hba := hbB9.trans (hka.below (B := w.heap.size) (by have := hbB9.size; omega) (fun i h => by omega))
          simp -dsimp only [push_cast, Nat.reduceAdd, Nat.reduceLeDiff, Nat.reduceBEq, decide_true, ne_eq, eq_self, not_true_eq_false, not_false_eq_true, true_imp_iff, false_imp_iff, Int.reduceNe, Int.reduceEq, Int.reduceLT, Int.reduceLE, Bool.not_true, Bool.not_false]
          refine storeK_of Tb (by simp) rfl ?_
          intro wb hwb
          have szb : wb.heap.size = wa.heap.size := hwb.size
          have Ub := Ta.kept hwb.kept (by omega)
          have hkb := hwb.kept
          have hDb := (hkb.block w7.heap.size (by have := (Array.getElem?_eq_some_iff.1 hDa).1; omega) (by omega)).trans hDa
          have hbb := hba.trans (hkb.below (B := w.heap.size) (by have := hba.size; omega) (fun i h => by omega))
          simp -dsimp only [push_cast, Nat.reduceAdd, Nat.reduceLeDiff, Nat.reduceBEq, decide_true, ne_eq, eq_self, not_true_eq_false, not_false_eq_true, true_imp_iff, false_imp_iff, Int.reduceNe, Int.reduceEq, Int.reduceLT, Int.reduceLE, Bool.not_true, Bool.not_false]
          exact parse_end es7 Ub hwb.blk hDb hbb (.inr ⟨herr, rfl⟩) (by rfl) (by rfl)
        · refine seqIn (ro := none) (by rfl) ?_
          simp -dsimp only [push_cast, Nat.reduceAdd, Nat.reduceLeDiff, Nat.reduceBEq, decide_true, ne_eq, eq_self, not_true_eq_false, not_false_eq_true, true_imp_iff, false_imp_iff, Int.reduceNe, Int.reduceEq, Int.reduceLT, Int.reduceLE, Bool.not_true, Bool.not_false, c9]
          refine storeK_of E19 (by simp) rfl ?_
          intro wa hwa
          have sza : wa.heap.size = w9.heap.size := hwa.size
          have hka := hwa.kept
          have l49 := E49.lt
          have Ta : Blk wa w.heap.size 102 [.slice va out.length vc] := hwa.blk
          have Tb := E29.kept hwa.kept (by omega)
          have hoa := ho9.keptX hwa.kept (fun g hg h => by have := (ho9.block g hg).1; omega)
          have lD := (Array.getElem?_eq_some_iff.1 hD9).1
          have hDa := (hka.block w7.heap.size (by omega) (by omega)).trans hD9
          have hba := hbB9.trans (hka.below (B := w.heap.size) (by omega) (fun i h => by omega))
          simp -dsimp only [push_cast, Nat.reduceAdd, Nat.reduceLeDiff, Nat.reduceBEq, decide_true, ne_eq, eq_self, not_true_eq_false, not_false_eq_true, true_imp_iff, false_imp_iff, Int.reduceNe, Int.reduceEq, Int.reduceLT, Int.reduceLE, Bool.not_true, Bool.not_false]
          refine storeK_of Tb (by simp) rfl ?_
          intro wb hwb
          have szb : wb.heap.size = wa.heap.size := hwb.size
          have hkb := hwb.kept
          have Ub := Ta.kept hwb.kept (by omega)
          have hob' := hoa.keptX hwb.kept (fun g hg h => by have := (hoa.block g hg).1; omega)
          have hDb := (hkb.block w7.heap.size (by omega) (by omega)).trans hDa
          have hbb := hba.trans (hkb.below (B := w.heap.size) (by omega) (fun i h => by omega))
          have hoe := hob'.keptX (keptPut (X := fun k => k = w7.heap.size) wb w7.heap.size (.deferred none) rfl) (fun g hg h => by have := (hob'.block g hg).1; omega)
          simp -dsimp only [push_cast, Nat.reduceAdd, Nat.reduceLeDiff, Nat.reduceBEq, decide_true, ne_eq, eq_self, not_true_eq_false, not_false_eq_true, true_imp_iff, false_imp_iff, Int.reduceNe, Int.reduceEq, Int.reduceLT, Int.reduceLE, Bool.not_true, Bool.not_false]
          refine wpIn_ret ?_
          exact parse_end es7 Ub hwb.blk hDb hbb (.inl ⟨_, out, rfl, hoe.mono (by omega), hr, Classical.not_not.1 heq⟩) (by rfl) (by rfl)
    · intro c pre W hSp hX hD
      rcases hX with ⟨rfl, h1, h2, herr, hb⟩ | ⟨rfl, hbe, hI⟩
      · refine wpIn_ret ?_
        simp -dsimp only [push_cast, Nat.reduceAdd, Nat.reduceLeDiff, Nat.reduceBEq, decide_true, ne_eq, eq_self, not_true_eq_false, not_false_eq_true, true_imp_iff, false_imp_iff, Int.reduceNe, Int.reduceEq, Int.reduceLT, Int.reduceLE, Bool.not_true, Bool.not_false]
        exact parse_end es7 h1 h2 hD hb (.inr ⟨herr, rfl⟩) (by rfl) (by rfl)
      · obtain ⟨v, out, P1, P2, P3, P4, ho, hol, hob, hol2, hbB⟩ := hI
        have hout : ∀ l, PrintOf s l → out = l := fun l hl => by
          have hbb : body = bodyP l := by rw [← hbody]; exact (print_pre hl).2.2
          rw [hob hbe, bodyP_nil (hbb.symm.trans hbe)]
        have hoL : out.length < 10000000 := by rw [hob hbe]; decide
        refine wpIn_exit ?_
        simp -dsimp only [push_cast, Nat.reduceAdd, Nat.reduceLeDiff, Nat.reduceBEq, decide_true, ne_eq, eq_self, not_true_eq_false, not_false_eq_true, true_imp_iff, false_imp_iff, Int.reduceNe, Int.reduceEq, Int.reduceLT, Int.reduceLE, Bool.not_true, Bool.not_false]
        refine seqIn (ro := none) (by rfl) ?_
        have c7 : W.cell? ⟨w.heap.size + 3, 0, none⟩ = some v := P4.cell rfl
        have hsh := ho.slice
        obtain ⟨va, vc, rfl⟩ := hsh
        simp -dsimp only [push_cast, Nat.reduceAdd, Nat.reduceLeDiff, Nat.reduceBEq, decide_true, ne_eq, eq_self, not_true_eq_false, not_false_eq_true, true_imp_iff, false_imp_iff, Int.reduceNe, Int.reduceEq, Int.reduceLT, Int.reduceLE, Bool.not_true, Bool.not_false, c7]
        refine callK_of (setRight_c out (by omega) _ _ W ho.sl) ?_
        rintro _ w8 ⟨rfl, hb8⟩
        have hbs := hbB.size
        have l4 := P4.lt
        have E1 := P1.below hb8 (by omega)
        have E2 := P2.below hb8 (by omega)
        have E4 := P4.below hb8 (by omega)
        have ho8 := ho.below hb8
        have hbB8 := hbB.trans (hb8.mono hbs)
        have hD8 := (hb8.block w7.heap.size (Array.getElem?_eq_some_iff.1 hD).1).trans hD
        have c8 : w8.cell? ⟨w.heap.size + 3, 0, none⟩ = some (.slice va out.length vc) := E4.cell rfl
        cases hr : setRight (-2) out with
        | false =>
          have herr : ∀ l, ¬ PrintOf s l := fun l hl => by
            have := hout l hl
            subst this
            rw [hl.1] at hr; cases hr
          simp -dsimp only [push_cast, Nat.reduceAdd, Nat.reduceLeDiff, Nat.reduceBEq, decide_true, ne_eq, eq_self, not_true_eq_false, not_false_eq_true, true_imp_iff, false_imp_iff, Int.reduceNe, Int.reduceEq, Int.reduceLT, Int.reduceLE, Bool.not_true, Bool.not_false]
          refine storeK_of E1 (by simp) rfl ?_
          intro wa hwa
          have sza : wa.heap.size = w8.heap.size := hwa.size
          have Ta : Blk wa w.heap.size 102 [.slice none 0 0] := hwa.blk
          have Tb := E2.kept hwa.kept (by omega)
          have hka := hwa.kept
          have hDa := (hka.block w7.heap.size (by have := (Array.getElem?_eq_some_iff.1 hD8).1; omega) (by omega)).trans hD8
          have hba := hbB8.trans (hka.below (B := w.heap.size) (by have := hbB8.size; omega) (fun i h => by omega))
          simp -dsimp only [push_cast, Nat.reduceAdd, Nat.reduceLeDiff, Nat.reduceBEq, decide_true, ne_eq, eq_self, not_true_eq_false, not_false_eq_true, true_imp_iff, false_imp_iff, Int.reduceNe, Int.reduceEq, Int.reduceLT, Int.reduceLE, Bool.not_true, Bool.not_false]
          refine storeK_of Tb (by simp) rfl ?_
          intro wb hwb
          have szb : wb.heap.size = wa.heap.size := hwb.size
          have Ub := Ta.kept hwb.kept (by omega)
          have hkb := hwb.kept
          have hDb := (hkb.block w7.heap.size (by have := (Array.getElem?_eq_some_iff.1 hDa).1; omega) (by omega)).trans hDa
          have hbb := hba.trans (hkb.below (B := w.heap.size) (by have := hba.size; omega) (fun i h => by omega))
          simp -dsimp only [push_cast, Nat.reduceAdd, Nat.reduceLeDiff, Nat.reduceBEq, decide_true, ne_eq, eq_self, not_true_eq_false, not_false_eq_true, true_imp_iff, false_imp_iff, Int.reduceNe, Int.reduceEq, Int.reduceLT, Int.reduceLE, Bool.not_true, Bool.not_false]
          exact parse_end es7 Ub hwb.blk hDb hbb (.inr ⟨herr, rfl⟩) (by rfl) (by rfl)
        | true =>
          simp -dsimp only [push_cast, Nat.reduceAdd, Nat.reduceLeDiff, Nat.reduceBEq, decide_true, ne_eq, eq_self, not_true_eq_false, not_false_eq_true, true_imp_iff, false_imp_iff, Int.reduceNe, Int.reduceEq, Int.reduceLT, Int.reduceLE, Bool.not_true, Bool.not_false, c8]
          refine callK_of (print_c out (by omega) (wr_right (a := -2) (by omega) hr) _ _ w8 ho8.sl (hd.below hbB8 hd.lt)) ?_
          rintro _ w9 ⟨rfl, hb9⟩
          have l48 := E4.lt
          have E19 := E1.below hb9 (by have := hb8.size; omega)
          have E29 := E2.below hb9 (by have := hb8.size; omega)
          have E49 := E4.below hb9 (by have := hb8.size; omega)
          have ho9 := ho8.below hb9
          have hbB9 := hbB8.trans (hb9.mono hbB8.size)
          have hD9 := (hb9.block w7.heap.size (Array.getElem?_eq_some_iff.1 hD8).1).trans hD8
          have c9 : w9.cell? ⟨w.heap.size + 3, 0, none⟩ = some (.slice va out.length vc) := E49.cell rfl
          simp -dsimp only [push_cast, Nat.reduceAdd, Nat.reduceLeDiff, Nat.reduceBEq, decide_true, ne_eq, eq_self, not_true_eq_false, not_false_eq_true, true_imp_iff, false_imp_iff, Int.reduceNe, Int.reduceEq, Int.reduceLT, Int.reduceLE, Bool.not_true, Bool.not_false]
          refine ⟨fun hne => ?_, fun heq => ?_⟩
          · have herr : ∀ l, ¬ PrintOf s l := fun l hl => by
              have := hout l hl
              subst this
              exact hne hl.2
            refine storeK_of E19 (by simp) rfl ?_
            intro wa hwa
            have sza : wa.heap.size = w9.heap.size := hwa.size
            have Ta : Blk wa w.heap.size 102 [.slice none 0 0] := hwa.blk
            have Tb := E29.kept hwa.kept (by omega)
            have hka := hwa.kept
            have hDa := (hka.block w7.heap.size (by have := (Array.getElem?_eq_some_iff.1 hD9).1; omega) (by omega)).trans hD9
            have hba := hbB9.trans (hka.below (B := w.heap.size) (by have := hbB9.size; omega) (fun i h => by omega))
            simp -dsimp only [push_cast, Nat.reduceAdd, Nat.reduceLeDiff, Nat.reduceBEq, decide_true, ne_eq, eq_self, not_true_eq_false, not_false_eq_true, true_imp_iff, false_imp_iff, Int.reduceNe, Int.reduceEq, Int.reduceLT, Int.reduceLE, Bool.not_true, Bool.not_false]
            refine storeK_of Tb (by simp) rfl ?_
            intro wb hwb
            have szb : wb.heap.size = wa.heap.size := hwb.size
            have Ub := Ta.kept hwb.kept (by omega)
            have hkb := hwb.kept
            have hDb := (hkb.block w7.heap.size (by have := (Array.getElem?_eq_some_iff.1 hDa).1; omega) (by omega)).trans hDa
            have hbb := hba.trans (hkb.below (B := w.heap.size) (by have := hba.size; omega) (fun i h => by omega))
            simp -dsimp only [push_cast, Nat.reduceAdd, Nat.reduceLeDiff, Nat.reduceBEq, decide_true, ne_eq, eq_self, not_true_eq_false, not_false_eq_true, true_imp_iff, false_imp_iff, Int.reduceNe, Int.reduceEq, Int.reduceLT, Int.reduceLE, Bool.not_true, Bool.not_false]
            exact parse_end es7 Ub hwb.blk hDb hbb (.inr ⟨herr, rfl⟩) (by rfl) (by rfl)
          · refine seqIn (ro := none) (by rfl) ?_
            simp -dsimp only [push_cast, Nat.reduceAdd, Nat.reduceLeDiff, Nat.reduceBEq, decide_true, ne_eq, eq_self, not_true_eq_false, not_false_eq_true, true_imp_iff, false_imp_iff, Int.reduceNe, Int.reduceEq, Int.reduceLT, Int.reduceLE, Bool.not_true, Bool.not_false, c9]
            refine storeK_of E19 (by simp) rfl ?_
            intro wa hwa
            have sza : wa.heap.size = w9.heap.size := hwa.size
            have hka := hwa.kept
            have l49 := E49.lt
            have Ta : Blk wa w.heap.size 102 [.slice va out.length vc] := hwa.blk
            have Tb := E29.kept hwa.kept (by omega)
            have hoa := ho9.keptX hwa.kept (fun g hg h => by have := (ho9.block g hg).1; omega)
            have lD := (Array.getElem?_eq_some_iff.1 hD9).1
            have hDa := (hka.block w7.heap.size (by omega) (by omega)).trans hD9
            have hba := hbB9.trans (hka.below (B := w.heap.size) (by omega) (fun i h => by omega))
            simp -dsimp only [push_cast, Nat.reduceAdd, Nat.reduceLeDiff, Nat.reduceBEq, decide_true, ne_eq, eq_self, not_true_eq_false, not_false_eq_true, true_imp_iff, false_imp_iff, Int.reduceNe, Int.reduceEq, Int.reduceLT, Int.reduceLE, Bool.not_true, Bool.not_false]
            refine storeK_of Tb (by simp) rfl ?_
            intro wb hwb
            have szb : wb.heap.size = wa.heap.size := hwb.size
            have hkb := hwb.kept
            have Ub := Ta.kept hwb.kept (by omega)
            have hob' := hoa.keptX hwb.kept (fun g hg h => by have := (hoa.block g hg).1; omega)
            have hDb := (hkb.block w7.heap.size (by omega) (by omega)).trans hDa
            have hbb := hba.trans (hkb.below (B := w.heap.size) (by omega) (fun i h => by omega))
            have hoe := hob'.keptX (keptPut (X := fun k => k = w7.heap.size) wb w7.heap.size (.deferred none) rfl) (fun g hg h => by have := (hob'.block g hg).1; omega)
            simp -dsimp only [push_cast, Nat.reduceAdd, Nat.reduceLeDiff, Nat.reduceBEq, decide_true, ne_eq, eq_self, not_true_eq_false, not_false_eq_true, true_imp_iff, false_imp_iff, Int.reduceNe, Int.reduceEq, Int.reduceLT, Int.reduceLE, Bool.not_true, Bool.not_false]
            refine wpIn_ret ?_
            exact parse_end es7 Ub hwb.blk hDb hbb (.inl ⟨_, out, rfl, hoe.mono (by omega), hr, Classical.not_not.1 heq⟩) (by rfl) (by rfl)
end Go.Proofs.YtiofleijieepgaaGreatDoor
end
section
set_option linter.unusedSimpArgs false
set_option linter.unusedVariables false
namespace Cae
inductive All2 {α β : Type} (R : α → β → Prop) : List α → List β → Prop
  | nil : All2 R [] []
  | cons {x y l m} : R x y → All2 R l m → All2 R (x :: l) (y :: m)
theorem All2.snoc {α β : Type} {R : α → β → Prop} {l : List α} {m : List β} {x : α} {y : β} (h : All2 R l m) (hr : R x y) : All2 R (l ++ [x]) (m ++ [y]) := by
  induction h with
  | nil => exact .cons hr .nil
  | cons h1 _ ih => exact .cons h1 ih
theorem All2.app {α β : Type} {R : α → β → Prop} {l l' : List α} {m m' : List β} (h : All2 R l m) (h' : All2 R l' m') : All2 R (l ++ l') (m ++ m') := by
  induction h with
  | nil => exact h'
  | cons h1 _ ih => exact .cons h1 ih
theorem All2.len {α β : Type} {R : α → β → Prop} {l : List α} {m : List β} (h : All2 R l m) : l.length = m.length := by
  induction h with
  | nil => rfl
  | cons _ _ ih => simp [ih]
end Cae
end
section
set_option linter.unusedSimpArgs false
set_option linter.unusedVariables false
namespace Cae

/-! Rules as text: what is read, as the program reads it, in plain Lean. -/
/-- A token: what kind (1 a word, 2 a number, 3 a set, 4 a mark, 5 the end), its text, where. -/
structure Tok where
  kind : Nat
  text : List UInt8
  pos : Nat
  deriving DecidableEq
inductive KindP where
  | lit (pos : Nat) (s : List Rg)
  | ref (pos : Nat) (name : List UInt8)
  | not (pos : Nat) (l : KindP)
  | bin (code : Nat) (pos : Nat) (l r : KindP)
inductive PatP where
  | one (k : KindP)
  | any
  | edge
  | cat (l : List PatP)
  | alt (l : List PatP)
  | many (x : PatP) (lo hi : Int)
structure RuleP where
  pos : Nat
  brk : Bool
  before : PatP
  after : PatP
structure ClassP where
  name : List UInt8
  pos : Nat
  kind : KindP
structure FileP where
  classes : List ClassP
  rules : List RuleP
  els : Bool

def letterP (c : UInt8) : Bool := decide (97 ≤ c.toNat) && decide (c.toNat ≤ 122)
def digitP (c : UInt8) : Bool := decide (48 ≤ c.toNat) && decide (c.toNat ≤ 57)
def markL : List UInt8 := [61, 59, 58, 124, 38, 45, 126, 40, 41, 46, 42, 43, 63, 123, 125, 44, 36]
/-- How many bytes from the beginning on are so. -/
def runP (f : UInt8 → Bool) (s : List UInt8) : Nat := (s.takeWhile f).length
/-- What stands at a text's beginning: its kind, its length (0: nothing). -/
def nextT (s : List UInt8) : Nat × Nat :=
  let c := s.headD 0
  if letterP c then (1, runP (fun c => letterP c || digitP c) s)
  else if digitP c then (2, runP digitP s)
  else if c = 91 then (3, if s.contains 93 then runP (· != 93) s + 1 else 0)
  else if markL.contains c then (4, 1)
  else (4, 0)
/-- The tokens of a text, from a place on; or what is wrong, and where. -/
def tokLoop : Nat → Nat → List UInt8 → List Tok → Except (Nat × Nat) (List Tok)
  | 0, i, s, acc => .error (0, 0)
  | n + 1, i, [], acc => .ok (acc ++ [⟨5, [], i⟩])
  | n + 1, i, c :: r, acc =>
    if c = 32 ∨ c = 10 then tokLoop n (i + 1) r acc
    else if c = 35 then tokLoop n (i + runP (· != 10) (c :: r)) ((c :: r).drop (runP (· != 10) (c :: r))) acc
    else if (nextT (c :: r)).2 = 0 then .error (3, i)
    else if acc.length = 500 then .error (4, i)
    else tokLoop n (i + (nextT (c :: r)).2) ((c :: r).drop (nextT (c :: r)).2) (acc ++ [⟨(nextT (c :: r)).1, (c :: r).take (nextT (c :: r)).2, i⟩])
def tokP (s : List UInt8) : Except (Nat × Nat) (List Tok) := tokLoop (s.length + 1) 0 s []

/-- The set that a text is. -/
def setP (s : List UInt8) : Option (List Rg) :=
  let body := (s.drop 1).dropLast
  let l : List Rg := if body = [] then [] else (splitB 32 body).map fun p => (((hexV (cutP 45 p).1 : Nat) : Int), if (cutP 45 p).2.2 then ((hexV (cutP 45 p).2.1 : Nat) : Int) else ((hexV (cutP 45 p).1 : Nat) : Int))
  if setRight (-2) l && printP l == s then some l else none

/-- What reads tokens: what it reads, and those that are left; or what is wrong, and where. -/
abbrev Pa (α : Type) := List Tok → Except (Nat × Nat) (α × List Tok)
def hd (l : List Tok) : Tok := l.headD ⟨5, [], 0⟩
/-- One behind the other. -/
def pb {α β : Type} (p : Pa α) (q : α → Pa β) : Pa β := fun l => match p l with
  | .error e => .error e
  | .ok (x, l') => q x l'
def pr {α : Type} (x : α) : Pa α := fun l => .ok (x, l)
def pfail {α : Type} (e : Nat) : Pa α := fun l => .error (e, (hd l).pos)
def pif {α : Type} (c : List Tok → Bool) (p q : Pa α) : Pa α := fun l => if c l then p l else q l
def peek : Pa Tok := fun l => .ok (hd l, l)
def popP : Pa Unit := fun l => match l with
  | [] => .error (0, 0)
  | t :: r => if t.kind = 5 then .error (0, 0) else .ok ((), r)
def isKind (k : Nat) (l : List Tok) : Bool := (hd l).kind == k
def seeP (s : List UInt8) (l : List Tok) : Bool := (hd l).kind != 5 && (hd l).text == s
def mustP (s : List UInt8) : Pa Unit := pif (seeP s) popP (pfail 3)
def keptP (s : List UInt8) : Bool := s == [99, 108, 97, 115, 115] || s == [98, 114, 101, 97, 107] || s == [107, 101, 101, 112] || s == [101, 108, 115, 101]
def namedP (l : List Tok) : Bool := (hd l).kind == 1 && !keptP (hd l).text
def longP (l : List Tok) : Bool := decide (10 < (hd l).text.length)
def nameP : Pa (List UInt8) := pif namedP (pif longP (pfail 4) (pb peek fun t => pb popP fun _ => pr t.text)) (pfail 3)
/-- Which mark of two kinds is next (0: none). -/
def binP : Pa Nat := pif (seeP [124]) (pb popP fun _ => pr 3) (pif (seeP [38]) (pb popP fun _ => pr 4) (pif (seeP [45]) (pb popP fun _ => pr 5) (pr 0)))
def kindLoop (one : Pa KindP) (pos : Nat) : Nat → KindP → Pa KindP
  | 0, k => pfail 0
  | n + 1, k => pb binP fun c => if c = 0 then pr k else pb one fun r => kindLoop one pos n (.bin c pos k r)
def kindW (one : Pa KindP) : Pa KindP := pb peek fun t => pb one fun k => kindLoop one t.pos 1000 k
def litP : Pa KindP := pb peek fun t => match setP t.text with
  | none => pfail 3
  | some s => pb popP fun _ => pr (.lit t.pos s)
/-- A set, a name, what is not one, or a kind in parentheses: so many deep yet. -/
def oneP : Nat → Pa KindP
  | 0 => pfail 4
  | d + 1 => pif (isKind 3) litP (pif (seeP [126]) (pb peek fun t => pb popP fun _ => pb (oneP d) fun k => pr (.not t.pos k))
    (pif (seeP [40]) (pb popP fun _ => pb (kindW (oneP d)) fun k => pb (mustP [41]) fun _ => pr k)
      (pb peek fun t => pb nameP fun n => pr (.ref t.pos n))))
def kindP (d : Nat) : Pa KindP := kindW (oneP d)

def decV (s : List UInt8) : Nat := s.foldl (fun m b => 10 * m + (b.toNat - 48)) 0
def timesP : Pa Nat := pif (isKind 2) (pb peek fun t => if 12 < decV t.text then pfail 4 else pb popP fun _ => pr (decV t.text)) (pfail 3)
/-- How often: what stands behind a part. -/
def bracesP : Pa (Int × Int) := pb timesP fun lo => pif (seeP [44])
  (pb popP fun _ => pif (isKind 2)
    (pb timesP fun hi => if hi < lo then pfail 2 else pb (mustP [125]) fun _ => pr ((lo : Int), (hi : Int)))
    (pb (mustP [125]) fun _ => pr ((lo : Int), -1)))
  (pb (mustP [125]) fun _ => pr ((lo : Int), (lo : Int)))
def suffixP : Pa (Option (Int × Int)) :=
  pif (seeP [42]) (pb popP fun _ => pr (some (0, -1)))
  (pif (seeP [43]) (pb popP fun _ => pr (some (1, -1)))
  (pif (seeP [63]) (pb popP fun _ => pr (some (0, 1)))
  (pif (seeP [123]) (pb popP fun _ => pb bracesP fun r => pr (some r)) (pr none))))
def againLoop (d : Nat) : Nat → Nat → PatP → Pa PatP
  | 0, c, x => pfail 0
  | n + 1, c, x => pb suffixP fun r => match r with
    | none => pr x
    | some q => if d ≤ c + 1 then pfail 4 else againLoop d n (c + 1) (.many x q.1 q.2)
def againW (d : Nat) (unit : Pa PatP) : Pa PatP := pb unit fun x => againLoop d 1000 0 x
def startP (l : List Tok) : Bool := isKind 3 l || namedP l || seeP [46] l || seeP [36] l || seeP [40] l
def rowLoop (again : Pa PatP) : Nat → List PatP → Pa (List PatP)
  | 0, acc => pfail 0
  | n + 1, acc => pif startP (pb again fun x => rowLoop again n (acc ++ [x])) (pr acc)
def rowOf : List PatP → PatP
  | [x] => x
  | l => .cat l
def altOf : List PatP → PatP
  | [x] => x
  | l => .alt l
def rowW (again : Pa PatP) : Pa PatP := pb (rowLoop again 1000 []) fun ps => pr (rowOf ps)
def altLoop (row : Pa PatP) : Nat → List PatP → Pa (List PatP)
  | 0, acc => pfail 0
  | n + 1, acc => pif (seeP [124]) (pb popP fun _ => pb row fun x => altLoop row n (acc ++ [x])) (pr acc)
def altW (row : Pa PatP) : Pa PatP := pb row fun x => pb (altLoop row 1000 [x]) fun ps => pr (altOf ps)
/-- A pattern, over the units of a depth. -/
def patW (d : Nat) (unit : Pa PatP) : Pa PatP := if d = 0 then pfail 4 else altW (rowW (againW d unit))
def unitStart (l : List Tok) : Bool := isKind 3 l || namedP l
def unitP : Nat → Pa PatP
  | 0 => pfail 4
  | d + 1 => pif (seeP [46]) (pb popP fun _ => pr .any)
    (pif (seeP [36]) (pb popP fun _ => pr .edge)
    (pif (seeP [40]) (pb popP fun _ => pb (patW d (unitP d)) fun x => pb (mustP [41]) fun _ => pr x)
    (pif unitStart (pb (oneP (d + 1)) fun k => pr (.one k)) (pfail 3))))
def patP (d : Nat) : Pa PatP := patW d (unitP d)

def classP : Pa ClassP := pb peek fun t => pb (mustP [99, 108, 97, 115, 115]) fun _ => pb nameP fun n => pb (mustP [61]) fun _ => pb (kindP 9) fun k => pb (mustP [59]) fun _ => pr ⟨n, t.pos, k⟩
def classLoop : Nat → List ClassP → Pa (List ClassP)
  | 0, acc => pfail 0
  | n + 1, acc => pif (seeP [99, 108, 97, 115, 115]) (if acc.length = 20 then pfail 4 else pb classP fun c => classLoop n (acc ++ [c])) (pr acc)
/-- break, or keep. -/
def saysP : Pa Bool := pif (seeP [98, 114, 101, 97, 107]) (pb popP fun _ => pr true) (pb (mustP [107, 101, 101, 112]) fun _ => pr false)
def ruleP : Pa RuleP := pb peek fun t => pb saysP fun b => pb (patP 9) fun x => pb (mustP [58]) fun _ => pb (patP 9) fun y => pb (mustP [59]) fun _ => pr ⟨t.pos, b, x, y⟩
def ruleStart (l : List Tok) : Bool := seeP [98, 114, 101, 97, 107] l || seeP [107, 101, 101, 112] l
def ruleLoop : Nat → List RuleP → Pa (List RuleP)
  | 0, acc => pfail 0
  | n + 1, acc => pif ruleStart (if acc.length = 20 then pfail 4 else pb ruleP fun r => ruleLoop n (acc ++ [r])) (pr acc)
def elseP : Pa Bool := pif (seeP [101, 108, 115, 101]) (pb popP fun _ => pb saysP fun b => pb (mustP [59]) fun _ => pr b) (pr true)
def fileP : Pa FileP := pb (classLoop 1000 []) fun cs => pb (ruleLoop 1000 []) fun rs => pb elseP fun b => pr ⟨cs, rs, b⟩
/-- The file that a text is; or what is wrong, and where. -/
def parseR (s : List UInt8) : Except (Nat × Nat) FileP := match tokP s with
  | .error e => .error e
  | .ok l => match fileP l with
    | .error e => .error e
    | .ok (f, l') => if isKind 5 l' then .ok f else .error (3, (hd l').pos)

/-! How a file is written. -/
def kindText : KindP → Bool → List UInt8
  | .lit _ s, _ => printP s
  | .ref _ n, _ => n
  | .not _ l, _ => 126 :: kindText l true
  | .bin c _ l r, alone =>
    let m : List UInt8 := if c = 3 then [32, 124, 32] else if c = 4 then [32, 38, 32] else [32, 45, 32]
    let s := kindText l false ++ m ++ kindText r true
    if alone then 40 :: (s ++ [41]) else s
/-- A number below a hundred, in decimal digits. -/
def decP (n : Nat) : List UInt8 := if n < 10 then [dig n] else if n < 100 then [dig (n / 10), dig (n % 10)] else []
def timesText (lo hi : Int) : List UInt8 :=
  if lo = 0 ∧ hi < 0 then [42] else if lo = 1 ∧ hi < 0 then [43] else if lo = 0 ∧ hi = 1 then [63]
  else if hi < 0 then 123 :: (decP lo.toNat ++ [44, 125])
  else if hi = lo then 123 :: (decP lo.toNat ++ [125])
  else 123 :: (decP lo.toNat ++ 44 :: (decP hi.toNat ++ [125]))
def inPar (b : Bool) (s : List UInt8) : List UInt8 := if b then 40 :: (s ++ [41]) else s
mutual
def patText : PatP → Nat → List UInt8
  | .one k, _ => kindText k true
  | .any, _ => [46]
  | .edge, _ => [36]
  | .cat l, least => inPar (decide (1 < least)) (Go.Lib.join (patTexts l 2) [32])
  | .alt l, least => inPar (decide (0 < least)) (Go.Lib.join (patTexts l 1) [32, 124, 32])
  | .many x lo hi, _ => patText x 2 ++ timesText lo hi
def patTexts : List PatP → Nat → List (List UInt8)
  | [], _ => []
  | x :: l, least => patText x least :: patTexts l least
end
def classText (c : ClassP) : List UInt8 := [99, 108, 97, 115, 115, 32] ++ c.name ++ [32, 61, 32] ++ kindText c.kind false ++ [59, 10]
def ruleText (r : RuleP) : List UInt8 :=
  (if r.brk then [98, 114, 101, 97, 107, 32] else [107, 101, 101, 112, 32])
    ++ (if patText r.before 0 = [] then [] else patText r.before 0 ++ [32]) ++ [58] ++ (if patText r.after 0 = [] then [] else 32 :: patText r.after 0) ++ [59, 10]
def elseText (b : Bool) : List UInt8 := if b then [] else [101, 108, 115, 101, 32, 107, 101, 101, 112, 59, 10]
def fileText (f : FileP) : List UInt8 := (f.classes.flatMap classText) ++ (f.rules.flatMap ruleText) ++ elseText f.els

/-- A fact: how a file is written. -/
def factR : List UInt8 := "class a=[61-7a]-[65];#x\nkeep a(a|.)* : ( a ){2,} ;else keep;".toUTF8.data.toList
def factW : List UInt8 := "class a = [61-7a] - [65];\nkeep a (a | .)* : a{2,};\nelse keep;\n".toUTF8.data.toList
end Cae
end
section
set_option linter.unusedSimpArgs false
set_option linter.unusedVariables false
namespace Cae
theorem setP_ok {s : List UInt8} {l : List Rg} (h : setP s = some l) : PrintOf s l := by
  have key : ∀ l' : List Rg, (if setRight (-2) l' && printP l' == s then some l' else none) = some l → PrintOf s l := fun l' h => by
    by_cases hc : (setRight (-2) l' && printP l' == s) = true
    · rw [if_pos hc] at h
      obtain rfl := Option.some.inj h
      simp only [Bool.and_eq_true, beq_iff_eq] at hc
      exact ⟨hc.1, hc.2⟩
    · rw [if_neg hc] at h; cases h
  exact key _ h
end Cae
end
section
set_option linter.unusedSimpArgs false
set_option linter.unusedVariables false
namespace Cae
theorem map_same {α : Type} {f : α → α} {l : List α} (h : ∀ r ∈ l, f r = r) : l.map f = l := by
  induction l with
  | nil => rfl
  | cons x l ih => rw [List.map_cons, h x (by simp), ih (fun r hr => h r (by simp [hr]))]
theorem setP_of {s : List UInt8} {l : List Rg} (h : PrintOf s l) : setP s = some l := by
  obtain ⟨hr, rfl⟩ := h
  have hb : ((printP l).drop 1).dropLast = bodyP l := by
    unfold printP bodyP
    simp
  have hmap : (if ((printP l).drop 1).dropLast = [] then ([] : List Rg) else (splitB 32 ((printP l).drop 1).dropLast).map fun p => (((hexV (cutP 45 p).1 : Nat) : Int), if (cutP 45 p).2.2 then ((hexV (cutP 45 p).2.1 : Nat) : Int) else ((hexV (cutP 45 p).1 : Nat) : Int))) = l := by
    rw [hb]
    by_cases h0 : bodyP l = []
    · rw [if_pos h0, bodyP_nil h0]
    · rw [if_neg h0, split_body hr h0, List.map_map]
      refine map_same fun r hrm => ?_
      obtain ⟨h1, h2, h3⟩ := mem_right (by omega) hr r hrm
      simp only [Function.comp]
      by_cases hlt : r.1 < r.2
      · rw [cut_rg h1 (by omega) (by omega) hlt]
        simp only [if_true]
        rw [hexP_val (by omega), hexP_val (by omega)]
        ext <;> simp <;> omega
      · rw [cut_rg1 h1 (by omega) hlt]
        simp only [Bool.false_eq_true, if_false]
        rw [hexP_val (by omega)]
        ext <;> simp <;> omega
  unfold setP
  simp only
  rw [hmap, hr]
  simp
theorem setP_no {s : List UInt8} (h : ∀ l, ¬ PrintOf s l) : setP s = none := by
  cases hs : setP s with
  | none => rfl
  | some l => exact absurd (setP_ok hs) (h l)
/-- A set that may be has not so many ranges. -/
theorem right_few : ∀ {s : List Rg} {a : Int}, setRight a s = true → 2 * (s.length : Int) ≤ max 0 (1114113 - a)
  | [], a, _ => by simp; omega
  | r :: s, a, h => by
    rw [setRight_con] at h
    have := right_few h.2
    have h1 := h.1
    simp only [List.length_cons]
    omega
theorem right_len {s : List Rg} (h : setRight (-2) s = true) : s.length ≤ 557057 := by
  have := right_few h
  omega
end Cae
end
section
set_option linter.unusedSimpArgs false
set_option linter.unusedVariables false
namespace Cae

/-! Programs as text. -/
def wordT (b : Bool) : List UInt8 := if b then [98, 114, 101, 97, 107] else [107, 101, 101, 112]
def ruleW : List UInt8 := [114, 117, 108, 101, 32]
def elseW : List UInt8 := [101, 108, 115, 101, 32]
def afterW : List UInt8 := [97, 102, 116, 101, 114]
def opName (n : Int) : List UInt8 := if n = 1 then [116, 97, 107, 101] else if n = 2 then [115, 112, 108, 105, 116] else if n = 3 then [106, 117, 109, 112] else if n = 4 then [101, 110, 100] else if n = 5 then [121, 101, 115] else []
def itoaT (n : Int) : List UInt8 := Go.Lib.itoa n
def instL (sets : List (List Rg)) (x : I3) : List UInt8 := opName x.op ++ (if x.op = 1 then 32 :: printP (sets.getD x.a.toNat []) else if x.op = 2 then 32 :: (itoaT x.a ++ 32 :: itoaT x.b) else if x.op = 3 then 32 :: itoaT x.a else [])
def codeL (c : CodeP) : List (List UInt8) := c.ins.map (instL c.sets)
def pairL (r : PairP) : List (List UInt8) := (ruleW ++ wordT r.brk) :: (codeL r.before ++ afterW :: codeL r.after)
def progL (p : ProgP) : List (List UInt8) := p.rules.flatMap pairL ++ [elseW ++ wordT p.els]
def linesT (l : List (List UInt8)) : List UInt8 := l.flatMap (· ++ [10])
def progT (p : ProgP) : List UInt8 := linesT (progL p)

/-- A number without a nought ahead. -/
def numA (s : List UInt8) : Option Int := match Go.Lib.atoiAll s with
  | .ok v => if 0 ≤ v ∧ itoaT v = s then some v else none
  | _ => none
def idxS (t : List Rg) (sets : List (List Rg)) : Nat := sets.findIdx (· == t)
def instA (c : CodeP) (s : List UInt8) : Option CodeP :=
  let q := cutP 32 s
  if q.1 = [116, 97, 107, 101] then match setP q.2.1 with
    | none => none
    | some t => some ⟨if idxS t c.sets < c.sets.length then c.sets else c.sets ++ [t], c.ins ++ [⟨1, idxS t c.sets, 0⟩]⟩
  else if q.1 = [115, 112, 108, 105, 116] then
    match numA (cutP 32 q.2.1).1, numA (cutP 32 q.2.1).2.1 with
    | some a, some b => if (cutP 32 q.2.1).2.2 then some ⟨c.sets, c.ins ++ [⟨2, a, b⟩]⟩ else none
    | _, _ => none
  else if q.1 = [106, 117, 109, 112] then match numA q.2.1 with
    | some a => some ⟨c.sets, c.ins ++ [⟨3, a, 0⟩]⟩
    | none => none
  else if q.1 = [101, 110, 100] then (if q.2.2 then none else some ⟨c.sets, c.ins ++ [⟨4, 0, 0⟩]⟩)
  else if q.1 = [121, 101, 115] then (if q.2.2 then none else some ⟨c.sets, c.ins ++ [⟨5, 0, 0⟩]⟩)
  else none
def stopA (s : List UInt8) : Bool := s == afterW || ruleW.isPrefixOf s || elseW.isPrefixOf s
def codeA : CodeP → List (List UInt8) → Except Nat (CodeP × List (List UInt8))
  | c, [] => .ok (c, [])
  | c, s :: l => if stopA s then .ok (c, s :: l) else match instA c s with
    | none => .error (l.length + 1)
    | some c' => codeA c' l
/-- break, or keep, behind a word. -/
def saysA (w : List UInt8) : List (List UInt8) → Except Nat (Bool × List (List UInt8))
  | [] => .error 0
  | s :: l => if s = w ++ wordT true then .ok (true, l) else if s = w ++ wordT false then .ok (false, l) else .error (l.length + 1)
def afterA : List (List UInt8) → Except Nat (List (List UInt8))
  | [] => .error 0
  | s :: l => if s = afterW then .ok l else .error (l.length + 1)
def ruleStartA : List (List UInt8) → Bool
  | [] => false
  | s :: _ => ruleW.isPrefixOf s
def pairA (l : List (List UInt8)) : Except Nat (PairP × List (List UInt8)) := match saysA ruleW l with
  | .error e => .error e
  | .ok (b, l1) => match codeA ⟨[], []⟩ l1 with
    | .error e => .error e
    | .ok (c, l2) => match afterA l2 with
      | .error e => .error e
      | .ok l3 => match codeA ⟨[], []⟩ l3 with
        | .error e => .error e
        | .ok (d, l4) => .ok (⟨b, c, d⟩, l4)
def rulesA : Nat → List PairP → List (List UInt8) → Except Nat (List PairP × List (List UInt8))
  | 0, acc, l => .ok (acc, l)
  | n + 1, acc, l => if ruleStartA l then match pairA l with
      | .error e => .error e
      | .ok (r, l') => rulesA n (acc ++ [r]) l'
    else .ok (acc, l)
def trimA (s : List UInt8) : List UInt8 := if s.getLast? = some 10 then s.dropLast else s
def linesA (s : List UInt8) : List (List UInt8) := splitB 10 (trimA s)
/-- The program that lines are; or how many lines are left where there is none. -/
def bodyA (l : List (List UInt8)) : Except Nat ProgP := match rulesA l.length [] l with
  | .error e => .error e
  | .ok (rs, l1) => match saysA elseW l1 with
    | .error e => .error e
    | .ok (b, l2) => if l2 = [] then .ok ⟨rs, b⟩ else .error l2.length
/-- What a text is: a program, none at a line, or one that may not be. -/
inductive ReadA
  | ok (p : ProgP)
  | form (line : Nat)
  | arg
def parseA (s : List UInt8) : ReadA := match bodyA (linesA s) with
  | .error e => .form ((linesA s).length - e)
  | .ok p => if s.getLast? = some 10 then (if progRight p then .ok p else .arg) else .form (linesA s).length

/-! Lines, and texts. -/
theorem linesT_join : ∀ (x : List UInt8) (l : List (List UInt8)), linesT (x :: l) = Go.Lib.join (x :: l) [10] ++ [10]
  | x, [] => by simp [linesT, Go.Lib.join_one]
  | x, y :: l => by
    have ih := linesT_join y l
    have e : linesT (x :: y :: l) = x ++ 10 :: linesT (y :: l) := by simp [linesT]
    rw [e, ih, Go.Lib.join_cons, Go.Lib.join_cons]
    simp [Go.Lib.joinTail]
theorem split_ne (c : UInt8) (s : List UInt8) : splitB c s ≠ [] := by
  cases s with
  | nil => simp [splitB]
  | cons b r =>
    rw [splitB]
    split
    · simp
    · split <;> simp
theorem join_split (c : UInt8) : ∀ s : List UInt8, Go.Lib.join (splitB c s) [c] = s
  | [] => rfl
  | b :: r => by
    have ih := join_split c r
    rw [splitB]
    by_cases h : b = c
    · subst h
      rw [if_pos (by simp)]
      cases hs : splitB b r with
      | nil => exact absurd hs (split_ne _ _)
      | cons p ps =>
        rw [hs] at ih
        rw [Go.Lib.join_cons]
        rw [Go.Lib.join_cons] at ih
        simp only [Go.Lib.joinTail, List.map_cons, List.flatten_cons, List.nil_append, List.singleton_append, List.cons_append] at ih ⊢
        rw [ih]
    · rw [if_neg (by simpa using h)]
      cases hs : splitB c r with
      | nil => exact absurd hs (split_ne _ _)
      | cons p ps =>
        rw [hs] at ih
        show Go.Lib.join ((b :: p) :: ps) [c] = b :: r
        rw [Go.Lib.join_cons] at ih ⊢
        rw [← ih]
        rfl
theorem linesA_text {l : List (List UInt8)} (hne : l ≠ []) (h : ∀ p ∈ l, p.contains 10 = false) : linesA (linesT l) = l ∧ (linesT l).getLast? = some 10 := by
  cases l with
  | nil => exact absurd rfl hne
  | cons x l =>
    have h2 : (linesT (x :: l)).getLast? = some 10 := by rw [linesT_join]; simp
    refine ⟨?_, h2⟩
    unfold linesA trimA
    rw [if_pos h2, linesT_join, List.dropLast_concat]
    exact split_join x l h
theorem text_linesA {s : List UInt8} (h : s.getLast? = some 10) : linesT (linesA s) = s := by
  unfold linesA trimA
  rw [if_pos h]
  have hs : s = s.dropLast ++ [10] := by
    have hne : s ≠ [] := by intro e; rw [e] at h; cases h
    have h1 := List.dropLast_concat_getLast hne
    have h2 : s.getLast hne = 10 := by
      rw [List.getLast?_eq_some_getLast hne] at h
      exact Option.some.inj h
    rw [h2] at h1
    exact h1.symm
  cases hsp : splitB 10 s.dropLast with
  | nil => exact absurd hsp (split_ne _ _)
  | cons x l =>
    rw [linesT_join, ← hsp, join_split]
    exact hs.symm
end Cae
end
section
set_option linter.unusedSimpArgs false
set_option linter.unusedVariables false
namespace Cae

theorem cut_back (c : UInt8) (s : List UInt8) : s = (if (cutP c s).2.2 then (cutP c s).1 ++ c :: (cutP c s).2.1 else (cutP c s).1) ∧ ((cutP c s).2.2 = false → (cutP c s).2.1 = []) := by
  unfold cutP
  by_cases h : s.contains c = true
  · rw [if_pos h]
    simp only [if_true, Bool.true_eq_false, false_implies, and_true]
    have h1 : s = s.takeWhile (· != c) ++ s.dropWhile (· != c) := (List.takeWhile_append_dropWhile).symm
    have h2 : ∀ l : List UInt8, l.contains c = true → l.dropWhile (· != c) = c :: (l.dropWhile (· != c)).drop 1 := by
      intro l
      induction l with
      | nil => intro h; simp at h
      | cons b l ih =>
        intro h
        rw [List.dropWhile_cons]
        by_cases hb : b = c
        · subst hb; simp
        · rw [if_pos (by simpa using hb)]
          refine ih ?_
          rw [List.contains_cons] at h
          simpa [show (c == b) = false by simp; exact fun e => hb e.symm] using h
    rw [← h2 s h]
    exact h1
  · rw [if_neg h]
    simp
theorem cut_app {c : UInt8} {a : List UInt8} (h : a.contains c = false) (b : List UInt8) : cutP c (a ++ c :: b) = (a, b, true) := by
  unfold cutP
  have hc : (a ++ c :: b).contains c = true := by simp
  have hn : ∀ x ∈ a, (x != c) = true := by
    intro x hx
    have : c ∉ a := by simpa using h
    simp
    intro e; subst e; exact this hx
  rw [if_pos hc]
  have h1 : (a ++ c :: b).takeWhile (· != c) = a := by rw [List.takeWhile_append_of_pos hn]; simp
  have h2 : (a ++ c :: b).dropWhile (· != c) = c :: b := by rw [List.dropWhile_append_of_pos hn]; simp
  rw [h1, h2]
  rfl
theorem cut_none {c : UInt8} {a : List UInt8} (h : a.contains c = false) : cutP c a = (a, [], false) := by
  unfold cutP
  rw [if_neg (by rw [h]; decide)]
theorem numA_ok {s : List UInt8} {v : Int} (h : numA s = some v) : 0 ≤ v ∧ itoaT v = s := by
  unfold numA at h
  split at h
  · split at h
    · rename_i hc; cases h; exact hc
    · cases h
  · cases h
/-- Code whose sets are there. -/
def WFc (c : CodeP) : Prop := ∀ x ∈ c.ins, x.op = 1 → x.a.toNat < c.sets.length
theorem instL_more {sets t : List (List Rg)} {x : I3} (h : x.op = 1 → x.a.toNat < sets.length) : instL (sets ++ t) x = instL sets x := by
  unfold instL
  by_cases h1 : x.op = 1
  · rw [if_pos h1, if_pos h1]
    congr 3
    rw [List.getD_eq_getElem?_getD, List.getD_eq_getElem?_getD, List.getElem?_append_left (h h1)]
  · rw [if_neg h1, if_neg h1]
theorem codeL_more {c : CodeP} {t : List (List Rg)} {x : I3} (h : WFc c) : codeL ⟨c.sets ++ t, c.ins ++ [x]⟩ = codeL c ++ [instL (c.sets ++ t) x] := by
  unfold codeL
  rw [List.map_append, List.map_singleton]
  congr 1
  exact List.map_congr_left fun y hy => instL_more (h y hy)
theorem WFc.add {c : CodeP} {t : List (List Rg)} {x : I3} (h : WFc c) (hx : x.op = 1 → x.a.toNat < (c.sets ++ t).length) : WFc ⟨c.sets ++ t, c.ins ++ [x]⟩ := by
  intro y hy h1
  rcases List.mem_append.1 hy with hy | hy
  · have := h y hy h1
    show _ < (c.sets ++ t).length
    rw [List.length_append]
    omega
  · rw [List.mem_singleton.1 hy] at h1 ⊢
    exact hx h1
theorem idxS_at {t : List Rg} {sets : List (List Rg)} (h : idxS t sets < sets.length) : sets.getD (idxS t sets) [] = t := by
  have h1 := List.findIdx_getElem (p := (· == t)) (xs := sets) (w := h)
  rw [List.getD_eq_getElem?_getD, List.getElem?_eq_getElem h]
  exact eq_of_beq h1
theorem idxS_le (t : List Rg) (sets : List (List Rg)) : idxS t sets ≤ sets.length := List.findIdx_le_length
theorem inst_read {c c' : CodeP} {s : List UInt8} (hc : WFc c) (h : instA c s = some c') : WFc c' ∧ codeL c' = codeL c ++ [s] ∧ c'.ins.length = c.ins.length + 1 := by
  have hb := cut_back 32 s
  have plain : ∀ x : I3, x.op ≠ 1 → WFc ⟨c.sets, c.ins ++ [x]⟩ ∧ codeL ⟨c.sets, c.ins ++ [x]⟩ = codeL c ++ [instL c.sets x] ∧ (c.ins ++ [x]).length = c.ins.length + 1 := by
    intro x hx
    have h1 := WFc.add (t := []) (x := x) hc (fun h => absurd h hx)
    have h2 := codeL_more (t := []) (x := x) hc
    rw [List.append_nil] at h1 h2
    exact ⟨h1, h2, by simp⟩
  unfold instA at h
  dsimp only at h
  split at h
  · rename_i h1
    split at h
    · cases h
    · rename_i t ht
      cases h
      rw [h1] at hb
      have hne : (cutP 32 s).2.2 = true := by
        cases hf : (cutP 32 s).2.2 with
        | true => rfl
        | false =>
          rw [hb.2 hf] at ht
          have := (setP_ok ht).2
          simp [printP] at this
      have hpt : printP t = (cutP 32 s).2.1 := (setP_ok ht).2
      have hs : s = [116, 97, 107, 101] ++ 32 :: (cutP 32 s).2.1 := by
        have := hb.1
        rw [hne, if_pos rfl] at this
        exact this
      by_cases hi : idxS t c.sets < c.sets.length
      · rw [if_pos hi]
        have h2 := WFc.add (t := []) (x := ⟨1, idxS t c.sets, 0⟩) hc (fun _ => by rw [List.append_nil]; show ((idxS t c.sets : Int)).toNat < _; omega)
        have h3 := codeL_more (t := []) (x := ⟨1, idxS t c.sets, 0⟩) hc
        rw [List.append_nil] at h2 h3
        refine ⟨h2, ?_, by simp⟩
        rw [h3, hs]
        have : instL c.sets ⟨1, idxS t c.sets, 0⟩ = [116, 97, 107, 101] ++ 32 :: printP t := by
          show [116, 97, 107, 101] ++ 32 :: printP (c.sets.getD ((idxS t c.sets : Int)).toNat []) = _
          rw [Int.toNat_natCast, idxS_at hi]
        rw [this, hpt, ← hs]
      · rw [if_neg hi]
        have hl : idxS t c.sets = c.sets.length := by have := idxS_le t c.sets; omega
        have h2 := WFc.add (t := [t]) (x := ⟨1, idxS t c.sets, 0⟩) hc (fun _ => by rw [List.length_append]; show ((idxS t c.sets : Int)).toNat < _; simp; omega)
        have h3 := codeL_more (t := [t]) (x := ⟨1, idxS t c.sets, 0⟩) hc
        refine ⟨h2, ?_, by simp⟩
        rw [h3, hs]
        have : instL (c.sets ++ [t]) ⟨1, idxS t c.sets, 0⟩ = [116, 97, 107, 101] ++ 32 :: printP t := by
          show [116, 97, 107, 101] ++ 32 :: printP ((c.sets ++ [t]).getD ((idxS t c.sets : Int)).toNat []) = _
          rw [Int.toNat_natCast, hl, List.getD_eq_getElem?_getD, List.getElem?_append_right (Nat.le_refl _)]
          simp
        rw [this, hpt, ← hs]
  · split at h
    · rename_i h1
      split at h
      · rename_i a b ha hb2
        split at h
        · rename_i h2
          cases h
          rw [h1] at hb
          have hb3 := (cut_back 32 (cutP 32 s).2.1).1
          rw [h2, if_pos rfl] at hb3
          have ea := (numA_ok ha).2
          have eb := (numA_ok hb2).2
          have hne : (cutP 32 s).2.2 = true := by
            cases hf : (cutP 32 s).2.2 with
            | true => rfl
            | false => rw [hb.2 hf] at h2; simp [cutP] at h2
          have hs : s = [115, 112, 108, 105, 116] ++ 32 :: (cutP 32 s).2.1 := by
            have := hb.1
            rw [hne, if_pos rfl] at this
            exact this
          obtain ⟨p1, p2, p3⟩ := plain ⟨2, a, b⟩ (by simp)
          refine ⟨p1, ?_, p3⟩
          rw [p2]
          congr 2
          show [115, 112, 108, 105, 116] ++ 32 :: (itoaT a ++ 32 :: itoaT b) = s
          rw [ea, eb, ← hb3, ← hs]
        · cases h
      · cases h
    · split at h
      · rename_i h1
        split at h
        · rename_i a ha
          cases h
          rw [h1] at hb
          have ea := (numA_ok ha).2
          have hne : (cutP 32 s).2.2 = true := by
            cases hf : (cutP 32 s).2.2 with
            | true => rfl
            | false => rw [hb.2 hf] at ha; simp [numA, Go.Lib.atoiAll, Go.Lib.parseMag, Go.Lib.signless] at ha
          have hs : s = [106, 117, 109, 112] ++ 32 :: (cutP 32 s).2.1 := by
            have := hb.1
            rw [hne, if_pos rfl] at this
            exact this
          obtain ⟨p1, p2, p3⟩ := plain ⟨3, a, 0⟩ (by simp)
          refine ⟨p1, ?_, p3⟩
          rw [p2]
          congr 2
          show [106, 117, 109, 112] ++ 32 :: itoaT a = s
          rw [ea, ← hs]
        · cases h
      · split at h
        · rename_i h1
          split at h
          · cases h
          · rename_i hf
            cases h
            rw [h1, if_neg hf] at hb
            obtain ⟨p1, p2, p3⟩ := plain ⟨4, 0, 0⟩ (by simp)
            refine ⟨p1, ?_, p3⟩
            rw [p2, hb.1]
            rfl
        · split at h
          · rename_i h1
            split at h
            · cases h
            · rename_i hf
              cases h
              rw [h1, if_neg hf] at hb
              obtain ⟨p1, p2, p3⟩ := plain ⟨5, 0, 0⟩ (by simp)
              refine ⟨p1, ?_, p3⟩
              rw [p2, hb.1]
              rfl
          · cases h
theorem code_read : ∀ {l l' : List (List UInt8)} {c c' : CodeP}, WFc c → codeA c l = .ok (c', l') → WFc c' ∧ ∃ pre, l = pre ++ l' ∧ codeL c' = codeL c ++ pre
  | [], l', c, c', hc, h => by
    cases h
    exact ⟨hc, [], rfl, by simp⟩
  | s :: l, l', c, c', hc, h => by
    rw [codeA] at h
    split at h
    · cases h
      exact ⟨hc, [], rfl, by simp⟩
    · split at h
      · cases h
      · rename_i c1 h1
        obtain ⟨w1, e1, _⟩ := inst_read hc h1
        obtain ⟨w2, pre, e2, e3⟩ := code_read w1 h
        exact ⟨w2, s :: pre, by rw [e2]; rfl, by rw [e3, e1]; simp⟩
theorem wf_nil : WFc ⟨[], []⟩ := fun x hx => by cases hx
theorem says_read {w : List UInt8} {l l' : List (List UInt8)} {b : Bool} (h : saysA w l = .ok (b, l')) : l = (w ++ wordT b) :: l' := by
  cases l with
  | nil => cases h
  | cons s l =>
    simp only [saysA] at h
    split at h
    · rename_i e; cases h; rw [e]
    · split at h
      · rename_i e; cases h; rw [e]
      · cases h
theorem after_read {l l' : List (List UInt8)} (h : afterA l = .ok l') : l = afterW :: l' := by
  cases l with
  | nil => cases h
  | cons s l =>
    simp only [afterA] at h
    split at h
    · rename_i e; cases h; rw [e]
    · cases h
theorem pair_read {l l' : List (List UInt8)} {r : PairP} (h : pairA l = .ok (r, l')) : l = pairL r ++ l' := by
  unfold pairA at h
  split at h
  · cases h
  · rename_i b l1 h1
    split at h
    · cases h
    · rename_i c l2 h2
      split at h
      · cases h
      · rename_i l3 h3
        split at h
        · cases h
        · rename_i d l4 h4
          cases h
          obtain ⟨_, p1, e1, e2⟩ := code_read wf_nil h2
          obtain ⟨_, p2, e3, e4⟩ := code_read wf_nil h4
          rw [says_read h1, e1, after_read h3, e3]
          have e2' : codeL c = p1 := by rw [e2]; rfl
          have e4' : codeL d = p2 := by rw [e4]; rfl
          simp [pairL, e2', e4']
theorem rules_read : ∀ {n : Nat} {acc rs : List PairP} {l l' : List (List UInt8)}, rulesA n acc l = .ok (rs, l') → acc.flatMap pairL ++ l = rs.flatMap pairL ++ l'
  | 0, acc, rs, l, l', h => by cases h; rfl
  | n + 1, acc, rs, l, l', h => by
    rw [rulesA] at h
    split at h
    · split at h
      · cases h
      · rename_i r l1 h1
        have := rules_read h
        rw [pair_read h1]
        rw [← this]
        simp
    · cases h; rfl
/-- What is read is written just so. -/
theorem asm_read {s : List UInt8} {p : ProgP} (h : parseA s = .ok p) : progT p = s ∧ progRight p = true := by
  unfold parseA at h
  split at h
  · cases h
  · rename_i p' hp
    split at h
    · rename_i hn
      split at h
      · rename_i hr
        cases h
        refine ⟨?_, hr⟩
        unfold bodyA at hp
        split at hp
        · cases hp
        · rename_i rs l1 h1
          split at hp
          · cases hp
          · rename_i b l2 h2
            split at hp
            · rename_i h3
              cases hp
              have e1 := rules_read h1
              rw [says_read h2, h3] at e1
              have e2 : linesA s = progL ⟨rs, b⟩ := by simpa [progL] using e1
              unfold progT
              rw [← e2]
              exact text_linesA hn
            · cases hp
      · cases h
    · cases h
end Cae
end
section
set_option linter.unusedSimpArgs false
set_option linter.unusedVariables false
namespace Cae

def numOk (n : Nat) : Bool := (numA (itoaT n) == some (n : Int)) && !(itoaT n).contains 32 && !(itoaT n).contains 10
theorem nums_ok : (List.range 2001).all numOk = true := by decide +kernel
theorem num_ok {v : Int} (h0 : 0 ≤ v) (h1 : v ≤ 2000) : numA (itoaT v) = some v ∧ (itoaT v).contains 32 = false ∧ (itoaT v).contains 10 = false := by
  obtain ⟨n, rfl⟩ : ∃ n : Nat, v = n := ⟨v.toNat, by omega⟩
  have := List.all_eq_true.1 nums_ok n (List.mem_range.2 (by omega))
  simpa [numOk, Bool.and_eq_true, and_assoc] using this
end Cae
end
section
set_option linter.unusedSimpArgs false
set_option linter.unusedVariables false
namespace Cae

theorem c32 (l : List UInt8) : (32 :: l).contains 10 = l.contains 10 := by rw [List.contains_cons]; rfl
theorem rg_no {r : Rg} (h : 0 ≤ r.1 ∧ r.1 < 4294967296 ∧ r.2 < 4294967296) {c : UInt8} (hc : isHex c = false) (h45 : c ≠ 45) : (rgP r).contains c = false := by
  unfold rgP
  rw [contains_app, hex_no (by omega) hc]
  by_cases hlt : r.1 < r.2
  · rw [if_pos hlt, List.contains_cons, hex_no (by omega) hc]
    simp [h45]
  · rw [if_neg hlt]; rfl
theorem join_no {c : UInt8} (h32 : c ≠ 32) : ∀ {l : List (List UInt8)}, (∀ p ∈ l, p.contains c = false) → (Go.Lib.join l [32]).contains c = false
  | [], _ => rfl
  | x :: l, h => by
    rw [Go.Lib.join_cons, contains_app, h x (List.mem_cons_self ..)]
    have : ∀ m : List (List UInt8), (∀ p ∈ m, p.contains c = false) → (Go.Lib.joinTail [32] m).contains c = false := by
      intro m
      induction m with
      | nil => intro _; rfl
      | cons y m ih =>
        intro hm
        have e : Go.Lib.joinTail [32] (y :: m) = 32 :: (y ++ Go.Lib.joinTail [32] m) := by simp [Go.Lib.joinTail]
        rw [e, List.contains_cons, contains_app, hm y (List.mem_cons_self ..), ih (fun p hp => hm p (List.mem_cons_of_mem _ hp))]
        simp [h32]
    rw [this l fun p hp => h p (List.mem_cons_of_mem _ hp)]
    rfl
theorem print_no10 {s : List Rg} (h : setRight (-2) s = true) : (printP s).contains 10 = false := by
  have hw := wr_right (a := -2) (by omega) h
  unfold printP
  rw [List.contains_cons, contains_app, join_no (by decide) (by
    intro p hp
    obtain ⟨r, hr, rfl⟩ := List.mem_map.1 hp
    exact rg_no (hw r hr) (by decide) (by decide))]
  decide
/-- An instruction, and what is read of what is written of it. -/
def IE (sets sets' : List (List Rg)) (x y : I3) : Prop := y.op = x.op ∧ y.b = x.b ∧ (x.op = 1 → 0 ≤ y.a ∧ y.a.toNat < sets'.length ∧ sets'.getD y.a.toNat [] = sets.getD x.a.toNat []) ∧ (x.op ≠ 1 → y.a = x.a)
theorem IE.more {sets sets' t : List (List Rg)} {x y : I3} (h : IE sets sets' x y) : IE sets (sets' ++ t) x y := by
  refine ⟨h.1, h.2.1, fun h1 => ?_, h.2.2.2⟩
  obtain ⟨a, b, c⟩ := h.2.2.1 h1
  refine ⟨a, by rw [List.length_append]; omega, ?_⟩
  rw [← c, List.getD_eq_getElem?_getD, List.getD_eq_getElem?_getD, List.getElem?_append_left b]
theorem All2.imp' {α β : Type} {R S : α → β → Prop} {l : List α} {m : List β} (h : All2 R l m) (k : ∀ a b, R a b → S a b) : All2 S l m := by
  induction h with
  | nil => exact .nil
  | cons h1 _ ih => exact .cons (k _ _ h1) ih
structure Acc2 (c : CodeP) (xs : List I3) (d : CodeP) : Prop where
  rel : All2 (IE c.sets d.sets) xs d.ins
  right : ∀ s ∈ d.sets, setRight (-2) s = true
  few : d.sets.length ≤ d.ins.length
theorem Acc2.nil (c : CodeP) : Acc2 c [] ⟨[], []⟩ := ⟨.nil, fun s hs => (by cases hs), Nat.le_refl _⟩
theorem ins_cases {x : I3} {k n : Int} (h : insRight x k n = true) (hn : n ≤ 2000) : (x.op = 1 ∧ 0 ≤ x.a ∧ x.a < k ∧ x.b = 0) ∨ (x.op = 2 ∧ 0 ≤ x.a ∧ x.a ≤ 2000 ∧ 0 ≤ x.b ∧ x.b ≤ 2000) ∨ (x.op = 3 ∧ 0 ≤ x.a ∧ x.a ≤ 2000 ∧ x.b = 0) ∨ (x.op = 4 ∧ x.a = 0 ∧ x.b = 0) ∨ (x.op = 5 ∧ x.a = 0 ∧ x.b = 0) := by
  unfold insRight at h
  split at h
  · have := of_decide_eq_true h; omega
  · split at h
    · have := of_decide_eq_true h; omega
    · split at h
      · have := of_decide_eq_true h; omega
      · split at h
        · have := of_decide_eq_true h; omega
        · cases h
theorem code_parts {c : CodeP} (h : codeRight c = true) : (1 ≤ c.ins.length ∧ c.ins.length ≤ 2000 ∧ c.sets.length ≤ 2000) ∧ (∀ x ∈ c.ins, insRight x c.sets.length c.ins.length = true) ∧ (∀ s ∈ c.sets, setRight (-2) s = true) ∧ ∃ x, c.ins[c.ins.length - 1]? = some x ∧ x.op ≠ 1 ∧ x.op ≠ 4 := by
  unfold codeRight at h
  simp only [Bool.and_eq_true, decide_eq_true_eq, List.all_eq_true] at h
  refine ⟨h.1.1.1, h.1.2, h.2, ?_⟩
  have h2 := h.1.1.2
  split at h2
  · rename_i x hx; exact ⟨x, hx, of_decide_eq_true h2⟩
  · cases h2
theorem take_set {c : CodeP} (hc : codeRight c = true) {x : I3} (hx : x ∈ c.ins) (h1 : x.op = 1) : ∃ t, c.sets.getD x.a.toNat [] = t ∧ setRight (-2) t = true ∧ x.a.toNat < c.sets.length := by
  obtain ⟨_, h2, h3, _⟩ := code_parts hc
  have := h2 x hx
  rcases ins_cases this (by have := (code_parts hc).1.2.1; omega) with h | h | h | h | h <;> (try omega)
  have hlt : x.a.toNat < c.sets.length := by omega
  refine ⟨_, rfl, ?_, hlt⟩
  rw [List.getD_eq_getElem?_getD, List.getElem?_eq_getElem hlt]
  exact h3 _ (List.getElem_mem hlt)
theorem line_no10 {c : CodeP} (hc : codeRight c = true) {x : I3} (hx : x ∈ c.ins) : (instL c.sets x).contains 10 = false := by
  obtain ⟨h1, h2, h3, _⟩ := code_parts hc
  obtain ⟨op, a, b⟩ := x
  rcases ins_cases (h2 _ hx) (by omega) with h | h | h | h | h
  · obtain ⟨t, ht, hr, hlt⟩ := take_set hc hx h.1
    have h0 := h.1
    simp only at h0 ht
    subst h0
    show ([116, 97, 107, 101] ++ 32 :: printP (c.sets.getD a.toNat [])).contains 10 = false
    rw [ht, contains_app, c32, print_no10 hr]
    decide
  · have h0 := h.1
    simp only at h0
    subst h0
    show ([115, 112, 108, 105, 116] ++ 32 :: (itoaT a ++ 32 :: itoaT b)).contains 10 = false
    have na := (num_ok h.2.1 h.2.2.1).2.2
    have nb := (num_ok h.2.2.2.1 h.2.2.2.2).2.2
    simp only at na nb
    rw [contains_app, c32, contains_app, c32, na, nb]
    decide
  · have h0 := h.1
    simp only at h0
    subst h0
    show ([106, 117, 109, 112] ++ 32 :: itoaT a).contains 10 = false
    have na := (num_ok h.2.1 h.2.2.1).2.2
    simp only at na
    rw [contains_app, c32, na]
    decide
  · obtain ⟨h0, h1, h2⟩ := h
    simp only at h0 h1 h2
    subst h0; subst h1; subst h2
    rfl
  · obtain ⟨h0, h1, h2⟩ := h
    simp only at h0 h1 h2
    subst h0; subst h1; subst h2
    rfl
theorem line_go {c : CodeP} (hc : codeRight c = true) {x : I3} (hx : x ∈ c.ins) : stopA (instL c.sets x) = false := by
  obtain ⟨h1, h2, h3, _⟩ := code_parts hc
  obtain ⟨op, a, b⟩ := x
  rcases ins_cases (h2 _ hx) (by omega) with h | h | h | h | h
  · have h0 := h.1
    simp only at h0
    subst h0
    show stopA (116 :: _) = false
    simp [stopA, afterW, ruleW, elseW, List.isPrefixOf]
  · have h0 := h.1
    simp only at h0
    subst h0
    show stopA (115 :: _) = false
    simp [stopA, afterW, ruleW, elseW, List.isPrefixOf]
  · have h0 := h.1
    simp only at h0
    subst h0
    show stopA (106 :: _) = false
    simp [stopA, afterW, ruleW, elseW, List.isPrefixOf]
  · have h0 := h.1
    simp only at h0
    subst h0
    show stopA (101 :: 110 :: _) = false
    simp [stopA, afterW, ruleW, elseW, List.isPrefixOf]
  · have h0 := h.1
    simp only at h0
    subst h0
    show stopA (121 :: _) = false
    simp [stopA, afterW, ruleW, elseW, List.isPrefixOf]
theorem inst_put {c : CodeP} (hc : codeRight c = true) {xs : List I3} {d : CodeP} (h : Acc2 c xs d) {x : I3} (hx : x ∈ c.ins) : ∃ d', instA d (instL c.sets x) = some d' ∧ Acc2 c (xs ++ [x]) d' := by
  obtain ⟨h1, h2, h3, _⟩ := code_parts hc
  have plain : ∀ y : I3, y.op ≠ 1 → Acc2 c (xs ++ [y]) ⟨d.sets, d.ins ++ [y]⟩ := fun y hy =>
    ⟨h.rel.snoc ⟨rfl, rfl, fun e => absurd e hy, fun _ => rfl⟩, h.right, by have := h.few; show d.sets.length ≤ (d.ins ++ [y]).length; rw [List.length_append]; omega⟩
  obtain ⟨op, a, b⟩ := x
  rcases ins_cases (h2 _ hx) (by omega) with hh | hh | hh | hh | hh
  · obtain ⟨t, ht, hr, hlt⟩ := take_set hc hx hh.1
    have h0 := hh.1
    have hb := hh.2.2.2
    simp only at h0 ht hb
    subst h0; subst hb
    have e : instL c.sets ⟨1, a, 0⟩ = [116, 97, 107, 101] ++ 32 :: printP t := by
      show [116, 97, 107, 101] ++ 32 :: printP (c.sets.getD a.toNat []) = _
      rw [ht]
    rw [e]
    unfold instA
    dsimp only
    rw [cut_app (by decide)]
    dsimp only
    rw [if_pos rfl, setP_of ⟨hr, rfl⟩]
    refine ⟨_, rfl, ?_⟩
    by_cases hi : idxS t d.sets < d.sets.length
    · rw [if_pos hi]
      refine ⟨h.rel.snoc ⟨rfl, rfl, fun _ => ⟨by show (0 : Int) ≤ (idxS t d.sets : Nat); omega, by show ((idxS t d.sets : Nat) : Int).toNat < _; omega, ?_⟩, fun e => absurd rfl e⟩, h.right, by have := h.few; show d.sets.length ≤ (d.ins ++ [_]).length; rw [List.length_append]; omega⟩
      show d.sets.getD ((idxS t d.sets : Nat) : Int).toNat [] = c.sets.getD a.toNat []
      rw [ht, Int.toNat_natCast, idxS_at hi]
    · rw [if_neg hi]
      have hl : idxS t d.sets = d.sets.length := by have := idxS_le t d.sets; omega
      refine ⟨(h.rel.imp' fun _ _ => IE.more).snoc ⟨rfl, rfl, fun _ => ⟨by show (0 : Int) ≤ (idxS t d.sets : Nat); omega, by show ((idxS t d.sets : Nat) : Int).toNat < (d.sets ++ [t]).length; rw [List.length_append]; simp; omega, ?_⟩, fun e => absurd rfl e⟩, ?_, by have := h.few; show (d.sets ++ [t]).length ≤ (d.ins ++ [_]).length; rw [List.length_append, List.length_append]; simp; omega⟩
      · show (d.sets ++ [t]).getD ((idxS t d.sets : Nat) : Int).toNat [] = c.sets.getD a.toNat []
        rw [ht, Int.toNat_natCast, hl, List.getD_eq_getElem?_getD, List.getElem?_append_right (Nat.le_refl _)]
        simp
      · intro s hs
        rcases List.mem_append.1 hs with hs | hs
        · exact h.right s hs
        · rw [List.mem_singleton.1 hs]; exact hr
  · have h0 := hh.1
    simp only at h0
    subst h0
    have na := num_ok hh.2.1 hh.2.2.1
    have nb := num_ok hh.2.2.2.1 hh.2.2.2.2
    simp only at na nb
    have e : instL c.sets ⟨2, a, b⟩ = [115, 112, 108, 105, 116] ++ 32 :: (itoaT a ++ 32 :: itoaT b) := rfl
    rw [e]
    unfold instA
    dsimp only
    rw [cut_app (by decide)]
    dsimp only
    rw [if_neg (by decide), if_pos rfl, cut_app na.2.1]
    dsimp only
    rw [na.1, nb.1]
    exact ⟨_, rfl, plain _ (by simp)⟩
  · have h0 := hh.1
    have hb := hh.2.2.2
    simp only at h0 hb
    subst h0; subst hb
    have na := num_ok hh.2.1 hh.2.2.1
    simp only at na
    have e : instL c.sets ⟨3, a, 0⟩ = [106, 117, 109, 112] ++ 32 :: itoaT a := rfl
    rw [e]
    unfold instA
    dsimp only
    rw [cut_app (by decide)]
    dsimp only
    rw [if_neg (by decide), if_neg (by decide), if_pos rfl, na.1]
    exact ⟨_, rfl, plain _ (by simp)⟩
  · obtain ⟨h0, h1, h2⟩ := hh
    simp only at h0 h1 h2
    subst h0; subst h1; subst h2
    exact ⟨_, rfl, plain ⟨4, 0, 0⟩ (by simp)⟩
  · obtain ⟨h0, h1, h2⟩ := hh
    simp only at h0 h1 h2
    subst h0; subst h1; subst h2
    exact ⟨_, rfl, plain ⟨5, 0, 0⟩ (by simp)⟩
def stops : List (List UInt8) → Bool
  | [] => true
  | s :: _ => stopA s
theorem code_put {c : CodeP} (hc : codeRight c = true) {rest : List (List UInt8)} (hr : stops rest = true) : ∀ {ys xs : List I3} {d : CodeP}, Acc2 c xs d → (∀ y ∈ ys, y ∈ c.ins) → ∃ d', codeA d (ys.map (instL c.sets) ++ rest) = .ok (d', rest) ∧ Acc2 c (xs ++ ys) d'
  | [], xs, d, h, _ => by
    refine ⟨d, ?_, by rw [List.append_nil]; exact h⟩
    cases rest with
    | nil => rfl
    | cons s l =>
      show codeA d (s :: l) = _
      rw [codeA, if_pos (show stopA s = true from hr)]
  | y :: ys, xs, d, h, hy => by
    obtain ⟨d1, e1, h1⟩ := inst_put hc h (hy y (List.mem_cons_self ..))
    obtain ⟨d2, e2, h2⟩ := code_put hc hr (ys := ys) h1 fun z hz => hy z (List.mem_cons_of_mem _ hz)
    refine ⟨d2, ?_, by rw [List.append_assoc] at h2; exact h2⟩
    rw [List.map_cons, List.cons_append, codeA, if_neg (by rw [line_go hc (hy y (List.mem_cons_self ..))]; decide), e1]
    exact e2
/-- Code, and what is read of what is written of it. -/
def CE (c d : CodeP) : Prop := All2 (IE c.sets d.sets) c.ins d.ins ∧ codeRight d = true
theorem All2.get {α β : Type} {R : α → β → Prop} {l : List α} {m : List β} (h : All2 R l m) (i : Nat) : (l[i]? = none ∧ m[i]? = none) ∨ ∃ x y, l[i]? = some x ∧ m[i]? = some y ∧ R x y := by
  induction h generalizing i with
  | nil => exact .inl ⟨rfl, rfl⟩
  | cons h1 _ ih =>
    cases i with
    | zero => exact .inr ⟨_, _, rfl, rfl, h1⟩
    | succ i => simpa using ih i
theorem All2.mem {α β : Type} {R : α → β → Prop} {l : List α} {m : List β} (h : All2 R l m) {y : β} (hy : y ∈ m) : ∃ x ∈ l, R x y := by
  induction h with
  | nil => cases hy
  | cons h1 _ ih =>
    rcases List.mem_cons.1 hy with rfl | hy
    · exact ⟨_, List.mem_cons_self .., h1⟩
    · obtain ⟨x, hx, hr⟩ := ih hy
      exact ⟨x, List.mem_cons_of_mem _ hx, hr⟩
theorem acc_right {c d : CodeP} (hc : codeRight c = true) (h : Acc2 c c.ins d) : CE c d := by
  refine ⟨h.rel, ?_⟩
  obtain ⟨h1, h2, h3, x, hx, hx1, hx4⟩ := code_parts hc
  have hl := h.rel.len
  have hf := h.few
  unfold codeRight
  simp only [Bool.and_eq_true, decide_eq_true_eq, List.all_eq_true]
  refine ⟨⟨⟨⟨by omega, by omega, by omega⟩, ?_⟩, ?_⟩, h.right⟩
  · rw [← hl]
    rcases h.rel.get (c.ins.length - 1) with ⟨e, _⟩ | ⟨x', y, e1, e2, hr⟩
    · rw [e] at hx; cases hx
    · rw [e1] at hx
      cases hx
      rw [e2]
      simp [hr.1, hx1, hx4]
  · intro y hy
    obtain ⟨x', hx', hr⟩ := h.rel.mem hy
    have h4 := h2 x' hx'
    rw [← hl]
    unfold insRight at h4 ⊢
    rw [hr.1, hr.2.1]
    by_cases e1 : x'.op = 1
    · rw [if_pos e1] at h4 ⊢
      have := of_decide_eq_true h4
      have := hr.2.2.1 e1
      exact decide_eq_true (by omega)
    · rw [if_neg e1] at h4 ⊢
      rw [hr.2.2.2 e1]
      exact h4
end Cae
end
section
set_option linter.unusedSimpArgs false
set_option linter.unusedVariables false
namespace Cae

/-! What is read matches as what was written. -/
theorem ce_exec {c d : CodeP} (hc : codeRight c = true) {k : Nat} {x y : I3} (hx : c.ins[k]? = some x) (h5 : x.op ≠ 5) (hr : IE c.sets d.sets x y) (cur : Option Int) (q nx : List Nat) : exec1 d cur y k q nx = exec1 c cur x k q nx := by
  obtain ⟨h1, h2, h3, _⟩ := code_parts hc
  have hm := ins_cases (h2 x (List.mem_of_getElem? hx)) (by omega)
  unfold exec1
  rw [hr.1, hr.2.1]
  by_cases e1 : x.op = 1
  · obtain ⟨_, _, e⟩ := hr.2.2.1 e1
    rw [if_neg (by omega), if_neg (by omega), if_neg (by omega), if_neg (by omega), if_neg (by omega), if_neg (by omega), e]
  · rw [hr.2.2.2 e1]
    by_cases e2 : x.op = 2
    · rw [if_pos e2, if_pos e2]
    by_cases e3 : x.op = 3
    · rw [if_neg e2, if_neg e2, if_pos e3, if_pos e3]
    by_cases e4 : x.op = 4
    · rw [if_neg e2, if_neg e2, if_neg e3, if_neg e3, if_pos e4, if_pos e4]
    omega
theorem ce_inner {c d : CodeP} (hc : codeRight c = true) (h : CE c d) (cur : Option Int) : ∀ (f : Nat) (q : List Nat) (k : Nat) (nx : List Nat) (st : Nat), inner d cur f q k nx st = inner c cur f q k nx st
  | 0, _, _, _, _ => rfl
  | f + 1, q, k, nx, st => by
    rw [inner, inner]
    cases hq : q[k]? with
    | none => rfl
    | some a =>
      dsimp only
      rcases h.1.get a with ⟨e1, e2⟩ | ⟨x, y, e1, e2, hr⟩
      · rw [e1, e2]
      · rw [e1, e2]
        dsimp only
        rw [hr.1]
        by_cases h5 : x.op = 5
        · rw [if_pos h5, if_pos h5]
        · rw [if_neg h5, if_neg h5, ce_exec hc e1 h5 hr]
          exact ce_inner hc h cur f _ _ _ _
theorem ce_outer {c d : CodeP} (hc : codeRight c = true) (h : CE c d) : ∀ (ps : List Int) (q : List Nat) (st : Nat), outer d ps q st = outer c ps q st
  | [], q, st => by
    rw [outer, outer, ← h.1.len, ce_inner hc h]
  | p :: ps, q, st => by
    rw [outer, outer, ← h.1.len, ce_inner hc h]
    split
    · rfl
    · split
      · rfl
      · exact ce_outer hc h ps _ _
theorem ce_match {c d : CodeP} (hc : codeRight c = true) (h : CE c d) (ps : List Int) : vmatch d ps = vmatch c ps := ce_outer hc h ps _ _
def PairE (r r' : PairP) : Prop := r'.brk = r.brk ∧ CE r.before r'.before ∧ CE r.after r'.after
def PairOk (r : PairP) : Prop := codeRight r.before = true ∧ codeRight r.after = true
theorem pe_met {r r' : PairP} (hr : PairOk r) (h : PairE r r') (ps : List Int) (i : Nat) : ruleMet ps i r' = ruleMet ps i r := by
  unfold ruleMet
  rw [ce_match hr.1 h.2.1, ce_match hr.2 h.2.2]
theorem pe_fold {rs rs' : List PairP} (h : All2 PairE rs rs') (hok : ∀ r ∈ rs, PairOk r) (els : Bool) (ps : List Int) (i : Nat) : rs'.foldr (fun r acc => if ruleMet ps i r then r.brk else acc) els = rs.foldr (fun r acc => if ruleMet ps i r then r.brk else acc) els := by
  induction h with
  | nil => rfl
  | cons h1 _ ih =>
    rw [List.foldr_cons, List.foldr_cons, ih fun r hr => hok r (List.mem_cons_of_mem _ hr), pe_met (hok _ (List.mem_cons_self ..)) h1, h1.1]
theorem pe_breaks {p q : ProgP} (h : All2 PairE p.rules q.rules) (hok : ∀ r ∈ p.rules, PairOk r) (he : q.els = p.els) (ps : List Int) : breaksP q ps = breaksP p ps := by
  unfold breaksP breaksTo
  have : isBreak q ps = isBreak p ps := by
    funext i
    unfold isBreak saysFrom
    rw [List.drop_zero, List.drop_zero, pe_fold h hok, he]
  rw [this]
theorem says_put (w : List UInt8) (b : Bool) (l : List (List UInt8)) : saysA w ((w ++ wordT b) :: l) = .ok (b, l) := by
  cases b with
  | true => simp [saysA]
  | false => simp [saysA, wordT]
theorem pair_put {r : PairP} (hr : PairOk r) {rest : List (List UInt8)} (hs : stops rest = true) : ∃ r', pairA (pairL r ++ rest) = .ok (r', rest) ∧ PairE r r' := by
  obtain ⟨d1, e1, h1⟩ := code_put hr.1 (rest := afterW :: (codeL r.after ++ rest)) (by show stopA afterW = true; decide) (ys := r.before.ins) (Acc2.nil r.before) (fun y h => h)
  obtain ⟨d2, e2, h2⟩ := code_put hr.2 (rest := rest) hs (ys := r.after.ins) (Acc2.nil r.after) (fun y h => h)
  rw [List.nil_append] at h1 h2
  have e : pairL r ++ rest = (ruleW ++ wordT r.brk) :: (codeL r.before ++ afterW :: (codeL r.after ++ rest)) := by simp [pairL]
  refine ⟨⟨r.brk, d1, d2⟩, ?_, rfl, acc_right hr.1 h1, acc_right hr.2 h2⟩
  rw [e]
  unfold pairA
  rw [says_put]
  dsimp only
  have e1' : codeA ⟨[], []⟩ (codeL r.before ++ afterW :: (codeL r.after ++ rest)) = .ok (d1, afterW :: (codeL r.after ++ rest)) := e1
  have e2' : codeA ⟨[], []⟩ (codeL r.after ++ rest) = .ok (d2, rest) := e2
  rw [e1']
  dsimp only
  simp only [afterA, if_true]
  rw [e2']
theorem rule_start (r : PairP) (l : List (List UInt8)) : ruleStartA (pairL r ++ l) = true := by
  show ruleW.isPrefixOf (ruleW ++ wordT r.brk) = true
  exact List.isPrefixOf_iff_prefix.2 (List.prefix_append _ _)
theorem else_start (b : Bool) : ruleStartA [elseW ++ wordT b] = false ∧ stops [elseW ++ wordT b] = true := by cases b <;> decide
theorem rules_put : ∀ {rs acc : List PairP} {n : Nat} (b : Bool), rs.length ≤ n → (∀ r ∈ rs, PairOk r) → ∃ rs', rulesA n acc (rs.flatMap pairL ++ [elseW ++ wordT b]) = .ok (acc ++ rs', [elseW ++ wordT b]) ∧ All2 PairE rs rs'
  | [], acc, n, b, _, _ => by
    refine ⟨[], ?_, .nil⟩
    rw [List.append_nil]
    cases n with
    | zero => rfl
    | succ n =>
      rw [rulesA]
      rw [if_neg (by rw [show List.flatMap pairL [] ++ [elseW ++ wordT b] = [elseW ++ wordT b] from rfl, (else_start b).1]; decide)]
      rfl
  | r :: rs, acc, n, b, hn, hok => by
    obtain ⟨m, rfl⟩ : ∃ m, n = m + 1 := ⟨n - 1, by rw [List.length_cons] at hn; omega⟩
    have hst : stops (rs.flatMap pairL ++ [elseW ++ wordT b]) = true := by
      cases rs with
      | nil => exact (else_start b).2
      | cons r2 rs2 =>
        show stopA (ruleW ++ wordT r2.brk) = true
        cases r2.brk <;> decide
    obtain ⟨r', e1, h1⟩ := pair_put (hok r (List.mem_cons_self ..)) hst
    obtain ⟨rs', e2, h2⟩ := rules_put (acc := acc ++ [r']) (n := m) b (by rw [List.length_cons] at hn; omega) fun x hx => hok x (List.mem_cons_of_mem _ hx)
    refine ⟨r' :: rs', ?_, .cons h1 h2⟩
    have e : List.flatMap pairL (r :: rs) ++ [elseW ++ wordT b] = pairL r ++ (rs.flatMap pairL ++ [elseW ++ wordT b]) := by simp
    rw [e, rulesA, if_pos (rule_start _ _), e1]
    dsimp only
    rw [e2]
    simp
theorem flat_len2 (rs : List PairP) : rs.length ≤ (rs.flatMap pairL).length := by
  induction rs with
  | nil => simp
  | cons r rs ih =>
    rw [List.flatMap_cons, List.length_append, List.length_cons]
    have : 1 ≤ (pairL r).length := by simp [pairL]
    omega
theorem right_parts {p : ProgP} (h : progRight p = true) : p.rules.length ≤ 20 ∧ ∀ r ∈ p.rules, PairOk r := by
  unfold progRight at h
  simp only [Bool.and_eq_true, decide_eq_true_eq, List.all_eq_true] at h
  exact ⟨h.1, fun r hr => h.2 r hr⟩
theorem pair_no10 {r : PairP} (hr : PairOk r) : ∀ l ∈ pairL r, l.contains 10 = false := by
  intro l hl
  unfold pairL at hl
  rcases List.mem_cons.1 hl with rfl | hl
  · cases r.brk <;> decide
  · rcases List.mem_append.1 hl with hl | hl
    · obtain ⟨x, hx, rfl⟩ := List.mem_map.1 hl
      exact line_no10 hr.1 hx
    · rcases List.mem_cons.1 hl with rfl | hl
      · decide
      · obtain ⟨x, hx, rfl⟩ := List.mem_map.1 hl
        exact line_no10 hr.2 hx
theorem prog_no10 {p : ProgP} (h : progRight p = true) : ∀ l ∈ progL p, l.contains 10 = false := by
  intro l hl
  unfold progL at hl
  rcases List.mem_append.1 hl with hl | hl
  · obtain ⟨r, hr, hl⟩ := List.mem_flatMap.1 hl
    exact pair_no10 ((right_parts h).2 r hr) l hl
  · rw [List.mem_singleton.1 hl]
    cases p.els <;> decide
/-- What is written is read, as a program that is written just so, and breaks just so. -/
theorem asm_back {p : ProgP} (h : progRight p = true) : ∃ q, parseA (progT p) = .ok q ∧ progT q = progT p ∧ progRight q = true ∧ (∀ ps, breaksP q ps = breaksP p ps) ∧ q.els = p.els := by
  have hne : progL p ≠ [] := by simp [progL]
  obtain ⟨e1, e2⟩ := linesA_text hne (prog_no10 h)
  obtain ⟨h20, hok⟩ := right_parts h
  obtain ⟨rs', e3, h3⟩ := rules_put (rs := p.rules) (acc := []) (n := (progL p).length) p.els (by have := flat_len2 p.rules; unfold progL; rw [List.length_append]; omega) hok
  have hb : bodyA (progL p) = .ok ⟨rs', p.els⟩ := by
    unfold bodyA
    have e3' : rulesA (progL p).length [] (progL p) = .ok ([] ++ rs', [elseW ++ wordT p.els]) := e3
    rw [e3', List.nil_append]
    dsimp only
    rw [says_put]
    rfl
  have hr : progRight ⟨rs', p.els⟩ = true := by
    unfold progRight
    simp only [Bool.and_eq_true, decide_eq_true_eq, List.all_eq_true]
    refine ⟨by have := h3.len; omega, fun r hr => ?_⟩
    obtain ⟨r0, _, hp⟩ := h3.mem hr
    exact ⟨hp.2.1.2, hp.2.2.2⟩
  have hp : parseA (progT p) = .ok ⟨rs', p.els⟩ := by
    unfold parseA
    have e1' : linesA (progT p) = progL p := e1
    rw [e1', hb]
    dsimp only
    rw [if_pos (show (progT p).getLast? = some 10 from e2), if_pos hr]
  exact ⟨_, hp, (asm_read hp).1, hr, fun ps => pe_breaks (p := p) (q := ⟨rs', p.els⟩) h3 hok rfl ps, rfl⟩

/-! The rules of two programs. -/
def rulesT (p : ProgP) : List UInt8 := linesT (p.rules.flatMap pairL)
theorem progT_eq (p : ProgP) : progT p = rulesT p ++ (elseW ++ wordT p.els ++ [10]) := by
  unfold progT rulesT progL linesT
  simp
def both (p q : ProgP) : ProgP := ⟨p.rules ++ q.rules, q.els⟩
theorem both_text (p q : ProgP) : progT (both p q) = rulesT p ++ progT q := by
  rw [progT_eq, progT_eq]
  unfold rulesT both linesT
  simp
theorem both_right {p q : ProgP} (hp : progRight p = true) (hq : progRight q = true) (hn : p.rules.length + q.rules.length ≤ 20) : progRight (both p q) = true := by
  have h1 := right_parts hp
  have h2 := right_parts hq
  unfold progRight both
  simp only [Bool.and_eq_true, decide_eq_true_eq, List.all_eq_true, List.length_append]
  refine ⟨hn, fun r hr => ?_⟩
  rcases List.mem_append.1 hr with hr | hr
  · exact h1.2 r hr
  · exact h2.2 r hr
end Cae
end
section
set_option linter.unusedSimpArgs false
set_option linter.unusedVariables false
namespace Cae

/-! The library's splitting, as lists. -/
theorem takeWhile_split {c : UInt8} {s : List UInt8} (h : s.contains c = true) : s = s.takeWhile (· != c) ++ c :: (s.dropWhile (· != c)).drop 1 := by
  have := (cut_back c s).1
  have e : cutP c s = (s.takeWhile (· != c), (s.dropWhile (· != c)).drop 1, true) := by unfold cutP; rw [if_pos h]
  rw [e] at this
  exact this
theorem takeWhile_no {c : UInt8} (s : List UInt8) : (s.takeWhile (· != c)).contains c = false := by
  induction s with
  | nil => rfl
  | cons b s ih =>
    rw [List.takeWhile_cons]
    by_cases hb : b = c
    · subst hb; simp
    · rw [if_pos (by simpa using hb), List.contains_cons, ih]
      simp
      exact fun e => hb e.symm
theorem splitK_one (c : UInt8) : ∀ (n : Nat) (s : List UInt8), s.length ≤ n → Go.Lib.splitK [c] 0 (Go.Lib.count s [c]) s = splitB c s := by
  intro n
  induction n with
  | zero =>
    intro s hs
    obtain rfl : s = [] := List.eq_nil_of_length_eq_zero (by omega)
    rfl
  | succ n ih =>
    intro s hs
    have hi := ib_spec c s
    rw [← Go.Lib.index_one] at hi
    by_cases hc : s.contains c = true
    · rw [if_pos hc] at hi
      have hsp := takeWhile_split hc
      have hno := takeWhile_no (c := c) s
      generalize s.takeWhile (· != c) = a at hi hsp hno
      generalize (s.dropWhile (· != c)).drop 1 = b at hsp
      subst hsp
      have h1 := Go.Lib.count_hit (sub := [c]) (by simp) hi
      have hd : (a ++ c :: b).drop (a.length + [c].length) = b := by
        rw [List.length_singleton, ← List.drop_drop, List.drop_left]
        rfl
      rw [hd] at h1
      have hle : b.length ≤ n := by
        rw [List.length_append, List.length_cons] at hs
        omega
      rw [h1, Nat.add_comm, Go.Lib.splitK, if_neg (by rw [hi]; simp; try omega), hi, Int.toNat_natCast, Nat.add_zero, hd, ih _ hle, split_app hno, List.take_left]
    · rw [if_neg hc] at hi
      rw [Go.Lib.count_miss hi, Go.Lib.splitK, split_no (by simpa using hc)]
theorem suffix_ten (s : List UInt8) : Go.Lib.hasSuffix s [10] = decide (s.getLast? = some 10) := by
  unfold Go.Lib.hasSuffix
  by_cases h : s.getLast? = some 10
  · rw [decide_eq_true h, List.isSuffixOf_iff_suffix]
    have hne : s ≠ [] := by intro e; rw [e] at h; cases h
    refine ⟨s.dropLast, ?_⟩
    have h1 := List.dropLast_concat_getLast hne
    have h2 : s.getLast hne = 10 := by
      rw [List.getLast?_eq_some_getLast hne] at h
      exact Option.some.inj h
    rw [h2] at h1
    exact h1
  · rw [decide_eq_false h]
    cases hs : List.isSuffixOf [10] s with
    | false => rfl
    | true =>
      obtain ⟨t, ht⟩ := List.isSuffixOf_iff_suffix.1 hs
      rw [← ht] at h
      simp at h
theorem trim_ten (s : List UInt8) : Go.Lib.trimSuffix s [10] = trimA s := by
  unfold Go.Lib.trimSuffix trimA
  rw [suffix_ten]
  by_cases h : s.getLast? = some 10
  · rw [if_pos (by simpa using h), if_pos h, List.dropLast_eq_take]
    rfl
  · rw [if_neg (by simpa using h), if_neg h]
/-! Where the last line begins. -/
theorem last_else (p : ProgP) : Go.Lib.lastIndex (progT p) elseW = (rulesT p).length := by
  rw [progT_eq]
  have hw : (elseW ++ wordT p.els ++ [10]).length = 10 + (if p.els then 1 else 0) := by cases p.els <;> rfl
  have hlen : (rulesT p ++ (elseW ++ wordT p.els ++ [10])).length = (rulesT p).length + (10 + (if p.els then 1 else 0)) := by rw [List.length_append, hw]
  have occ : ∀ k, Go.Lib.occAt (rulesT p ++ (elseW ++ wordT p.els ++ [10])) elseW ((rulesT p).length + k) = Go.Lib.occAt (elseW ++ wordT p.els ++ [10]) elseW k := by
    intro k
    unfold Go.Lib.occAt
    rw [← List.drop_drop, List.drop_left]
  unfold Go.Lib.lastIndex
  rw [if_pos (by rw [hlen]; show 5 ≤ _; omega), hlen]
  cases hb : p.els with
  | true =>
    rw [hb] at occ
    show Go.Lib.lastOcc _ _ ((rulesT p).length + 11 - 5 + 1) = _
    rw [show (rulesT p).length + 11 - 5 + 1 = ((rulesT p).length + 6) + 1 by omega, Go.Lib.lastOcc_miss _ _ _ (by rw [occ]; decide)]
    rw [show (rulesT p).length + 6 = ((rulesT p).length + 5) + 1 by omega, Go.Lib.lastOcc_miss _ _ _ (by rw [occ]; decide)]
    rw [show (rulesT p).length + 5 = ((rulesT p).length + 4) + 1 by omega, Go.Lib.lastOcc_miss _ _ _ (by rw [occ]; decide)]
    rw [show (rulesT p).length + 4 = ((rulesT p).length + 3) + 1 by omega, Go.Lib.lastOcc_miss _ _ _ (by rw [occ]; decide)]
    rw [show (rulesT p).length + 3 = ((rulesT p).length + 2) + 1 by omega, Go.Lib.lastOcc_miss _ _ _ (by rw [occ]; decide)]
    rw [show (rulesT p).length + 2 = ((rulesT p).length + 1) + 1 by omega, Go.Lib.lastOcc_miss _ _ _ (by rw [occ]; decide)]
    rw [Go.Lib.lastOcc_hit _ _ _ (by have := occ 0; rw [Nat.add_zero] at this; rw [this]; decide)]
  | false =>
    rw [hb] at occ
    show Go.Lib.lastOcc _ _ ((rulesT p).length + 10 - 5 + 1) = _
    rw [show (rulesT p).length + 10 - 5 + 1 = ((rulesT p).length + 5) + 1 by omega, Go.Lib.lastOcc_miss _ _ _ (by rw [occ]; decide)]
    rw [show (rulesT p).length + 5 = ((rulesT p).length + 4) + 1 by omega, Go.Lib.lastOcc_miss _ _ _ (by rw [occ]; decide)]
    rw [show (rulesT p).length + 4 = ((rulesT p).length + 3) + 1 by omega, Go.Lib.lastOcc_miss _ _ _ (by rw [occ]; decide)]
    rw [show (rulesT p).length + 3 = ((rulesT p).length + 2) + 1 by omega, Go.Lib.lastOcc_miss _ _ _ (by rw [occ]; decide)]
    rw [show (rulesT p).length + 2 = ((rulesT p).length + 1) + 1 by omega, Go.Lib.lastOcc_miss _ _ _ (by rw [occ]; decide)]
    rw [Go.Lib.lastOcc_hit _ _ _ (by have := occ 0; rw [Nat.add_zero] at this; rw [this]; decide)]
end Cae
end
section
set_option linter.unusedSimpArgs false
set_option linter.unusedVariables false
namespace Cae
/-- A fact: a program as text. -/
def factA : List UInt8 := [114, 117, 108, 101, 32, 107, 101, 101, 112, 10, 116, 97, 107, 101, 32, 91, 54, 49, 93, 10, 121, 101, 115, 10, 97, 102, 116, 101, 114, 10, 115, 112, 108, 105, 116, 32, 49, 32, 49, 10, 121, 101, 115, 10, 101, 108, 115, 101, 32, 98, 114, 101, 97, 107, 10]
def factOk : Bool := match parseA factA with
  | .ok p => decide (p.rules.length = 1) && p.els
  | _ => false
theorem fact_asm : factOk = true := by decide +kernel
theorem fact_read : ∃ p, parseA factA = .ok p ∧ p.rules.length = 1 ∧ p.els = true ∧ progT p = factA ∧ progRight p = true := by
  have h := fact_asm
  unfold factOk at h
  split at h
  · rename_i p hp
    simp only [Bool.and_eq_true, decide_eq_true_eq] at h
    exact ⟨p, hp, h.1, h.2, asm_read hp⟩
  · cases h
def atoiV (l : List UInt8) : Int := match Go.Lib.atoiAll l with
  | .ok v => v
  | .range => Go.Lib.atoiSat l
  | _ => 0
end Cae
end
section
namespace Go.Proofs.YtiofleijieepgaaGreatDoor
open Go.Vc Go.Proofs Go.RowKit Cae
set_option maxRecDepth 100000
set_option linter.unusedSimpArgs false
set_option linter.unusedVariables false
attribute [local irreducible] wpL callK valK unitK runK Fun Sl Vc.Own vc vcOps opK pureK
set_option maxHeartbeats 4000000
def hpR_ren : Go.Shelf.Ren := ⟨fun | 99 => 27 | 206 => 59 | n => n, fun | 9 => 9 | 4 => 4 | 3 => 3 | n => n, fun | n => n⟩
theorem hpR : Go.Proofs.Lays.n99 Tryz.prog hpR_ren := {
  mixed := by kernel_rfl
  f99 := Tryz.func27.trans (congrArg some (by kernel_rfl))
  f206 := Tryz.func59.trans (congrArg some (by kernel_rfl))
  t3 := Tryz.underlying3
  a3 := Tryz.isAgg3
  z3 := Tryz.sizeOf3
  v3 := Tryz.zeroValue3
  t4 := Tryz.underlying4
  a4 := Tryz.isAgg4
  z4 := Tryz.sizeOf4
  v4 := Tryz.zeroValue4
  t9 := Tryz.underlying9
  a9 := Tryz.isAgg9
  z9 := Tryz.sizeOf9
  v9 := Tryz.zeroValue9 }

def hsR_ren : Go.Shelf.Ren := ⟨fun | 100 => 30 | 207 => 61 | n => n, fun | 9 => 9 | 4 => 4 | 3 => 3 | n => n, fun | n => n⟩
theorem hsR : Go.Proofs.Lays.n100 Tryz.prog hsR_ren := {
  mixed := by kernel_rfl
  f100 := Tryz.func30.trans (congrArg some (by kernel_rfl))
  f207 := Tryz.func61.trans (congrArg some (by kernel_rfl))
  t3 := Tryz.underlying3
  a3 := Tryz.isAgg3
  z3 := Tryz.sizeOf3
  v3 := Tryz.zeroValue3
  t4 := Tryz.underlying4
  a4 := Tryz.isAgg4
  z4 := Tryz.sizeOf4
  v4 := Tryz.zeroValue4
  t9 := Tryz.underlying9
  a9 := Tryz.isAgg9
  z9 := Tryz.sizeOf9
  v9 := Tryz.zeroValue9 }

def tsR_ren : Go.Shelf.Ren := ⟨fun | 102 => 25 | 209 => 58 | 207 => 61 | n => n, fun | 9 => 9 | 4 => 4 | 3 => 3 | n => n, fun | n => n⟩
theorem tsR : Go.Proofs.Lays.n102 Tryz.prog tsR_ren := {
  mixed := by kernel_rfl
  f102 := Tryz.func25.trans (congrArg some (by kernel_rfl))
  f207 := Tryz.func61.trans (congrArg some (by kernel_rfl))
  f209 := Tryz.func58.trans (congrArg some (by kernel_rfl))
  t3 := Tryz.underlying3
  a3 := Tryz.isAgg3
  z3 := Tryz.sizeOf3
  v3 := Tryz.zeroValue3
  t4 := Tryz.underlying4
  a4 := Tryz.isAgg4
  z4 := Tryz.sizeOf4
  v4 := Tryz.zeroValue4
  t9 := Tryz.underlying9
  a9 := Tryz.isAgg9
  z9 := Tryz.sizeOf9
  v9 := Tryz.zeroValue9 }

def splitR_ren : Go.Shelf.Ren := ⟨fun | 146 => 24 | 221 => 57 | 268 => 86 | 138 => 87 | 143 => 88 | 195 => 113 | 197 => 114 | 218 => 115 | 219 => 116 | 260 => 141 | 217 => 142 | 225 => 143 | 224 => 144 | 267 => 145 | 266 => 164 | 314 => 165 | n => n, fun | 9 => 9 | 31 => 61 | 3 => 3 | 4 => 4 | 0 => 0 | 105 => 159 | 21 => 21 | 5 => 5 | 46 => 148 | 119 => 166 | 139 => 226 | 138 => 225 | 146 => 119 | 51 => 118 | n => n, fun | 1 => 2 | 3 => 8 | 4 => 9 | n => n⟩
theorem splitR : Go.Proofs.Lays.n146 Tryz.prog splitR_ren := {
  mixed := by kernel_rfl
  f138 := Tryz.func87.trans (congrArg some (by kernel_rfl))
  f143 := Tryz.func88.trans (congrArg some (by kernel_rfl))
  f146 := Tryz.func24.trans (congrArg some (by kernel_rfl))
  f195 := Tryz.func113.trans (congrArg some (by kernel_rfl))
  f197 := Tryz.func114.trans (congrArg some (by kernel_rfl))
  f217 := Tryz.func142.trans (congrArg some (by kernel_rfl))
  f218 := Tryz.func115.trans (congrArg some (by kernel_rfl))
  f219 := Tryz.func116.trans (congrArg some (by kernel_rfl))
  f221 := Tryz.func57.trans (congrArg some (by kernel_rfl))
  f224 := Tryz.func144.trans (congrArg some (by kernel_rfl))
  f225 := Tryz.func143.trans (congrArg some (by kernel_rfl))
  f260 := Tryz.func141.trans (congrArg some (by kernel_rfl))
  f266 := Tryz.func164.trans (congrArg some (by kernel_rfl))
  f267 := Tryz.func145.trans (congrArg some (by kernel_rfl))
  f268 := Tryz.func86.trans (congrArg some (by kernel_rfl))
  f314 := Tryz.func165.trans (congrArg some (by kernel_rfl))
  t0 := Tryz.underlying0
  a0 := Tryz.isAgg0
  z0 := Tryz.sizeOf0
  v0 := Tryz.zeroValue0
  t3 := Tryz.underlying3
  a3 := Tryz.isAgg3
  z3 := Tryz.sizeOf3
  v3 := Tryz.zeroValue3
  t4 := Tryz.underlying4
  a4 := Tryz.isAgg4
  z4 := Tryz.sizeOf4
  v4 := Tryz.zeroValue4
  t5 := Tryz.underlying5
  a5 := Tryz.isAgg5
  z5 := Tryz.sizeOf5
  v5 := Tryz.zeroValue5
  t9 := Tryz.underlying9
  a9 := Tryz.isAgg9
  z9 := Tryz.sizeOf9
  v9 := Tryz.zeroValue9
  t21 := Tryz.underlying21
  a21 := Tryz.isAgg21
  z21 := Tryz.sizeOf21
  v21 := Tryz.zeroValue21
  t31 := Tryz.underlying61
  a31 := Tryz.isAgg61
  z31 := Tryz.sizeOf61
  v31 := Tryz.zeroValue61
  t46 := Tryz.underlying148
  a46 := Tryz.isAgg148
  z46 := Tryz.sizeOf148
  v46 := Tryz.zeroValue148
  t51 := Tryz.underlying118
  a51 := Tryz.isAgg118
  z51 := Tryz.sizeOf118
  v51 := Tryz.zeroValue118
  t105 := Tryz.underlying159
  a105 := Tryz.isAgg159
  z105 := Tryz.sizeOf159
  v105 := Tryz.zeroValue159
  t119 := Tryz.underlying166
  a119 := Tryz.isAgg166
  z119 := Tryz.sizeOf166
  t138 := Tryz.underlying225
  a138 := Tryz.isAgg225
  z138 := Tryz.sizeOf225
  v138 := Tryz.zeroValue225
  t139 := Tryz.underlying226
  a139 := Tryz.isAgg226
  z139 := Tryz.sizeOf226
  v139 := Tryz.zeroValue226
  t146 := Tryz.underlying119
  a146 := Tryz.isAgg119
  z146 := Tryz.sizeOf119
  v146 := Tryz.zeroValue119
  g1 := by kernel_rfl
  g3 := by kernel_rfl
  g4 := by kernel_rfl }

def itoaMR_ren : Go.Shelf.Ren := ⟨fun | 171 => 64 | 243 => 98 | 246 => 122 | 283 => 150 | 284 => 151 | 285 => 152 | 286 => 153 | 129 => 169 | 317 => 168 | 318 => 170 | 319 => 171 | 320 => 172 | 337 => 179 | 338 => 180 | n => n, fun | 3 => 3 | 9 => 9 | 2 => 2 | 4 => 4 | 171 => 193 | 0 => 0 | 53 => 194 | 37 => 75 | 5 => 5 | 173 => 197 | 212 => 229 | 51 => 118 | 20 => 20 | 213 => 230 | 46 => 148 | 232 => 251 | 233 => 252 | n => n, fun | 17 => 10 | 18 => 11 | 19 => 12 | n => n⟩
theorem itoaMR : Go.Proofs.LaysM.n171 Tryz.prog itoaMR_ren := {
  mixed := by kernel_rfl
  f129 := Tryz.func169.trans (congrArg some (by kernel_rfl))
  f171 := Tryz.func64.trans (congrArg some (by kernel_rfl))
  f243 := Tryz.func98.trans (congrArg some (by kernel_rfl))
  f246 := Tryz.func122.trans (congrArg some (by kernel_rfl))
  f283 := Tryz.func150.trans (congrArg some (by kernel_rfl))
  f284 := Tryz.func151.trans (congrArg some (by kernel_rfl))
  f285 := Tryz.func152.trans (congrArg some (by kernel_rfl))
  f286 := Tryz.func153.trans (congrArg some (by kernel_rfl))
  f317 := Tryz.func168.trans (congrArg some (by kernel_rfl))
  f318 := Tryz.func170.trans (congrArg some (by kernel_rfl))
  f319 := Tryz.func171.trans (congrArg some (by kernel_rfl))
  f320 := Tryz.func172.trans (congrArg some (by kernel_rfl))
  f337 := Tryz.func179.trans (congrArg some (by kernel_rfl))
  f338 := Tryz.func180.trans (congrArg some (by kernel_rfl))
  t0 := Tryz.underlying0
  a0 := Tryz.isAgg0
  z0 := Tryz.sizeOf0
  v0 := Tryz.zeroValue0
  t2 := Tryz.underlying2
  a2 := Tryz.isAgg2
  z2 := Tryz.sizeOf2
  v2 := Tryz.zeroValue2
  t3 := Tryz.underlying3
  a3 := Tryz.isAgg3
  z3 := Tryz.sizeOf3
  v3 := Tryz.zeroValue3
  t4 := Tryz.underlying4
  a4 := Tryz.isAgg4
  z4 := Tryz.sizeOf4
  v4 := Tryz.zeroValue4
  t5 := Tryz.underlying5
  a5 := Tryz.isAgg5
  z5 := Tryz.sizeOf5
  v5 := Tryz.zeroValue5
  t9 := Tryz.underlying9
  a9 := Tryz.isAgg9
  z9 := Tryz.sizeOf9
  v9 := Tryz.zeroValue9
  t20 := Tryz.underlying20
  a20 := Tryz.isAgg20
  z20 := Tryz.sizeOf20
  v20 := Tryz.zeroValue20
  t37 := Tryz.underlying75
  a37 := Tryz.isAgg75
  z37 := Tryz.sizeOf75
  v37 := Tryz.zeroValue75
  t46 := Tryz.underlying148
  a46 := Tryz.isAgg148
  z46 := Tryz.sizeOf148
  v46 := Tryz.zeroValue148
  t51 := Tryz.underlying118
  a51 := Tryz.isAgg118
  z51 := Tryz.sizeOf118
  v51 := Tryz.zeroValue118
  t53 := Tryz.underlying194
  a53 := Tryz.isAgg194
  z53 := Tryz.sizeOf194
  v53 := Tryz.zeroValue194
  t171 := Tryz.underlying193
  a171 := Tryz.isAgg193
  z171 := Tryz.sizeOf193
  v171 := Tryz.zeroValue193
  t173 := Tryz.underlying197
  a173 := Tryz.isAgg197
  z173 := Tryz.sizeOf197
  v173 := Tryz.zeroValue197
  t212 := Tryz.underlying229
  a212 := Tryz.isAgg229
  z212 := Tryz.sizeOf229
  v212 := Tryz.zeroValue229
  t213 := Tryz.underlying230
  a213 := Tryz.isAgg230
  z213 := Tryz.sizeOf230
  t232 := Tryz.underlying251
  a232 := Tryz.isAgg251
  z232 := Tryz.sizeOf251
  v232 := Tryz.zeroValue251
  t233 := Tryz.underlying252
  a233 := Tryz.isAgg252
  z233 := Tryz.sizeOf252
  v233 := Tryz.zeroValue252
  g17 := by kernel_rfl
  g18 := by kernel_rfl
  g19 := by kernel_rfl
  i0 := by kernel_rfl
  i2 := by kernel_rfl
  i3 := by kernel_rfl
  i4 := by kernel_rfl
  i5 := by kernel_rfl
  i9 := by kernel_rfl
  i20 := by kernel_rfl
  i37 := by kernel_rfl
  i46 := by kernel_rfl
  i51 := by kernel_rfl
  i53 := by kernel_rfl
  i171 := by kernel_rfl
  i173 := by kernel_rfl
  i212 := by kernel_rfl
  i232 := by kernel_rfl
  i233 := by kernel_rfl
  m17 := by kernel_rfl
  m18 := by kernel_rfl
  m19 := by kernel_rfl }

def atoiR_ren : Go.Shelf.Ren := ⟨fun | 172 => 82 | 244 => 110 | 245 => 111 | 247 => 132 | 279 => 133 | 280 => 134 | 281 => 135 | 282 => 136 | 287 => 158 | 316 => 159 | 171 => 64 | 205 => 160 | 321 => 177 | 322 => 178 | 243 => 98 | 246 => 122 | 283 => 150 | 284 => 151 | 285 => 152 | 286 => 153 | 129 => 169 | 317 => 168 | 318 => 170 | 319 => 171 | 320 => 172 | 337 => 179 | 338 => 180 | n => n, fun | 9 => 9 | 3 => 3 | 75 => 29 | 76 => 78 | 4 => 4 | 5 => 5 | 167 => 176 | 37 => 75 | 0 => 0 | 85 => 153 | 2 => 2 | 168 => 177 | 53 => 194 | 175 => 206 | 46 => 148 | 210 => 210 | 127 => 108 | 145 => 247 | 143 => 245 | 21 => 21 | 171 => 193 | 173 => 197 | 212 => 229 | 51 => 118 | 20 => 20 | 213 => 230 | 232 => 251 | 233 => 252 | 80 => 82 | n => n, fun | 15 => 6 | 16 => 7 | 17 => 10 | 18 => 11 | 19 => 12 | n => n⟩
theorem atoiR : Go.Proofs.LaysC.n172 Tryz.prog atoiR_ren := {
  mixed := by kernel_rfl
  f129 := Tryz.func169.trans (congrArg some (by kernel_rfl))
  f171 := Tryz.func64.trans (congrArg some (by kernel_rfl))
  f172 := Tryz.func82.trans (congrArg some (by kernel_rfl))
  f205 := Tryz.func160.trans (congrArg some (by kernel_rfl))
  f243 := Tryz.func98.trans (congrArg some (by kernel_rfl))
  f244 := Tryz.func110.trans (congrArg some (by kernel_rfl))
  f245 := Tryz.func111.trans (congrArg some (by kernel_rfl))
  f246 := Tryz.func122.trans (congrArg some (by kernel_rfl))
  f247 := Tryz.func132.trans (congrArg some (by kernel_rfl))
  f279 := Tryz.func133.trans (congrArg some (by kernel_rfl))
  f280 := Tryz.func134.trans (congrArg some (by kernel_rfl))
  f281 := Tryz.func135.trans (congrArg some (by kernel_rfl))
  f282 := Tryz.func136.trans (congrArg some (by kernel_rfl))
  f283 := Tryz.func150.trans (congrArg some (by kernel_rfl))
  f284 := Tryz.func151.trans (congrArg some (by kernel_rfl))
  f285 := Tryz.func152.trans (congrArg some (by kernel_rfl))
  f286 := Tryz.func153.trans (congrArg some (by kernel_rfl))
  f287 := Tryz.func158.trans (congrArg some (by kernel_rfl))
  f316 := Tryz.func159.trans (congrArg some (by kernel_rfl))
  f317 := Tryz.func168.trans (congrArg some (by kernel_rfl))
  f318 := Tryz.func170.trans (congrArg some (by kernel_rfl))
  f319 := Tryz.func171.trans (congrArg some (by kernel_rfl))
  f320 := Tryz.func172.trans (congrArg some (by kernel_rfl))
  f321 := Tryz.func177.trans (congrArg some (by kernel_rfl))
  f322 := Tryz.func178.trans (congrArg some (by kernel_rfl))
  f337 := Tryz.func179.trans (congrArg some (by kernel_rfl))
  f338 := Tryz.func180.trans (congrArg some (by kernel_rfl))
  t0 := Tryz.underlying0
  a0 := Tryz.isAgg0
  z0 := Tryz.sizeOf0
  v0 := Tryz.zeroValue0
  t2 := Tryz.underlying2
  a2 := Tryz.isAgg2
  z2 := Tryz.sizeOf2
  v2 := Tryz.zeroValue2
  t3 := Tryz.underlying3
  a3 := Tryz.isAgg3
  z3 := Tryz.sizeOf3
  v3 := Tryz.zeroValue3
  t4 := Tryz.underlying4
  a4 := Tryz.isAgg4
  z4 := Tryz.sizeOf4
  v4 := Tryz.zeroValue4
  t5 := Tryz.underlying5
  a5 := Tryz.isAgg5
  z5 := Tryz.sizeOf5
  v5 := Tryz.zeroValue5
  t9 := Tryz.underlying9
  a9 := Tryz.isAgg9
  z9 := Tryz.sizeOf9
  v9 := Tryz.zeroValue9
  t20 := Tryz.underlying20
  a20 := Tryz.isAgg20
  z20 := Tryz.sizeOf20
  v20 := Tryz.zeroValue20
  t21 := Tryz.underlying21
  a21 := Tryz.isAgg21
  z21 := Tryz.sizeOf21
  v21 := Tryz.zeroValue21
  t37 := Tryz.underlying75
  a37 := Tryz.isAgg75
  z37 := Tryz.sizeOf75
  v37 := Tryz.zeroValue75
  t46 := Tryz.underlying148
  a46 := Tryz.isAgg148
  z46 := Tryz.sizeOf148
  v46 := Tryz.zeroValue148
  t51 := Tryz.underlying118
  a51 := Tryz.isAgg118
  z51 := Tryz.sizeOf118
  v51 := Tryz.zeroValue118
  t53 := Tryz.underlying194
  a53 := Tryz.isAgg194
  z53 := Tryz.sizeOf194
  v53 := Tryz.zeroValue194
  t75 := Tryz.underlying29
  a75 := Tryz.isAgg29
  z75 := Tryz.sizeOf29
  v75 := Tryz.zeroValue29
  t76 := Tryz.underlying78
  a76 := Tryz.isAgg78
  z76 := Tryz.sizeOf78
  v76 := Tryz.zeroValue78
  t85 := Tryz.underlying153
  a85 := Tryz.isAgg153
  z85 := Tryz.sizeOf153
  v85 := Tryz.zeroValue153
  t127 := Tryz.underlying108
  a127 := Tryz.isAgg108
  z127 := Tryz.sizeOf108
  v127 := Tryz.zeroValue108
  t143 := Tryz.underlying245
  a143 := Tryz.isAgg245
  z143 := Tryz.sizeOf245
  v143 := Tryz.zeroValue245
  t145 := Tryz.underlying247
  a145 := Tryz.isAgg247
  z145 := Tryz.sizeOf247
  v145 := Tryz.zeroValue247
  t167 := Tryz.underlying176
  a167 := Tryz.isAgg176
  z167 := Tryz.sizeOf176
  v167 := Tryz.zeroValue176
  t168 := Tryz.underlying177
  a168 := Tryz.isAgg177
  z168 := Tryz.sizeOf177
  v168 := Tryz.zeroValue177
  t171 := Tryz.underlying193
  a171 := Tryz.isAgg193
  z171 := Tryz.sizeOf193
  v171 := Tryz.zeroValue193
  t173 := Tryz.underlying197
  a173 := Tryz.isAgg197
  z173 := Tryz.sizeOf197
  v173 := Tryz.zeroValue197
  t175 := Tryz.underlying206
  a175 := Tryz.isAgg206
  z175 := Tryz.sizeOf206
  v175 := Tryz.zeroValue206
  t210 := Tryz.underlying210
  a210 := Tryz.isAgg210
  z210 := Tryz.sizeOf210
  v210 := Tryz.zeroValue210
  t212 := Tryz.underlying229
  a212 := Tryz.isAgg229
  z212 := Tryz.sizeOf229
  v212 := Tryz.zeroValue229
  t213 := Tryz.underlying230
  a213 := Tryz.isAgg230
  z213 := Tryz.sizeOf230
  t232 := Tryz.underlying251
  a232 := Tryz.isAgg251
  z232 := Tryz.sizeOf251
  v232 := Tryz.zeroValue251
  t233 := Tryz.underlying252
  a233 := Tryz.isAgg252
  z233 := Tryz.sizeOf252
  v233 := Tryz.zeroValue252
  g15 := by kernel_rfl
  g16 := by kernel_rfl
  g17 := by kernel_rfl
  g18 := by kernel_rfl
  g19 := by kernel_rfl
  t80 := Tryz.underlying82
  a80 := Tryz.isAgg82
  z80 := Tryz.sizeOf82
  v80 := Tryz.zeroValue82
  i0 := by kernel_rfl
  i2 := by kernel_rfl
  i3 := by kernel_rfl
  i4 := by kernel_rfl
  i5 := by kernel_rfl
  i9 := by kernel_rfl
  i20 := by kernel_rfl
  i21 := by kernel_rfl
  i37 := by kernel_rfl
  i46 := by kernel_rfl
  i51 := by kernel_rfl
  i53 := by kernel_rfl
  i75 := by kernel_rfl
  i76 := by kernel_rfl
  i80 := by kernel_rfl
  i85 := by kernel_rfl
  i127 := by kernel_rfl
  i143 := by kernel_rfl
  i145 := by kernel_rfl
  i167 := by kernel_rfl
  i168 := by kernel_rfl
  i171 := by kernel_rfl
  i173 := by kernel_rfl
  i175 := by kernel_rfl
  i210 := by kernel_rfl
  i212 := by kernel_rfl
  i232 := by kernel_rfl
  i233 := by kernel_rfl
  m15 := by kernel_rfl
  m16 := by kernel_rfl
  m17 := by kernel_rfl
  m18 := by kernel_rfl
  m19 := by kernel_rfl
  c0 := by kernel_rfl
  c2 := by kernel_rfl
  c3 := by kernel_rfl
  c4 := by kernel_rfl
  c5 := by kernel_rfl
  c9 := by kernel_rfl
  c20 := by kernel_rfl
  c21 := by kernel_rfl
  c37 := by kernel_rfl
  c46 := by kernel_rfl
  c51 := by kernel_rfl
  c53 := by kernel_rfl
  c75 := by kernel_rfl
  c76 := by kernel_rfl
  c80 := by kernel_rfl
  c85 := by kernel_rfl
  c127 := by kernel_rfl
  c143 := by kernel_rfl
  c145 := by kernel_rfl
  c167 := by kernel_rfl
  c168 := by kernel_rfl
  c171 := by kernel_rfl
  c173 := by kernel_rfl
  c175 := by kernel_rfl
  c210 := by kernel_rfl
  c212 := by kernel_rfl
  c213 := by kernel_rfl
  c232 := by kernel_rfl
  c233 := by kernel_rfl }

/-- The library's bound, whatever it is. -/
def Mx (w : World) : Prop := ∃ m, w.cell? ⟨2, 0, none⟩ = some (.int .i64 m)
theorem Mx.below {w w' : World} (h : Mx w) (hb : Below w.heap.size w w') : Mx w' := by
  obtain ⟨m, hm⟩ := h
  exact ⟨m, (hb.cell (World.block_lt_of_cell? w _ hm)).trans hm⟩
/-- The table of powers of ten. -/
def Pw (w : World) : Prop := Lib.TabIs Tryz.prog w "internal/strconv.uint64pow10" .u64 Lib.pow10Tab
theorem hasPre_c (s p : List UInt8) (w : World) : Fun Tryz.prog 27 [str s, str p] w fun r w' => r = .bool (p.isPrefixOf s) ∧ w' = w := by
  refine fun_of_calls Tryz.func27 (by kernel_rfl) (by kernel_rfl) ?_
  refine Calls.mono (Any.strings_HasPrefix hpR ⟨s.toArray⟩ ⟨p.toArray⟩ w) ?_
  rintro e w' ⟨rfl, rfl⟩
  exact ⟨_, rfl, rfl, rfl⟩
theorem hasSufTen_c (s : List UInt8) (hs : s.length ≤ 1000000000) (w : World) : Fun Tryz.prog 30 [str s, str [10]] w fun r w' => r = .bool (decide (s.getLast? = some 10)) ∧ w' = w := by
  refine fun_of_calls Tryz.func30 (by kernel_rfl) (by kernel_rfl) ?_
  refine Calls.mono (Any.strings_HasSuffix hsR ⟨s.toArray⟩ ⟨[(10 : UInt8)].toArray⟩ w (by show s.length ≤ _; omega)) ?_
  rintro e w' ⟨rfl, rfl⟩
  exact ⟨_, rfl, congrArg Value.bool (suffix_ten s), rfl⟩
theorem trimTen_c (s : List UInt8) (hs : s.length ≤ 1000000000) (w : World) : Fun Tryz.prog 25 [str s, str [10]] w fun r w' => r = str (trimA s) ∧ w' = w := by
  refine fun_of_calls Tryz.func25 (by kernel_rfl) (by kernel_rfl) ?_
  refine Calls.mono (Any.strings_TrimSuffix tsR ⟨s.toArray⟩ ⟨[(10 : UInt8)].toArray⟩ w (by show s.length ≤ _; omega)) ?_
  rintro e w' ⟨rfl, rfl⟩
  exact ⟨_, rfl, congrArg str (trim_ten s), rfl⟩
theorem itoaN_c (n : Int) (h0 : -9223372036854775808 ≤ n) (h1 : n ≤ 9223372036854775807) (w : World) (hp : Pw w) : Fun Tryz.prog 64 [.int .i64 n] w fun r w' => r = str (itoaT n) ∧ Below w.heap.size w w' := by
  refine fun_of_calls Tryz.func64 (by kernel_rfl) (by kernel_rfl) ?_
  refine Calls.mono (Any.strconv_Itoa itoaMR n h0 h1 w hp) ?_
  rintro e w' ⟨rfl, k, os, rfl⟩
  exact ⟨_, rfl, rfl, Lib.below_grow _ w (Nat.le_refl _) k os⟩
/-- What Atoi answers: a number, or an error and a number. -/
def AtoiR (s : List UInt8) (r : Value) : Prop := (∃ v, Lib.atoiAll s = .ok v ∧ r = .tuple #[.int .i64 v, .nilIface]) ∨ ((∀ v, Lib.atoiAll s ≠ .ok v) ∧ ∃ t p, r = .tuple #[.int .i64 (atoiV s), .iface t p])
theorem atoiN_c (s : List UInt8) (hs : s.length ≤ 1000000) (w : World) (h : SErrs w) : Fun Tryz.prog 82 [str s] w fun r w' => AtoiR s r ∧ Below w.heap.size w w' := by
  obtain ⟨⟨t1, p1, h1⟩, ⟨t2, p2, h2⟩⟩ := h
  refine fun_of_calls Tryz.func82 (by kernel_rfl) (by kernel_rfl) ?_
  cases ha : Lib.atoiAll s with
  | ok v =>
    refine Calls.mono (Any.strconv_Atoi_ok atoiR ⟨s.toArray⟩ (by show s.length ≤ _; omega) _ ha w) ?_
    rintro e w' ⟨rfl, hw⟩
    refine ⟨_, rfl, .inl ⟨v, ha, rfl⟩, ?_⟩
    rcases hw with rfl | ⟨t, rfl⟩
    · exact Below.refl _ _
    · exact Lib.bytesWorld_below _ _ _
  | range =>
    refine Calls.mono (Any.strconv_Atoi_range atoiR ⟨s.toArray⟩ (by show s.length ≤ _; omega) ha _ w h2 (.inr ⟨_, _, rfl⟩)) ?_
    rintro e w' ⟨N, rfl, _, _, hw⟩
    exact ⟨_, rfl, .inr ⟨fun v hv => (by rw [ha] at hv; cases hv), _, _, by unfold atoiV; rw [ha]⟩, hw⟩
  | _ =>
    refine Calls.mono (Any.strconv_Atoi_syntax atoiR ⟨s.toArray⟩ (by show s.length ≤ _; omega) ha _ w h1 (.inr ⟨_, _, rfl⟩)) ?_
    rintro e w' ⟨N, rfl, _, _, hw⟩
    exact ⟨_, rfl, .inr ⟨fun v hv => (by rw [ha] at hv; cases hv), _, _, by unfold atoiV; rw [ha]⟩, hw⟩
theorem split10_c (s : List UInt8) (hs : s.length ≤ 1000000) (w : World) (hm : Mx w) : Fun Tryz.prog 24 [str s, str [10]] w fun r w' => Sl (fun b => b < w.heap.size) 1 (En encS) w' r (splitB 10 s) ∧ Below w.heap.size w w' := by
  obtain ⟨m, hm⟩ := hm
  refine fun_of_calls Tryz.func24 (by kernel_rfl) (by kernel_rfl) ?_
  refine Calls.mono (Any.strings_Split splitR (by kernel_rfl) ⟨s.toArray⟩ ⟨[(10 : UInt8)].toArray⟩ m w (by show s.length < _; omega) hm (by decide)) ?_
  rintro e w' ⟨rfl, rfl⟩
  have hk : Lib.splitK [10] 0 (Lib.count s [10]) s = splitB 10 s := splitK_one 10 _ s (Nat.le_refl _)
  have hl : (Lib.splitB ⟨[(10 : UInt8)].toArray⟩ 0 (Lib.countB ⟨s.toArray⟩ ⟨[(10 : UInt8)].toArray⟩) ⟨s.toArray⟩).map (·.data.toList) = splitB 10 s := by
    rw [Lib.splitB_data]
    exact hk
  have hlen := Lib.splitB_all ⟨[(10 : UInt8)].toArray⟩ (by decide) 0 _ ⟨s.toArray⟩ rfl
  generalize Lib.splitB ⟨[(10 : UInt8)].toArray⟩ 0 (Lib.countB ⟨s.toArray⟩ ⟨[(10 : UInt8)].toArray⟩) ⟨s.toArray⟩ = L at hl hlen
  generalize Lib.countB ⟨s.toArray⟩ ⟨[(10 : UInt8)].toArray⟩ + 1 = n at hlen
  have hnew : New w (w.alloc (.cells (L.map Value.string).toArray 9)) 9 (L.map Value.string) := ⟨rfl⟩
  refine ⟨_, rfl, ?_, hnew.below⟩
  unfold Sl
  refine ⟨some ⟨w.heap.size, 0, none⟩, n, ?_, by rw [← hl, List.length_map, hlen]; exact Nat.le_refl _, ?_⟩
  · rw [← hl, List.length_map, hlen]
  · intro i x hx
    refine ⟨_, _, [str x], rfl, by omega, rfl, ?_, rfl⟩
    intro j u hu
    rw [← hl, List.getElem?_map] at hx
    cases hL : L[i]? with
    | none => rw [hL] at hx; cases hx
    | some y =>
      rw [hL] at hx
      cases hx
      have hj : j = 0 := by cases j with
        | zero => rfl
        | succ j => simp at hu
      subst hj
      cases hu
      have := hnew.cell (j := 0 + i * 1 + 0) (u := Value.string y) (by rw [List.getElem?_map, show 0 + i * 1 + 0 = i by omega, hL]; rfl)
      exact this
end Go.Proofs.YtiofleijieepgaaGreatDoor
end
section
namespace Go.Proofs.YtiofleijieepgaaGreatDoor
open Go.Vc Go.Proofs Go.RowKit Cae
set_option maxRecDepth 100000
set_option linter.unusedSimpArgs false
set_option linter.unusedVariables false
attribute [local irreducible] wpL callK valK unitK runK Fun Sl Vc.Own vc vcOps opK pureK
set_option maxHeartbeats 4000000
/-- A builder of the call's own, that holds l. -/
def Bu (B b : Nat) (l : List UInt8) (w : World) : Prop := Lib.IsBuilderF 77 5 B b (Lib.byteCells l) w
theorem Bu.below {B b : Nat} {l : List UInt8} {w w' : World} (h : Bu B b l w) (hb : Below w.heap.size w w') : Bu B b l w' := by
  have one : ∀ {p : Value}, Lib.BuilderAtF 77 5 B b p (Lib.byteCells l) w → Lib.BuilderAtF 77 5 B b p (Lib.byteCells l) w' := by
    intro p h
    have hlt := h.lt
    obtain ⟨hB, v, hv, hown, hne⟩ := h
    exact ⟨hB, v, (hb.block b hlt).trans hv, hown.kept (row := none) ⟨hb.os, hb.tape, hb.output, hb.size, fun k hk _ => hb.block k hk⟩ (Classical.em _), hne⟩
  exact h.elim (fun x => .inl (one x)) (fun x => .inr (one x))
theorem Bu.lt {B b : Nat} {l : List UInt8} {w : World} (h : Bu B b l w) : b < w.heap.size := h.elim (fun x => x.lt) (fun x => x.lt)
/-- What a write keeps: all below B, and all that is neither the builder nor a row of bytes. -/
def BuK (B b : Nat) (w w' : World) : Prop := Below B w w' ∧ Lib.OthersKept 5 (some b) w w'
theorem write_c (B b : Nat) (l s : List UInt8) (w : World) (h : Bu B b l w) (hlen : l.length + s.length ≤ 1000000000) (hB : B ≤ w.heap.size) :
    Fun Tryz.prog 31 [.pointer (some ⟨b, 0, none⟩), str s] w fun _ w' => Bu B b (l ++ s) w' ∧ BuK B b w w' := by
  refine fun_of_calls Tryz.func31 (by kernel_rfl) (by kernel_rfl) ?_
  have e : (⟨s.toArray⟩ : ByteArray).size = s.length := by simp [ByteArray.size]
  refine Calls.mono (Any.Builder_WriteString_k { joinR with } joinX B b (Lib.byteCells l) ⟨s.toArray⟩ w h (by rw [e, Lib.byteCells_length]; omega) hB) ?_
  rintro _ w' ⟨rfl, h1, h2, h3⟩
  refine ⟨_, rfl, .inr ?_, h2, h3⟩
  rw [Lib.byteCells_append]
  exact h1
theorem BuK.blk {B b k : Nat} {w w' : World} {T : TypeId} {cs : List Value} (h : BuK B b w w') (hB : Blk w k T cs) (hT : T ≠ 5) (hk : k ≠ b) : Blk w' k T cs :=
  h.2 k _ hB (fun e => hk (Option.some.inj e)) (fun c fz e => hT (by injection e))
theorem BuK.trans {B b : Nat} {w w' w'' : World} (h : BuK B b w w') (k : BuK B b w' w'') : BuK B b w w'' := ⟨h.1.trans k.1, h.2.trans k.2⟩
theorem BuK.of_below {B b : Nat} {w w' : World} (h : Below w.heap.size w w') (hB : B ≤ w.heap.size) : BuK B b w w' :=
  ⟨h.mono hB, fun k o hk _ _ => by
    have hlt : k < w.heap.size := by
      rcases Nat.lt_or_ge k w.heap.size with h' | h'
      · exact h'
      · rw [Array.getElem?_eq_none h'] at hk; cases hk
    rw [h.block k hlt]; exact hk⟩
theorem bstring_c (B b : Nat) (l : List UInt8) (w : World) (h : Bu B b l w) (hB : B ≤ w.heap.size) :
    Fun Tryz.prog 34 [.pointer (some ⟨b, 0, none⟩)] w fun r w' => r = str l ∧ Below B w w' := by
  refine fun_of_calls Tryz.func34 (by kernel_rfl) (by kernel_rfl) ?_
  refine Calls.mono (Any.Builder_String_any_k { joinR with } joinX B b l w h hB) ?_
  rintro _ w' ⟨rfl, h1, h2, _⟩
  exact ⟨_, rfl, rfl, h2⟩
theorem Bu.fresh {w w' : World} {b : Nat} (h : New w w' 77 [.pointer none, .slice none 0 0]) (hb : b = w.heap.size) (B : Nat) (hB : B ≤ b) : Bu B b [] w' := by
  subst hb
  refine .inl ⟨hB, .slice none 0 0, h.blk, ?_, by simp [Value.ownBlock]⟩
  exact ⟨by simp, .inl ⟨rfl, rfl⟩⟩
theorem Pw.below {B : Nat} {w w' : World} (h : Pw w) (hb : Below B w w') (hB : 14 ≤ B) : Pw w' := by
  have e : w'.heap[10]? = w.heap[10]? := hb.block _ (Nat.lt_of_lt_of_le (by decide) hB)
  unfold Pw Lib.TabIs World.var? at h ⊢
  rw [show Tryz.prog.globalNamed "internal/strconv.uint64pow10" = some 10 by kernel_rfl] at h ⊢
  simp only [Option.bind_some] at h ⊢
  rw [e]
  exact h
theorem word_c (b : Bool) (w : World) : Fun Tryz.prog 32 [.bool b] w fun r w' => r = str (wordT b) ∧ w' = w := by
  cases b with
  | true =>
    (refine fun_of_vc Tryz.func32 rfl (by kernel_rfl) [2] rfl ?_; simp -dsimp (maxSteps := 4000000) only [push_cast, fr0, Tryz.ntmps32, List.length_cons, List.length_nil, Nat.reduceAdd, Nat.reduceSub, Nat.reduceBEq, List.replicate_succ, List.replicate_zero])
    rfl
  | false =>
    (refine fun_of_vc Tryz.func32 rfl (by kernel_rfl) [2] rfl ?_; simp -dsimp (maxSteps := 4000000) only [push_cast, fr0, Tryz.ntmps32, List.length_cons, List.length_nil, Nat.reduceAdd, Nat.reduceSub, Nat.reduceBEq, List.replicate_succ, List.replicate_zero])
    rfl
theorem number_c (s : List UInt8) (hs : s.length ≤ 1000000) (w : World) (h : SErrs w) (hp : Pw w) (hg : 14 ≤ w.heap.size) : Fun Tryz.prog 94 [str s] w fun r w' => ((∃ v, numA s = some v ∧ r = .tuple #[.int .i64 v, .bool true]) ∨ (numA s = none ∧ ∃ v, r = .tuple #[.int .i64 v, .bool false])) ∧ Below w.heap.size w w' := by
  refine fun_of_vc Tryz.func94 rfl (by kernel_rfl) [2, 3] rfl ?_
  simp -dsimp (maxSteps := 4000000) only [push_cast, fr0, Tryz.ntmps94, List.length_cons, List.length_nil, Nat.reduceAdd, Nat.reduceSub, Nat.reduceBEq, List.replicate_succ, List.replicate_zero]
  refine callK_of (atoiN_c s hs w h) ?_
  rintro r w1 ⟨hr, hb⟩
  rcases hr with ⟨v, hv, rfl⟩ | ⟨hno, t, p, rfl⟩
  · have hbd := Lib.atoiAll_bounds hv
    simp -dsimp only [push_cast, Nat.reduceAdd, Nat.reduceLeDiff, Nat.reduceBEq, decide_true, ne_eq, eq_self, not_true_eq_false, not_false_eq_true, true_imp_iff, false_imp_iff, Int.reduceNe, Int.reduceEq, Int.reduceLT, Int.reduceLE, Bool.not_true, Bool.not_false]
    refine ⟨fun h0 => ?_, fun h0 => ?_⟩
    · refine callK_of (itoaN_c v (by omega) (by omega) w1 (hp.below hb hg)) ?_
      rintro _ w2 ⟨rfl, hb2⟩
      simp -dsimp only [push_cast, Nat.reduceAdd, Nat.reduceLeDiff, Nat.reduceBEq, decide_true, ne_eq, eq_self, not_true_eq_false, not_false_eq_true, true_imp_iff, false_imp_iff, Int.reduceNe, Int.reduceEq, Int.reduceLT, Int.reduceLE, Bool.not_true, Bool.not_false]
      refine ⟨?_, hb.trans (hb2.mono hb.size)⟩
      by_cases he : itoaT v = s
      · exact .inl ⟨v, by unfold numA; rw [hv]; exact if_pos ⟨h0, he⟩, by simp [he]⟩
      · exact .inr ⟨by unfold numA; rw [hv]; exact if_neg (fun h => he h.2), v, by simp [he]⟩
    · refine ⟨.inr ⟨?_, v, rfl⟩, hb⟩
      unfold numA
      rw [hv]
      exact if_neg (fun h => h0 h.1)
  · simp -dsimp only [push_cast, Nat.reduceAdd, Nat.reduceLeDiff, Nat.reduceBEq, decide_true, ne_eq, eq_self, not_true_eq_false, not_false_eq_true, true_imp_iff, false_imp_iff, Int.reduceNe, Int.reduceEq, Int.reduceLT, Int.reduceLE, Bool.not_true, Bool.not_false]
    refine ⟨.inr ⟨?_, _, rfl⟩, hb⟩
    unfold numA
    split
    · rename_i v hv; exact absurd hv (hno v)
    · rfl
end Go.Proofs.YtiofleijieepgaaGreatDoor
end
section
set_option linter.unusedSimpArgs false
set_option linter.unusedVariables false
namespace Go.Vc
open Go.RowKit
section
variable {P : Program} {t : Fr} {w : World} {K : VK} {Q : EP}
/-- What a call does that may panic. -/
def Fun2 (P : Program) (f : FuncId) (args : List Value) (w : World) (R : VK) (E : List PanicEntry → World → Prop) : Prop :=
  (callFunc f args.toArray).run P w = .ok (.enter f args.toArray) w ∧ Calls P f args.toArray w fun e w' => match e with
    | .returned v => R v w'
    | .panicked c => E c w'
    | .outgrown => False
theorem Fun2.mono {f : FuncId} {args : List Value} {R R' : VK} {E E' : List PanicEntry → World → Prop} (h : Fun2 P f args w R E) (k : ∀ v w', R v w' → R' v w') (ke : ∀ c w', E c w' → E' c w') : Fun2 P f args w R' E' :=
  ⟨h.1, h.2.mono fun e w' he => by cases e <;> first | exact k _ _ he | exact ke _ _ he | exact he.elim⟩
theorem callP_of {f : FuncId} {args : List Value} {R : VK} {E : List PanicEntry → World → Prop} {p} (h : Fun2 P f args w R E) (k : ∀ v w', R v w' → K v w') (ke : ∀ c w', E c w' → Q (.panic c) t w') : callK P f args t w K Q p := by
  unfold callK
  rw [h.1]
  exact h.2.mono fun e w' he => by cases e <;> first | exact k _ _ he | exact ke _ _ he | exact he.elim
theorem Fun.two {f : FuncId} {args : List Value} {R : VK} (h : Fun P f args w R) : Fun2 P f args w R (fun _ _ => False) :=
  ⟨h.1, h.2.mono fun e w' ⟨v, he, hr⟩ => by subst he; exact hr⟩
def retE (P : Program) (rs : List ResultVar) (R : VK) (E : List PanicEntry → World → Prop) (_ : Ph (R, E)) : EP
  | .normal, t, w => retL P t w rs fun vs => R (tup vs) w
  | .ret, t, w => retL P t w rs fun vs => R (tup vs) w
  | .panic c, _, w => E c w
  | _, _, _ => False
variable {R : VK} {E : List PanicEntry → World → Prop}
theorem retE_normal (rs) (p) : retE P rs R E p .normal t w = retL P t w rs fun vs => R (tup vs) w := (rfl)
theorem retE_ret (rs) (p) : retE P rs R E p .ret t w = retL P t w rs fun vs => R (tup vs) w := (rfl)
theorem retE_panic (rs) (c) (p) : retE P rs R E p (.panic c) t w = E c w := (rfl)
theorem fun2_of_vc {f : FuncId} {fn : Func} {c : Code} {args : List Value} (hf : P.funcs[f]? = some fn) (hb : fn.body = some c) (hn : (fn.name == "runtime.NumGoroutine") = false)
    (rs : List ResultVar) (hrs : fn.results = rs.toArray) (h : vc P c (retE P rs R E .mk) (fr0 args fn.ntmps) w .mk) : Fun2 P f args w R E := by
  refine ⟨callFunc_enter hf (by simp [hb]) hn, calls_of_wp hf hb ?_⟩
  have h1 := vc_ok c _ _ w h
  unfold wpL at h1
  have e : (args.toArray ++ Array.replicate (fn.ntmps - args.toArray.size) undef) = (fr0 args fn.ntmps).toArray := by simp [fr0]
  rw [e]
  refine Code.wp_mono ?_ h1
  rintro e a w' ⟨hd, hh⟩
  have ha : a.tmps.toList.toArray = a.tmps := by simp
  cases e <;> simp only [retE] at hh <;> first | exact hh.elim | skip
  · obtain ⟨vs, hv, hk⟩ := resultsC_run fn rs hrs _ _ hh
    exact ⟨hd, _, by rw [← ha]; exact hv, hk⟩
  · obtain ⟨vs, hv, hk⟩ := resultsC_run fn rs hrs _ _ hh
    exact ⟨hd, _, by rw [← ha]; exact hv, hk⟩
  · exact ⟨hd, hh⟩
theorem panicK {ty : TypeId} {v : Value} {p} (k : Q (.panic [{ v := .iface ty v, recovered := false }]) t w) : valK P (Instr.panic (.iface ty v)) t w K Q p := by
  unfold valK
  have : ((do pure (Next.value (← Instr.panic (.iface ty v))) : Sem Next).run P w) = .halt (.panic (.iface ty v)) w := rfl
  rw [this]
  exact k
end
attribute [push_cast] retE_normal retE_ret retE_panic seqQ_panic blockQ_panic
end Go.Vc
end
section
set_option linter.unusedSimpArgs false
set_option linter.unusedVariables false
namespace Go.Vc
open Go.RowKit

/-! Regions that draw their order, as in V, but that looking whether a pointer is nil floats, too. -/
/-- An operation that may turn the world. -/
def chainN (P : Program) (o : Oper) : Bool := match o.op with
  | .convert _ d _ => !((P.underlying d) matches some (.int _))
  | .move _ | .assign _ | .pick .. | .binOp .. | .unOp .. | .extract .. | .index .. | .build .. | .makeFunc .. | .fieldAddr .. | .field .. | .indexAddr .. | .slice .. | .makeInterface .. | .load .. => false
  | .call { callee := .builtin .len, .. } | .call { callee := .builtin .max, .. } | .call { callee := .builtin .min, .. } => false
  | .nilCheck _ => false
  | _ => true

section
variable {P : Program} {ops : Array Oper} {md : Region.Mode} {C : World → Prop}

def mixOpN (P : Program) (ops : Array Oper) (C : World → Prop) (i : Nat) (K : Act → World → Prop) (a : Act) (w : World) : Prop :=
  match ops[i]? with
  | none => K a w
  | some o =>
    if Region.wanted o (yielded ops a.tmps) then
      if chainN P o then resA P a o.dst C K ((execOp a.eval o).run P w)
      else ∃ v, (∀ w', C w' → (execOp a.eval o).run P w' = .ok (.value v) w') ∧ K (a.put o.dst v) w
    else K (a.put o.dst undef) w

theorem mixOp_monoN {i : Nat} {K K' : Act → World → Prop} {a : Act} {w : World} (hC : C w) (hk : ∀ a w, C w → K a w → K' a w) (h : mixOpN P ops C i K a w) : mixOpN P ops C i K' a w := by
  unfold mixOpN at *
  split
  · rename_i ho; simp only [ho] at h; exact hk _ _ hC h
  · rename_i o ho
    simp only [ho] at h
    split
    · rename_i hw
      simp only [hw, if_true] at h
      split
      · rename_i hc
        simp only [hc, if_true] at h
        exact resA_mono (fun v w' hw' hh => hk _ _ hw' hh) h
      · rename_i hc
        simp only [hc] at h
        obtain ⟨v, h1, h2⟩ := h
        exact ⟨v, h1, hk _ _ hC h2⟩
    · rename_i hw
      simp only [hw] at h
      exact hk _ _ hC h

theorem mixOp_someN {i : Nat} {K : Act → World → Prop} {a : Act} {w : World} (hC : C w) (h : mixOpN P ops C i K a w) : ∃ a' w', C w' ∧ K a' w' := by
  unfold mixOpN at h
  split at h
  · exact ⟨_, _, hC, h⟩
  · split at h
    · split at h
      · obtain ⟨v, w', hh⟩ := resA_some h; exact ⟨_, _, hh⟩
      · obtain ⟨v, _, hh⟩ := h; exact ⟨_, _, hC, hh⟩
    · exact ⟨_, _, hC, h⟩

theorem mixOp_noN {i : Nat} {o : Oper} {K : Act → World → Prop} {a : Act} {w : World} (hi : ops[i]? = some o) (hw : Region.wanted o (yielded ops a.tmps) = false) : mixOpN P ops C i K a w = K (a.put o.dst undef) w := by
  unfold mixOpN; simp [hi, hw]
theorem mixOp_chainN {i : Nat} {o : Oper} {K : Act → World → Prop} {a : Act} {w : World} (hi : ops[i]? = some o) (hw : Region.wanted o (yielded ops a.tmps) = true) (hc : chainN P o = true) : mixOpN P ops C i K a w = resA P a o.dst C K ((execOp a.eval o).run P w) := by
  unfold mixOpN; simp [hi, hw, hc]
theorem mixOp_quietN {i : Nat} {o : Oper} {K : Act → World → Prop} {a : Act} {w : World} (hi : ops[i]? = some o) (hw : Region.wanted o (yielded ops a.tmps) = true) (hc : chainN P o = false) : mixOpN P ops C i K a w = ∃ v, (∀ w', C w' → (execOp a.eval o).run P w' = .ok (.value v) w') ∧ K (a.put o.dst v) w := by
  unfold mixOpN; simp [hi, hw, hc]

/-- Two operations that are apart, not both of the chainN, may change places. -/
theorem mixOp_swapN {i j : Nat} {oi oj : Oper} {K : Act → World → Prop} {a : Act} {w : World} (hi : ops[i]? = some oi) (hj : ops[j]? = some oj) (hap : oi.apart ops oj = true) (hch : (chainN P oi && chainN P oj) = false)
    (hsi : ∀ cs b, oi.op ≠ .select cs b) (hsj : ∀ cs b, oj.op ≠ .select cs b) (h : mixOpN P ops C i (mixOpN P ops C j K) a w) : mixOpN P ops C j (mixOpN P ops C i K) a w := by
  obtain ⟨h1, h2, h3⟩ := Oper.apart_spec hap
  have ej : ∀ (b : Act) (v : Value), execOp (b.put oi.dst v).eval oj = execOp b.eval oj := fun b v => execOp_put oj hsj b oi.dst v h1
  have ei : ∀ (b : Act) (v : Value), execOp (b.put oj.dst v).eval oi = execOp b.eval oi := fun b v => execOp_put oi hsi b oj.dst v h3
  have wj : ∀ (b : Act) (v : Value), Region.wanted oj (yielded ops (b.put oi.dst v).tmps) = Region.wanted oj (yielded ops b.tmps) := fun b v => wanted_put oj b oi.dst v h1
  have wi : ∀ (b : Act) (v : Value), Region.wanted oi (yielded ops (b.put oj.dst v).tmps) = Region.wanted oi (yielded ops b.tmps) := fun b v => wanted_put oi b oj.dst v h3
  have cm : ∀ (b : Act) (v u : Value), (b.put oi.dst v).put oj.dst u = (b.put oj.dst u).put oi.dst v := fun b v u => Act.put_comm b v u h2
  cases hwi : Region.wanted oi (yielded ops a.tmps) with
  | false =>
    rw [mixOp_noN hi hwi] at h
    cases hwj : Region.wanted oj (yielded ops a.tmps) with
    | false =>
      rw [mixOp_noN hj (by rw [wj]; exact hwj)] at h
      rw [mixOp_noN hj hwj, mixOp_noN hi (by rw [wi]; exact hwi), ← cm]
      exact h
    | true =>
      cases hcj : chainN P oj with
      | true =>
        rw [mixOp_chainN hj (by rw [wj]; exact hwj) hcj, ej] at h
        rw [mixOp_chainN hj hwj hcj]
        refine resA_mono (fun v w' _ hh => ?_) h
        rw [mixOp_noN hi (by rw [wi]; exact hwi), ← cm]
        exact hh
      | false =>
        rw [mixOp_quietN hj (by rw [wj]; exact hwj) hcj, ej] at h
        rw [mixOp_quietN hj hwj hcj]
        obtain ⟨v, hv, hk⟩ := h
        refine ⟨v, hv, ?_⟩
        rw [mixOp_noN hi (by rw [wi]; exact hwi), ← cm]
        exact hk
  | true =>
    cases hci : chainN P oi with
    | true =>
      have hcj : chainN P oj = false := by simpa [hci] using hch
      rw [mixOp_chainN hi hwi hci] at h
      cases hwj : Region.wanted oj (yielded ops a.tmps) with
      | false =>
        rw [mixOp_noN hj hwj, mixOp_chainN hi (by rw [wi]; exact hwi) hci, ei]
        refine resA_mono (fun v w' _ hh => ?_) h
        rw [mixOp_noN hj (by rw [wj]; exact hwj)] at hh
        rw [← cm]
        exact hh
      | true =>
        obtain ⟨v, w', hw', hh⟩ := resA_some h
        rw [mixOp_quietN hj (by rw [wj]; exact hwj) hcj, ej] at hh
        obtain ⟨u, hu, hk⟩ := hh
        rw [mixOp_quietN hj hwj hcj]
        refine ⟨u, hu, ?_⟩
        rw [mixOp_chainN hi (by rw [wi]; exact hwi) hci, ei]
        refine resA_mono (fun v' w'' hw'' hh => ?_) h
        rw [mixOp_quietN hj (by rw [wj]; exact hwj) hcj, ej] at hh
        obtain ⟨u', hu', hk'⟩ := hh
        have e := (hu w'' hw'').symm.trans (hu' w'' hw'')
        injection e with e1 _
        injection e1 with e2
        subst e2
        rw [← cm]
        exact hk'
    | false =>
      rw [mixOp_quietN hi hwi hci] at h
      obtain ⟨v, hv, hk⟩ := h
      cases hwj : Region.wanted oj (yielded ops a.tmps) with
      | false =>
        rw [mixOp_noN hj (by rw [wj]; exact hwj)] at hk
        rw [mixOp_noN hj hwj, mixOp_quietN hi (by rw [wi]; exact hwi) hci, ei]
        exact ⟨v, hv, by rw [← cm]; exact hk⟩
      | true =>
        cases hcj : chainN P oj with
        | true =>
          rw [mixOp_chainN hj (by rw [wj]; exact hwj) hcj, ej] at hk
          rw [mixOp_chainN hj hwj hcj]
          refine resA_mono (fun u w' _ hh => ?_) hk
          rw [mixOp_quietN hi (by rw [wi]; exact hwi) hci, ei]
          exact ⟨v, hv, by rw [← cm]; exact hh⟩
        | false =>
          rw [mixOp_quietN hj (by rw [wj]; exact hwj) hcj, ej] at hk
          rw [mixOp_quietN hj hwj hcj]
          obtain ⟨u, hu, hk⟩ := hk
          refine ⟨u, hu, ?_⟩
          rw [mixOp_quietN hi (by rw [wi]; exact hwi) hci, ei]
          exact ⟨v, hv, by rw [← cm]; exact hk⟩

/-- Whatever order is picked from here on. -/
def wpMixN (P : Program) (md : Region.Mode) (ops : Array Oper) (C : World → Prop) (R : Act → World → Prop) : Nat → Array Bool → Act → World → Prop
  | 0, listed, a, w => Region.ready md ops listed = [] ∧ R a w
  | fuel + 1, listed, a, w => (Region.ready md ops listed = [] → R a w) ∧ ∀ i ∈ Region.ready md ops listed, mixOpN P ops C i (wpMixN P md ops C R fuel (listed.setIfInBounds i true)) a w

theorem wpAny_of_mixN {R : Act → World → Prop} {Q : Exit → Act → World → Prop} (hq : ∀ a w, R a w → Q .normal a w) : ∀ (fuel : Nat) (listed : Array Bool) (a : Act) (w : World), C w →
    wpMixN P md ops C R fuel listed a w → wpAny P md ops Q fuel listed a w
  | 0, _, _, _, _, h => ⟨h.1, hq _ _ h.2⟩
  | fuel + 1, listed, a, w, hC, h => ⟨fun h0 => hq _ _ (h.1 h0), fun i hi => by
      have h1 := h.2 i hi
      unfold mixOpN at h1
      unfold wpOp
      split
      · rename_i ho; simp only [ho] at h1; exact wpAny_of_mixN hq fuel _ _ _ hC h1
      · rename_i o ho
        simp only [ho] at h1
        split
        · rename_i hw
          simp only [hw, if_true] at h1
          refine .inl ?_
          split at h1
          · exact Oper.wp_mono (fun a' w' hh => wpAny_of_mixN hq fuel _ _ _ hh.1 hh.2) (upon_of_resA h1)
          · obtain ⟨v, hv, hk⟩ := h1
            unfold Oper.wp
            rw [hv w hC]
            exact wpAny_of_mixN hq fuel _ _ _ hC hk
        · rename_i hw
          simp only [hw] at h1
          exact wpAny_of_mixN hq fuel _ _ _ hC h1⟩

/-- The one that stands first in the text may be taken first. -/
theorem wpMix_firstN {R : Act → World → Prop} {i : Nat} {oi : Oper} (hi : ops[i]? = some oi) (hsel : ∀ (j : Nat) (o : Oper) cs b, ops[j]? = some o → o.op ≠ .select cs b) :
    ∀ (fuel : Nat) (listed : Array Bool) (a : Act) (w : World), C w → Shut ops listed →
      (∀ j oj, ops[j]? = some oj → j ≠ i → listed.getD j true = false → ((Region.before ops).getD j 0).testBit i = false → oi.apart ops oj = true ∧ (chainN P oi && chainN P oj) = false) →
      i ∈ Region.ready .any ops listed → mixOpN P ops C i (wpMixN P .any ops C R fuel (listed.setIfInBounds i true)) a w → wpMixN P .any ops C R (fuel + 1) listed a w := by
  intro fuel
  induction fuel with
  | zero =>
    intro listed a w hC _ _ hr H
    refine ⟨fun h => (by rw [h] at hr; cases hr), fun j hj => ?_⟩
    by_cases hji : j = i
    · subst hji; exact H
    · have := ready_mono hj hji
      obtain ⟨_, _, _, hh⟩ := mixOp_someN hC H
      rw [hh.1] at this
      cases this
  | succ fuel ih =>
    intro listed a w hC hS hfree hr H
    refine ⟨fun h => (by rw [h] at hr; cases hr), fun j hj => ?_⟩
    by_cases hji : j = i
    · subst hji; exact H
    · have h1 : mixOpN P ops C i (mixOpN P ops C j (wpMixN P .any ops C R fuel ((listed.setIfInBounds i true).setIfInBounds j true))) a w :=
        mixOp_monoN hC (fun a' w' _ hh => hh.2 j (ready_mono hj hji)) H
      obtain ⟨hjun, oj, hoj, hall⟩ := mem_ready.1 hj
      have hiun : listed.getD i false = false := by
        have h0 := (mem_ready.1 hr).1
        rcases Nat.lt_or_ge i listed.size with h' | h'
        · simp [h'] at h0 ⊢; exact h0
        · simp [Array.getElem?_eq_none h']
      have hnot : ((Region.before ops).getD j 0).testBit i = false := by
        cases hb : ((Region.before ops).getD j 0).testBit i with
        | false => rfl
        | true => have := hS.before j i oj hoj hall hb; rw [hiun] at this; cases this
      obtain ⟨hap, hch⟩ := hfree j oj hoj hji hjun hnot
      have h2 := mixOp_swapN hi hoj hap hch (fun cs b => hsel i oi cs b hi) (fun cs b => hsel j oj cs b hoj) h1
      refine mixOp_monoN hC (fun a' w' hC' h3 => ih (listed.setIfInBounds j true) a' w' hC' (hS.set hj) ?_ (ready_mono hr (Ne.symm hji)) ?_) h2
      · intro k ok hk hki hun hno
        refine hfree k ok hk hki ?_ hno
        by_cases hjk : j = k
        · subst hjk; exact hjun
        · rw [getD_set_ne true hjk] at hun; exact hun
      · rw [Array.setIfInBounds_comm _ _ hji]
        exact h3

def mixFreeN (P : Program) (ops : Array Oper) (bf : Array Nat) (listed : Array Bool) (i : Nat) : Bool :=
  match ops[i]? with
  | none => false
  | some oi => (List.range ops.size).all fun j => j == i || listed.getD j true || match ops[j]? with
      | some oj => (bf.getD j 0).testBit i || (oi.apart ops oj && !(chainN P oi && chainN P oj))
      | none => true

theorem mixFree_specN {i : Nat} {oi : Oper} {listed : Array Bool} (hi : ops[i]? = some oi) (h : mixFreeN P ops (Region.before ops) listed i = true) (j : Nat) (oj : Oper)
    (hj : ops[j]? = some oj) (hne : j ≠ i) (hun : listed.getD j true = false) (hno : ((Region.before ops).getD j 0).testBit i = false) :
    oi.apart ops oj = true ∧ (chainN P oi && chainN P oj) = false := by
  simp only [mixFreeN, hi, List.all_eq_true, List.mem_range] at h
  have h1 := h j (Array.getElem?_eq_some_iff.1 hj).1
  simp only [hj, Bool.or_eq_true, beq_iff_eq, hne, false_or, hun, Bool.false_eq_true, hno] at h1
  simp only [Bool.and_eq_true, Bool.not_eq_true'] at h1
  exact h1

def mixFromN (P : Program) (ops : Array Oper) (bf : Array Nat) : Nat → Nat → Array Bool → Bool
  | 0, _, listed => (Region.ready .any ops listed).isEmpty
  | fuel + 1, k, listed => (Region.ready .any ops listed).contains k && mixFreeN P ops bf listed k && mixFromN P ops bf fuel (k + 1) (listed.setIfInBounds k true)

def mixBN (P : Program) (ops : Array Oper) : Bool := Region.noSelect ops && mixFromN P ops (Region.before ops) ops.size 0 (Array.replicate ops.size false)

/-- The text's own order. -/
def wpLexN (P : Program) (ops : Array Oper) (C : World → Prop) (R : Act → World → Prop) : List Nat → Act → World → Prop
  | [], a, w => R a w
  | i :: r, a, w => mixOpN P ops C i (wpLexN P ops C R r) a w

theorem wpMix_lexN {R : Act → World → Prop} (hs : Region.noSelect ops = true) : ∀ (n k : Nat) (listed : Array Bool) (a : Act) (w : World), k + n = ops.size → C w → Shut ops listed →
    mixFromN P ops (Region.before ops) n k listed = true → wpLexN P ops C R (List.range' k n) a w → wpMixN P .any ops C R n listed a w
  | 0, _, _, _, _, _, _, _, hB, h => ⟨by simpa [mixFromN] using hB, h⟩
  | n + 1, k, listed, a, w, hk, hC, hS, hB, h => by
    simp only [mixFromN, Bool.and_eq_true] at hB
    obtain ⟨⟨hr, hf⟩, hB'⟩ := hB
    have hlt : k < ops.size := by omega
    have hr' : k ∈ Region.ready .any ops listed := by simpa using hr
    refine wpMix_firstN (i := k) (oi := ops[k]) (by simp [hlt]) (Region.noSelect_spec hs) n listed a w hC hS (mixFree_specN (by simp [hlt]) hf) hr' ?_
    simp only [List.range'_succ, wpLexN] at h
    exact mixOp_monoN hC (fun a' w' hC' hh => wpMix_lexN hs n (k + 1) _ a' w' (by omega) hC' (hS.set hr') hB' hh) h

end
section
variable {P : Program}

/-- One operation of such a region, told by the evaluator. -/
def mixKN (P : Program) (o : Oper) (t : Fr) (w : World) (C : World → Prop) (K : VK) (_ : Ph (o, C, K)) : Prop :=
  match o.op with
  | .load ty a => loadK (tyK P ty) (ev t a) w (fun v w' => (∀ w'', C w'' → loadK (tyK P ty) (ev t a) w'' (fun u _ => u = v) .mk) ∧ K v w') .mk
  | .nilCheck x => nilK (ev t x) (K · w) False .mk
  | _ => if chainN P o then opK P o t w (fun v w' => C w' ∧ K v w') noQ .mk else pureK P o t (K · w) False .mk

def vcMixN (P : Program) (ops : List Oper) (C : World → Prop) (R : Fr → World → Prop) : (l : List Oper) → Fr → World → Ph (ops, C, R, l) → Prop
  | [], t, w, _ => R t w
  | o :: r, t, w, _ => match o.guard with
    | none => mixKN P o t w C (fun v w' => vcMixN P ops C R r (put t o.dst v) w' .mk) .mk
    | some (j, want) => guardK (slotOf ops j) want t (fun t' => mixKN P o t' w C (fun v w' => vcMixN P ops C R r (put t' o.dst v) w' .mk) .mk) (fun t' => vcMixN P ops C R r (put t' o.dst undef) w .mk) .mk

theorem mixOp_of_mixKN {ops : List Oper} {i : Nat} {o : Oper} {C : World → Prop} {t : Fr} {w : World} {K : VK} {N : Act → World → Prop} (hi : ops[i]? = some o) (hw : Region.wanted o (yielded ops.toArray t.toArray) = true)
    (hn : ∀ v w', K v w' → N ⟨(put t o.dst v).toArray, []⟩ w') (h : mixKN P o t w C K .mk) : mixOpN P ops.toArray C i N ⟨t.toArray, []⟩ w := by
  unfold mixOpN
  simp only [List.getElem?_toArray, hi, hw, if_true, ev_eq]
  unfold mixKN at h
  split at h
  · rename_i ty x ho
    have hc : chainN P o = false := by simp [chainN, ho]
    simp only [hc, Bool.false_eq_true, if_false]
    obtain ⟨v, hr, hall, hk⟩ := loadK_run ho h
    refine ⟨v, fun w' hw' => ?_, by rw [put_eq]; exact hn _ _ hk⟩
    obtain ⟨u, hu, hv⟩ := loadK_run ho (hall w' hw')
    rw [hu, hv]
  · rename_i x ho
    have hc : chainN P o = false := by simp [chainN, ho]
    simp only [hc, Bool.false_eq_true, if_false]
    unfold nilK at h
    split at h
    · rename_i a hx
      refine ⟨_, fun w' _ => ?_, by rw [put_eq]; exact hn _ _ h⟩
      unfold execOp
      simp only [ho, hx]
      rfl
    · exact h.elim
  · split at h
    · rename_i hc
      simp only [hc, if_true]
      exact resA_of_resK hn (opK_ok h)
    · rename_i hc
      simp only [hc]
      rcases pureK_ok h with h | ⟨v, hg, hk⟩
      · exact h.elim
      · exact ⟨v, fun w' _ => hg w', by rw [put_eq]; exact hn _ _ hk⟩

theorem mixOp_skipN {ops : List Oper} {i : Nat} {o : Oper} {C : World → Prop} {t : Fr} {w : World} {N : Act → World → Prop} (hi : ops[i]? = some o) (hw : Region.wanted o (yielded ops.toArray t.toArray) = false)
    (h : N ⟨(put t o.dst undef).toArray, []⟩ w) : mixOpN P ops.toArray C i N ⟨t.toArray, []⟩ w := by
  unfold mixOpN
  simp only [List.getElem?_toArray, hi, hw, Bool.false_eq_true, if_false]
  rw [put_eq]; exact h

theorem wpLex_of_vcMixN {ops : List Oper} {C : World → Prop} {R : Fr → World → Prop} {N : Act → World → Prop} (hn : ∀ t w, R t w → N ⟨t.toArray, []⟩ w) : ∀ (l : List Oper) (k : Nat) (t : Fr) (w : World), (∀ j, l[j]? = ops[k + j]?) →
    vcMixN P ops C R l t w .mk → wpLexN P ops.toArray C N (List.range' k l.length) ⟨t.toArray, []⟩ w
  | [], _, _, _, _, h => hn _ _ h
  | o :: r, k, t, w, hl, h => by
    have h0 : ops[k]? = some o := by simpa using (hl 0).symm
    have ih := fun t w => wpLex_of_vcMixN (C := C) hn r (k + 1) t w (fun j => by have := hl (j + 1); simpa [Nat.add_assoc, Nat.add_comm 1 j] using this)
    simp only [List.length_cons, List.range'_succ, wpLexN]
    simp only [vcMixN] at h
    split at h
    · rename_i hg
      exact mixOp_of_mixKN h0 (by simp [Region.wanted, hg]) (fun v w' hk => ih _ _ hk) h
    · rename_i j want hg
      rcases guard_cases hg h with ⟨hw, hh⟩ | ⟨hw, hh⟩
      · exact mixOp_of_mixKN h0 hw (fun v w' hk => ih _ _ hk) hh
      · exact mixOp_skipN h0 hw (ih _ _ hh)

/-- A region that draws its order, walked once, in the text's order. -/
theorem wpL_drawN {id : Nat} {l : List Oper} {t : Fr} {w : World} {Q : EP} {p} (C : World → Prop) (hm : P.follows .mixedOrders = true) (hB : mixBN P l.toArray = true) (hC : C w.drew)
    (h : vcMixN P l C (Q .normal) l t w.drew .mk) : wpL P (.region id l.toArray true) Q t w p := by
  unfold wpL
  simp only [mixBN, Bool.and_eq_true] at hB
  refine wp_region_any hm (wpAny_of_mixN (C := C) (R := fun a w => lift Q .normal a w) (fun _ _ h => h) _ _ _ _ hC ?_)
  refine wpMix_lexN hB.1 _ 0 _ _ _ (by simp) hC (fun j o _ hl => by simp [Array.getElem?_replicate] at hl; split at hl <;> simp at hl) hB.2 ?_
  have := wpLex_of_vcMixN (P := P) (ops := l) (C := C) (R := Q .normal) (N := fun a w => lift Q .normal a w) (fun t w hk => ⟨rfl, by simpa using hk⟩) l 0 t w.drew (fun j => by simp) h
  simpa using this

variable {t : Fr} {w : World} {C : World → Prop} {K : VK} {R : Fr → World → Prop}
theorem vcMix_nilN (ops) (p) : vcMixN P ops C R [] t w p = R t w := (rfl)
theorem vcMix_plainN (ops) (d op ty pos af r) (p) : vcMixN P ops C R (⟨d, op, ty, pos, af, none⟩ :: r) t w p = mixKN P ⟨d, op, ty, pos, af, none⟩ t w C (fun v w' => vcMixN P ops C R r (put t d v) w' .mk) .mk := (rfl)
theorem vcMix_guardN (ops) (d op ty pos af j want r) (p) : vcMixN P ops C R (⟨d, op, ty, pos, af, some (j, want)⟩ :: r) t w p =
    guardK (slotOf ops j) want t (fun t' => mixKN P ⟨d, op, ty, pos, af, some (j, want)⟩ t' w C (fun v w' => vcMixN P ops C R r (put t' d v) w' .mk) .mk) (fun t' => vcMixN P ops C R r (put t' d undef) w .mk) .mk := rfl
theorem mixK_moveN (d x ty pos af g) (p) : mixKN P ⟨d, .move x, ty, pos, af, g⟩ t w C K p = K (ev t x) w := (rfl)
theorem mixK_assignN (d x ty pos af g) (p) : mixKN P ⟨d, .assign x, ty, pos, af, g⟩ t w C K p = K (ev t x) w := (rfl)
theorem mixK_pickN (d c a b ty pos af g) (p) : mixKN P ⟨d, .pick c a b, ty, pos, af, g⟩ t w C K p = pickK (ev t c) (ev t a) (ev t b) (K · w) .mk := (rfl)
theorem mixK_binN (d op xt x y yt ty pos af g) (p) : mixKN P ⟨d, .binOp op xt x y yt, ty, pos, af, g⟩ t w C K p =
    binK op (ev t x) (ev t y) (K · w) (eqNilK (eqKind P xt) (isConst x || isConst y) op (ev t x) (ev t y) (K · w) False .mk) .mk := rfl
theorem mixK_unN (d op xt x ty pos af g) (p) : mixKN P ⟨d, .unOp op xt x, ty, pos, af, g⟩ t w C K p = unK op (ev t x) (K · w) False .mk := (rfl)
theorem mixK_extractN (d x i ty pos af g) (p) : mixKN P ⟨d, .extract x i, ty, pos, af, g⟩ t w C K p = extractK (ev t x) i (K · w) .mk := (rfl)
/-- A conversion: by what the type is. -/
def mixConvKN (P : Program) (d : Option TypeDesc) (o : Oper) (t : Fr) (w : World) (C : World → Prop) (K : VK) (_ : Ph (o, C, K)) : Prop :=
  match d with
  | some (.int _) => pureK P o t (K · w) False .mk
  | _ => opK P o t w (fun v w' => C w' ∧ K v w') noQ .mk
theorem mixK_convertN (d s e x ty pos af g) (p) : mixKN P ⟨d, .convert s e x, ty, pos, af, g⟩ t w C K p = mixConvKN P (P.underlying e) ⟨d, .convert s e x, ty, pos, af, g⟩ t w C K .mk := by
  cases h : P.underlying e with
  | none => simp [mixKN, chainN, h, mixConvKN]
  | some d => cases d <;> simp [mixKN, chainN, h, mixConvKN]
theorem mixConvK_intN (k d s e x ty pos af g) (p) : mixConvKN P (some (.int k)) ⟨d, .convert s e x, ty, pos, af, g⟩ t w C K p = convK (if (P.underlying s).isSome then P.underlying e else none) (ev t x) (K · w) False .mk := (rfl)
theorem mixConvK_strN (o) (p) : mixConvKN P (some .string) o t w C K p = opK P o t w (fun v w' => C w' ∧ K v w') noQ .mk := (rfl)
theorem mixConvK_sliceN (e o) (p) : mixConvKN P (some (.slice e)) o t w C K p = opK P o t w (fun v w' => C w' ∧ K v w') noQ .mk := (rfl)
theorem mixK_indexN (d xt x i ty pos af g) (p) : mixKN P ⟨d, .index xt x i, ty, pos, af, g⟩ t w C K p = indexK (P.underlying xt) (ev t x) (ev t i) (K · w) False .mk := (rfl)
theorem mixK_lenN (d x aty ty pos af g) (p) : mixKN P ⟨d, .call { callee := .builtin .len, args := #[x], argTypes := #[aty] }, ty, pos, af, g⟩ t w C K p = lenK (P.underlying aty) (ev t x) (K · w) False .mk := (rfl)
theorem mixK_loadN (d xt x ty pos af g) (p) : mixKN P ⟨d, .load xt x, ty, pos, af, g⟩ t w C K p = loadK (tyK P xt) (ev t x) w (fun v w' => (∀ w'', C w'' → loadK (tyK P xt) (ev t x) w'' (fun u _ => u = v) .mk) ∧ K v w') .mk := (rfl)
theorem mixK_fieldAddrN (d xt x f ty pos af g) (p) : mixKN P ⟨d, .fieldAddr xt x f, ty, pos, af, g⟩ t w C K p = fieldAddrK (fieldK P xt f) (ev t x) (K · w) .mk := (rfl)
theorem mixK_fieldN (d xt x f ty pos af g) (p) : mixKN P ⟨d, .field xt x f, ty, pos, af, g⟩ t w C K p = partK (fieldK P xt f) (ev t x) (K · w) .mk := (rfl)
theorem mixK_indexAddrN (d xt x i ty pos af g) (p) : mixKN P ⟨d, .indexAddr xt x i, ty, pos, af, g⟩ t w C K p = indexAddrK (elemK P xt) (arrK P xt) (ev t x) (ev t i) (K · w) .mk := (rfl)
theorem mixK_sliceN (d xt x lo hi mx ty pos af g) (p) : mixKN P ⟨d, .slice xt x lo hi mx, ty, pos, af, g⟩ t w C K p =
    sliceK (P.underlying xt) (elemK P xt) (ev t x) (lo.map (ev t)) (hi.map (ev t)) (mx.map (ev t)) (K · w) False .mk := rfl
theorem mixK_callN (d f) (args : List Operand) (aty ty pos af g) (p) : mixKN P ⟨d, .call { callee := .value f, args := args.toArray, argTypes := aty }, ty, pos, af, g⟩ t w C K p =
    opK P ⟨d, .call { callee := .value f, args := args.toArray, argTypes := aty }, ty, pos, af, g⟩ t w (fun v w' => C w' ∧ K v w') noQ .mk := rfl
theorem mixK_storeN (d xt x v ty pos af g) (p) : mixKN P ⟨d, .store xt x v, ty, pos, af, g⟩ t w C K p = opK P ⟨d, .store xt x v, ty, pos, af, g⟩ t w (fun v w' => C w' ∧ K v w') noQ .mk := (rfl)
theorem mixK_boxN (d e x ty pos af g) (p) : mixKN P ⟨d, .box e x, ty, pos, af, g⟩ t w C K p = opK P ⟨d, .box e x, ty, pos, af, g⟩ t w (fun v w' => C w' ∧ K v w') noQ .mk := (rfl)
theorem mixK_buildSliceN (d bt n ps ty pos af g) (p) : mixKN P ⟨d, .buildSlice bt n ps, ty, pos, af, g⟩ t w C K p = opK P ⟨d, .buildSlice bt n ps, ty, pos, af, g⟩ t w (fun v w' => C w' ∧ K v w') noQ .mk := (rfl)
theorem mixK_buildN (d bt) (ps : List (Nat × Operand)) (ty pos af g) (p) : mixKN P ⟨d, .build bt ps.toArray, ty, pos, af, g⟩ t w C K p = buildK (bldI P bt) (evs t ps) (K · w) .mk := (rfl)
theorem mixK_appendN (d) (args : Array Operand) (aty ty pos af g) (p) : mixKN P ⟨d, .call { callee := .builtin .append, args := args, argTypes := aty }, ty, pos, af, g⟩ t w C K p =
    opK P ⟨d, .call { callee := .builtin .append, args := args, argTypes := aty }, ty, pos, af, g⟩ t w (fun v w' => C w' ∧ K v w') noQ .mk := rfl
theorem mixK_nilCheckN (d x ty pos af g) (p) : mixKN P ⟨d, .nilCheck x, ty, pos, af, g⟩ t w C K p = nilK (ev t x) (K · w) False .mk := (rfl)
theorem mixK_invokeN (d r m) (args : Array Operand) (aty ty pos af g) (p) : mixKN P ⟨d, .call { callee := .invoke r m, args := args, argTypes := aty }, ty, pos, af, g⟩ t w C K p =
    opK P ⟨d, .call { callee := .invoke r m, args := args, argTypes := aty }, ty, pos, af, g⟩ t w (fun v w' => C w' ∧ K v w') noQ .mk := (rfl)
theorem mixK_allocN (d e ty pos af g) (p) : mixKN P ⟨d, .alloc e, ty, pos, af, g⟩ t w C K p = opK P ⟨d, .alloc e, ty, pos, af, g⟩ t w (fun v w' => C w' ∧ K v w') noQ .mk := (rfl)
theorem mixK_ifaceN (d xt x ty pos af g) (p) : mixKN P ⟨d, .makeInterface xt x, ty, pos, af, g⟩ t w C K p =
    ifaceK (if (P.underlying xt).isSome then eqKind P xt else 1) xt (ev t x) (K · w) False .mk := (rfl)
theorem mixK_makeSliceN (d bt l c ty pos af g) (p) : mixKN P ⟨d, .makeSlice bt l c, ty, pos, af, g⟩ t w C K p = opK P ⟨d, .makeSlice bt l c, ty, pos, af, g⟩ t w (fun v w' => C w' ∧ K v w') noQ .mk := (rfl)
theorem mixK_typeAssertN (d x xt at_ ok ty pos af g) (p) : mixKN P ⟨d, .typeAssert x xt at_ ok, ty, pos, af, g⟩ t w C K p = opK P ⟨d, .typeAssert x xt at_ ok, ty, pos, af, g⟩ t w (fun v w' => C w' ∧ K v w') noQ .mk := (rfl)
theorem mixK_makeFuncN (d fn) (a c : List Operand) (ty pos af g) (p) : mixKN P ⟨d, .makeFunc fn a.toArray c.toArray, ty, pos, af, g⟩ t w C K p = K (.func fn (a.map (ev t)).toArray (c.map (ev t)).toArray) w := by
  simp [mixKN, pureK, chainN]
end
attribute [push_cast] vcMix_nilN vcMix_plainN vcMix_guardN mixK_moveN mixK_assignN mixK_pickN mixK_binN mixK_unN mixK_extractN mixK_convertN mixConvK_intN mixConvK_strN mixConvK_sliceN mixK_indexN mixK_lenN mixK_loadN mixK_fieldAddrN mixK_fieldN mixK_indexAddrN mixK_sliceN mixK_callN mixK_storeN mixK_boxN mixK_buildSliceN mixK_buildN mixK_appendN mixK_nilCheckN mixK_invokeN mixK_allocN mixK_ifaceN mixK_makeSliceN mixK_typeAssertN mixK_makeFuncN
attribute [irreducible] vcMixN
end Go.Vc
end
section
set_option linter.unusedSimpArgs false
set_option linter.unusedVariables false
namespace Go.Vc
open Go.RowKit
/-! Regions that draw, whose last operation waits for all others: the class of worlds need not hold behind it. -/
section
variable {P : Program} {ops : Array Oper} {C : World → Prop}

def wpMixGN (P : Program) (ops : Array Oper) (C : World → Prop) (m : Nat) (R : Act → World → Prop) : Nat → Array Bool → Act → World → Prop
  | 0, listed, a, w => (∀ j ∈ Region.ready .any ops listed, j = m) ∧ wpMixN P .any ops (fun _ => True) R 1 listed a w
  | n + 1, listed, a, w => (Region.ready .any ops listed = [] → R a w) ∧ ∀ i ∈ Region.ready .any ops listed, mixOpN P ops C i (wpMixGN P ops C m R n (listed.setIfInBounds i true)) a w

theorem wpAny_of_mixGN {m : Nat} {R : Act → World → Prop} {Q : Exit → Act → World → Prop} (hq : ∀ a w, R a w → Q .normal a w) : ∀ (n : Nat) (listed : Array Bool) (a : Act) (w : World), C w →
    wpMixGN P ops C m R n listed a w → wpAny P .any ops Q (n + 1) listed a w
  | 0, listed, a, w, _, h => wpAny_of_mixN (C := fun _ => True) hq 1 listed a w trivial h.2
  | fuel + 1, listed, a, w, hC, h => ⟨fun h0 => hq _ _ (h.1 h0), fun i hi => by
      have h1 := h.2 i hi
      unfold mixOpN at h1
      unfold wpOp
      split
      · rename_i ho; simp only [ho] at h1; exact wpAny_of_mixGN hq fuel _ _ _ hC h1
      · rename_i o ho
        simp only [ho] at h1
        split
        · rename_i hw
          simp only [hw, if_true] at h1
          refine .inl ?_
          split at h1
          · exact Oper.wp_mono (fun a' w' hh => wpAny_of_mixGN hq fuel _ _ _ hh.1 hh.2) (upon_of_resA h1)
          · obtain ⟨v, hv, hk⟩ := h1
            unfold Oper.wp
            rw [hv w hC]
            exact wpAny_of_mixGN hq fuel _ _ _ hC hk
        · rename_i hw
          simp only [hw] at h1
          exact wpAny_of_mixGN hq fuel _ _ _ hC h1⟩

theorem wpMixG_firstN {m : Nat} {R : Act → World → Prop} {i : Nat} {oi : Oper} (hi : ops[i]? = some oi) (him : i ≠ m) (hm : ((Region.before ops).getD m 0).testBit i = true) (hsel : ∀ (j : Nat) (o : Oper) cs b, ops[j]? = some o → o.op ≠ .select cs b) :
    ∀ (fuel : Nat) (listed : Array Bool) (a : Act) (w : World), C w → Shut ops listed →
      (∀ j oj, ops[j]? = some oj → j ≠ i → listed.getD j true = false → ((Region.before ops).getD j 0).testBit i = false → oi.apart ops oj = true ∧ (chainN P oi && chainN P oj) = false) →
      i ∈ Region.ready .any ops listed → mixOpN P ops C i (wpMixGN P ops C m R fuel (listed.setIfInBounds i true)) a w → wpMixGN P ops C m R (fuel + 1) listed a w := by
  have hun : ∀ listed : Array Bool, i ∈ Region.ready .any ops listed → listed.getD i false = false := fun listed hr => by
    have h0 := (mem_ready.1 hr).1
    rcases Nat.lt_or_ge i listed.size with h' | h'
    · simp [h'] at h0 ⊢; exact h0
    · simp [Array.getElem?_eq_none h']
  intro fuel
  induction fuel with
  | zero =>
    intro listed a w hC hS _ hr H
    refine ⟨fun h => (by rw [h] at hr; cases hr), fun j hj => ?_⟩
    by_cases hji : j = i
    · subst hji; exact H
    · have := ready_mono hj hji
      obtain ⟨_, _, _, hh⟩ := mixOp_someN hC H
      have hjm := hh.1 j this
      subst hjm
      obtain ⟨_, oj, hoj, hall⟩ := mem_ready.1 hj
      have := hS.before j i oj hoj hall hm
      rw [hun listed hr] at this
      cases this
  | succ fuel ih =>
    intro listed a w hC hS hfree hr H
    refine ⟨fun h => (by rw [h] at hr; cases hr), fun j hj => ?_⟩
    by_cases hji : j = i
    · subst hji; exact H
    · have h1 : mixOpN P ops C i (mixOpN P ops C j (wpMixGN P ops C m R fuel ((listed.setIfInBounds i true).setIfInBounds j true))) a w :=
        mixOp_monoN hC (fun a' w' _ hh => hh.2 j (ready_mono hj hji)) H
      obtain ⟨hjun, oj, hoj, hall⟩ := mem_ready.1 hj
      have hiun := hun listed hr
      have hnot : ((Region.before ops).getD j 0).testBit i = false := by
        cases hb : ((Region.before ops).getD j 0).testBit i with
        | false => rfl
        | true => have := hS.before j i oj hoj hall hb; rw [hiun] at this; cases this
      obtain ⟨hap, hch⟩ := hfree j oj hoj hji hjun hnot
      have h2 := mixOp_swapN hi hoj hap hch (fun cs b => hsel i oi cs b hi) (fun cs b => hsel j oj cs b hoj) h1
      refine mixOp_monoN hC (fun a' w' hC' h3 => ih (listed.setIfInBounds j true) a' w' hC' (hS.set hj) ?_ (ready_mono hr (Ne.symm hji)) ?_) h2
      · intro k ok hk hki hun hno
        refine hfree k ok hk hki ?_ hno
        by_cases hjk : j = k
        · subst hjk; exact hjun
        · rw [getD_set_ne true hjk] at hun; exact hun
      · rw [Array.setIfInBounds_comm _ _ hji]
        exact h3

def lastFromN (P : Program) (ops : Array Oper) (bf : Array Nat) (m : Nat) : Nat → Nat → Array Bool → Bool
  | 0, _, listed => (Region.ready .any ops listed).contains m && (Region.ready .any ops listed).all (· == m) && (Region.ready .any ops (listed.setIfInBounds m true)).isEmpty
  | fuel + 1, k, listed => (Region.ready .any ops listed).contains k && mixFreeN P ops bf listed k && (bf.getD m 0).testBit k && lastFromN P ops bf m fuel (k + 1) (listed.setIfInBounds k true)

def lastBN (P : Program) (ops : Array Oper) : Bool := Region.noSelect ops && lastFromN P ops (Region.before ops) (ops.size - 1) (ops.size - 1) 0 (Array.replicate ops.size false)

def wpLexLN (P : Program) (ops : Array Oper) (C : World → Prop) (m : Nat) (R : Act → World → Prop) : List Nat → Act → World → Prop
  | [], a, w => mixOpN P ops (fun _ => True) m R a w
  | i :: r, a, w => mixOpN P ops C i (wpLexLN P ops C m R r) a w

theorem wpMixG_lexN {m : Nat} {R : Act → World → Prop} (hs : Region.noSelect ops = true) : ∀ (n k : Nat) (listed : Array Bool) (a : Act) (w : World), k + n = m → m < ops.size → C w → Shut ops listed →
    lastFromN P ops (Region.before ops) m n k listed = true → wpLexLN P ops C m R (List.range' k n) a w → wpMixGN P ops C m R n listed a w
  | 0, _, listed, a, w, _, _, _, _, hB, h => by
    simp only [lastFromN, Bool.and_eq_true, List.all_eq_true, beq_iff_eq, List.isEmpty_iff] at hB
    obtain ⟨⟨h1, h2⟩, h3⟩ := hB
    refine ⟨h2, ⟨fun h0 => ?_, fun i hi => ?_⟩⟩
    · rw [h0] at h1; simp at h1
    · rw [h2 i hi]
      exact mixOp_monoN trivial (fun a' w' _ hh => ⟨h3, hh⟩) h
  | n + 1, k, listed, a, w, hk, hlt, hC, hS, hB, h => by
    simp only [lastFromN, Bool.and_eq_true] at hB
    obtain ⟨⟨⟨hr, hf⟩, hm⟩, hB'⟩ := hB
    have hlt' : k < ops.size := by omega
    have hr' : k ∈ Region.ready .any ops listed := by simpa using hr
    refine wpMixG_firstN (i := k) (oi := ops[k]) (by simp [hlt']) (by omega) hm (Region.noSelect_spec hs) n listed a w hC hS (mixFree_specN (by simp [hlt']) hf) hr' ?_
    simp only [List.range'_succ, wpLexLN] at h
    exact mixOp_monoN hC (fun a' w' hC' hh => wpMixG_lexN hs n (k + 1) _ a' w' (by omega) hlt hC' (hS.set hr') hB' hh) h
end

section
variable {P : Program}
def vcMixLN (P : Program) (ops : List Oper) (C : World → Prop) (R : Fr → World → Prop) : (l : List Oper) → Fr → World → Ph (ops, C, R, l) → Prop
  | [], _, _, _ => False
  | [o], t, w, _ => match o.guard with
    | none => mixKN P o t w (fun _ => True) (fun v w' => R (put t o.dst v) w') .mk
    | some _ => False
  | o :: o' :: r, t, w, _ => match o.guard with
    | none => mixKN P o t w C (fun v w' => vcMixLN P ops C R (o' :: r) (put t o.dst v) w' .mk) .mk
    | some (j, want) => guardK (slotOf ops j) want t (fun t' => mixKN P o t' w C (fun v w' => vcMixLN P ops C R (o' :: r) (put t' o.dst v) w' .mk) .mk) (fun t' => vcMixLN P ops C R (o' :: r) (put t' o.dst undef) w .mk) .mk

theorem wpLexL_of_vcMixLN {ops : List Oper} {C : World → Prop} {R : Fr → World → Prop} {N : Act → World → Prop} (hn : ∀ t w, R t w → N ⟨t.toArray, []⟩ w) : ∀ (l : List Oper) (k m : Nat) (t : Fr) (w : World), (∀ j, l[j]? = ops[k + j]?) → k + l.length = m + 1 →
    vcMixLN P ops C R l t w .mk → wpLexLN P ops.toArray C m N (List.range' k (l.length - 1)) ⟨t.toArray, []⟩ w
  | [], _, _, _, _, _, _, h => h.elim
  | [o], k, m, t, w, hl, hm, h => by
    have hkm : k = m := by simpa using hm
    subst hkm
    have h0 : ops[k]? = some o := by simpa using (hl 0).symm
    simp only [vcMixLN] at h
    simp only [List.length_cons, List.length_nil, Nat.zero_add, Nat.sub_self, List.range'_zero, wpLexLN]
    split at h
    · rename_i hg
      exact mixOp_of_mixKN h0 (by simp [Region.wanted, hg]) (fun v w' hk => hn _ _ hk) h
    · exact h.elim
  | o :: o' :: r, k, m, t, w, hl, hm, h => by
    have h0 : ops[k]? = some o := by simpa using (hl 0).symm
    have ih := fun t w => wpLexL_of_vcMixLN (C := C) hn (o' :: r) (k + 1) m t w (fun j => by have := hl (j + 1); simpa [Nat.add_assoc, Nat.add_comm 1 j] using this) (by simp only [List.length_cons] at hm ⊢; omega)
    have hlen : (o :: o' :: r).length - 1 = ((o' :: r).length - 1) + 1 := by simp
    rw [hlen, List.range'_succ]
    simp only [wpLexLN]
    simp only [vcMixLN] at h
    split at h
    · rename_i hg
      exact mixOp_of_mixKN h0 (by simp [Region.wanted, hg]) (fun v w' hk => ih _ _ hk) h
    · rename_i j want hg
      rcases guard_cases hg h with ⟨hw, hh⟩ | ⟨hw, hh⟩
      · exact mixOp_of_mixKN h0 hw (fun v w' hk => ih _ _ hk) hh
      · exact mixOp_skipN h0 hw (ih _ _ hh)

/-- A region that draws its order, whose last operation waits for all others. -/
theorem wpL_lastN {id : Nat} {l : List Oper} {t : Fr} {w : World} {Q : EP} {p} (C : World → Prop) (hm : P.follows .mixedOrders = true) (hB : lastBN P l.toArray = true) (hl : l ≠ []) (hC : C w.drew)
    (h : vcMixLN P l C (Q .normal) l t w.drew .mk) : wpL P (.region id l.toArray true) Q t w p := by
  unfold wpL
  simp only [lastBN, Bool.and_eq_true] at hB
  have hpos : 0 < l.length := List.length_pos_iff.2 hl
  have hsz : l.toArray.size = (l.length - 1) + 1 := by simp; omega
  refine wp_region_any hm ?_
  have hG : wpMixGN P l.toArray C (l.length - 1) (fun a w => lift Q .normal a w) (l.length - 1) (Array.replicate l.toArray.size false) ⟨t.toArray, []⟩ w.drew := by
    refine wpMixG_lexN hB.1 _ 0 _ _ _ (by simp) (by simp; omega) hC (fun j o _ hl => by simp [Array.getElem?_replicate] at hl; split at hl <;> simp at hl) (by simpa using hB.2) ?_
    exact wpLexL_of_vcMixLN (P := P) (ops := l) (C := C) (R := Q .normal) (N := fun a w => lift Q .normal a w) (fun t w hk => ⟨rfl, by simpa using hk⟩) l 0 (l.length - 1) t w.drew (fun j => by simp) (by omega) h
  have := wpAny_of_mixGN (C := C) (R := fun a w => lift Q .normal a w) (Q := fun e a w => lift Q e a w) (fun _ _ h => h) _ _ _ _ hC hG
  rw [← hsz] at this
  exact this

variable {t : Fr} {w : World} {C : World → Prop} {K : VK} {R : Fr → World → Prop}
theorem vcMixL_oneN (ops) (d op ty pos af) (p) : vcMixLN P ops C R [⟨d, op, ty, pos, af, none⟩] t w p = mixKN P ⟨d, op, ty, pos, af, none⟩ t w (fun _ => True) (fun v w' => R (put t d v) w') .mk := (rfl)
theorem vcMixL_plainN (ops) (d op ty pos af o' r) (p) : vcMixLN P ops C R (⟨d, op, ty, pos, af, none⟩ :: o' :: r) t w p = mixKN P ⟨d, op, ty, pos, af, none⟩ t w C (fun v w' => vcMixLN P ops C R (o' :: r) (put t d v) w' .mk) .mk := (rfl)
theorem vcMixL_guardN (ops) (d op ty pos af j want o' r) (p) : vcMixLN P ops C R (⟨d, op, ty, pos, af, some (j, want)⟩ :: o' :: r) t w p =
    guardK (slotOf ops j) want t (fun t' => mixKN P ⟨d, op, ty, pos, af, some (j, want)⟩ t' w C (fun v w' => vcMixLN P ops C R (o' :: r) (put t' d v) w' .mk) .mk) (fun t' => vcMixLN P ops C R (o' :: r) (put t' d undef) w .mk) .mk := (rfl)
end
attribute [push_cast] vcMixL_oneN vcMixL_plainN vcMixL_guardN
attribute [irreducible] vcMixLN
end Go.Vc
end
