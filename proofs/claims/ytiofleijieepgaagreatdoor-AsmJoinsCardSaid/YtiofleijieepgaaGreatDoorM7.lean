/- Texts of this claim, merged: Vt, At9, AtA, Has, Two, Match. -/
import Derived.Test.YtiofleijieepgaaGreatDoorM5
import Derived.Test.YtiofleijieepgaaGreatDoorM6
import Derived.Test.YtiofleijieepgaaGreatDoorM3
import Derived.Test.YtiofleijieepgaaGreatDoorM1
section
set_option linter.unusedSimpArgs false
set_option linter.unusedVariables false
namespace Go.Vc
open Go.RowKit
/-! Regions that draw, where what makes memory may change places and nil checks float: every order is walked. -/
def ordBN (P : Program) (ops : Array Oper) (bf : Array Nat) : Nat → Ord → Array Bool → Bool
  | _, .done, listed => (Region.ready .any ops listed).isEmpty
  | n + 1, .one k r, listed => (Region.ready .any ops listed).contains k && mixFreeN P ops bf listed k && ordBN P ops bf n r (listed.setIfInBounds k true)
  | n + 1, .two k r k' r', listed => (Region.ready .any ops listed).contains k && (Region.ready .any ops listed).all (fun i => i == k || i == k') && ordBN P ops bf n r (listed.setIfInBounds k true) && ordBN P ops bf n r' (listed.setIfInBounds k' true)
  | _, _, _ => false
def mixTN (P : Program) (ops : Array Oper) (o : Ord) : Bool := Region.noSelect ops && ordBN P ops (Region.before ops) ops.size o (Array.replicate ops.size false)
section
variable {P : Program} {ops : Array Oper} {C : World → Prop}
def wpTreeN (P : Program) (ops : Array Oper) (C : World → Prop) (R : Act → World → Prop) : Ord → Act → World → Prop
  | .done, a, w => R a w
  | .one k r, a, w => mixOpN P ops C k (wpTreeN P ops C R r) a w
  | .two k r k' r', a, w => mixOpN P ops C k (wpTreeN P ops C R r) a w ∧ mixOpN P ops C k' (wpTreeN P ops C R r') a w

theorem wpMix_treeN {R : Act → World → Prop} (hs : Region.noSelect ops = true) : ∀ (o : Ord) (n : Nat) (listed : Array Bool) (a : Act) (w : World), C w → Shut ops listed →
    ordBN P ops (Region.before ops) n o listed = true → wpTreeN P ops C R o a w → wpMixN P .any ops C R n listed a w
  | .done, 0, listed, a, w, _, _, hB, h => ⟨by simpa [ordBN] using hB, h⟩
  | .done, n + 1, listed, a, w, _, _, hB, h => ⟨fun _ => h, fun i hi => by
      have : Region.ready .any ops listed = [] := by simpa [ordBN] using hB
      rw [this] at hi; cases hi⟩
  | .one k r, 0, _, _, _, _, _, hB, _ => by simp [ordBN] at hB
  | .two .., 0, _, _, _, _, _, hB, _ => by simp [ordBN] at hB
  | .one k r, n + 1, listed, a, w, hC, hS, hB, h => by
    simp only [ordBN, Bool.and_eq_true] at hB
    obtain ⟨⟨hr, hf⟩, hB'⟩ := hB
    have hr' : k ∈ Region.ready .any ops listed := by simpa using hr
    obtain ⟨_, ok, hok, _⟩ := mem_ready.1 hr'
    refine wpMix_firstN (i := k) (oi := ok) hok (Region.noSelect_spec hs) n listed a w hC hS (mixFree_specN hok hf) hr' ?_
    exact mixOp_monoN hC (fun a' w' hC' hh => wpMix_treeN hs r n _ a' w' hC' (hS.set hr') hB' hh) h
  | .two k r k' r', n + 1, listed, a, w, hC, hS, hB, h => by
    simp only [ordBN, Bool.and_eq_true, List.all_eq_true, Bool.or_eq_true, beq_iff_eq] at hB
    obtain ⟨⟨⟨hr, hall⟩, hB1⟩, hB2⟩ := hB
    have hr' : k ∈ Region.ready .any ops listed := by simpa using hr
    refine ⟨fun h0 => (by rw [h0] at hr'; cases hr'), fun i hi => ?_⟩
    rcases hall i hi with rfl | rfl
    · exact mixOp_monoN hC (fun a' w' hC' hh => wpMix_treeN hs r n _ a' w' hC' (hS.set hi) hB1 hh) h.1
    · exact mixOp_monoN hC (fun a' w' hC' hh => wpMix_treeN hs r' n _ a' w' hC' (hS.set hi) hB2 hh) h.2
end

section
variable {P : Program}
/-- One step of such an order. -/
def stepKN (P : Program) (ops : List Oper) (C : World → Prop) (o : Option Oper) (K : Fr → World → Prop) (t : Fr) (w : World) (_ : Ph (ops, C, K)) : Prop := match o with
  | none => False
  | some o => match o.guard with
    | none => mixKN P o t w C (fun v w' => K (put t o.dst v) w') .mk
    | some (j, want) => guardK (slotOf ops j) want t (fun t' => mixKN P o t' w C (fun v w' => K (put t' o.dst v) w') .mk) (fun t' => K (put t' o.dst undef) w) .mk

def vcTreeN (P : Program) (ops : List Oper) (C : World → Prop) (R : Fr → World → Prop) : (o : Ord) → Fr → World → Ph (ops, C, R) → Prop
  | .done, t, w, _ => R t w
  | .one k r, t, w, _ => stepKN P ops C ops[k]? (fun t w => vcTreeN P ops C R r t w .mk) t w .mk
  | .two k r k' r', t, w, _ => stepKN P ops C ops[k]? (fun t w => vcTreeN P ops C R r t w .mk) t w .mk ∧ stepKN P ops C ops[k']? (fun t w => vcTreeN P ops C R r' t w .mk) t w .mk

theorem mixOp_of_stepKN {ops : List Oper} {C : World → Prop} {K : Fr → World → Prop} {N : Act → World → Prop} (hn : ∀ t w, K t w → N ⟨t.toArray, []⟩ w) {k : Nat} {t : Fr} {w : World} (h : stepKN P ops C ops[k]? K t w .mk) : mixOpN P ops.toArray C k N ⟨t.toArray, []⟩ w := by
  unfold stepKN at h
  split at h
  · exact h.elim
  · rename_i o h0
    split at h
    · rename_i hg
      exact mixOp_of_mixKN h0 (by simp [Region.wanted, hg]) (fun v w' hk => hn _ _ hk) h
    · rename_i j want hg
      rcases guard_cases hg h with ⟨hw, hh⟩ | ⟨hw, hh⟩
      · exact mixOp_of_mixKN h0 hw (fun v w' hk => hn _ _ hk) hh
      · exact mixOp_skipN h0 hw (hn _ _ hh)

theorem wpTree_of_vcTreeN {ops : List Oper} {C : World → Prop} {R : Fr → World → Prop} {N : Act → World → Prop} (hn : ∀ t w, R t w → N ⟨t.toArray, []⟩ w) : ∀ (o : Ord) (t : Fr) (w : World),
    vcTreeN P ops C R o t w .mk → wpTreeN P ops.toArray C N o ⟨t.toArray, []⟩ w
  | .done, t, w, h => hn t w h
  | .one k r, t, w, h => mixOp_of_stepKN (fun t w => wpTree_of_vcTreeN hn r t w) h
  | .two k r k' r', t, w, h => ⟨mixOp_of_stepKN (fun t w => wpTree_of_vcTreeN hn r t w) h.1, mixOp_of_stepKN (fun t w => wpTree_of_vcTreeN hn r' t w) h.2⟩

/-- A region that draws its order, walked in the orders that matter. -/
theorem wpL_treeN {id : Nat} {l : List Oper} {t : Fr} {w : World} {Q : EP} {p} (o : Ord) (C : World → Prop) (hm : P.follows .mixedOrders = true) (hB : mixTN P l.toArray o = true) (hC : C w.drew)
    (h : vcTreeN P l C (Q .normal) o t w.drew .mk) : wpL P (.region id l.toArray true) Q t w p := by
  unfold wpL
  simp only [mixTN, Bool.and_eq_true] at hB
  refine wp_region_any hm (wpAny_of_mixN (C := C) (R := fun a w => lift Q .normal a w) (fun _ _ h => h) _ _ _ _ hC ?_)
  refine wpMix_treeN hB.1 o _ _ _ _ hC (fun j o _ hl => by simp [Array.getElem?_replicate] at hl; split at hl <;> simp at hl) hB.2 ?_
  exact wpTree_of_vcTreeN (R := Q .normal) (fun t w hk => ⟨rfl, by simpa using hk⟩) o t w.drew h
end
section
variable {P : Program} {t : Fr} {w : World} {C : World → Prop} {K : Fr → World → Prop} {R : Fr → World → Prop}
theorem vcTree_doneN (ops) (p) : vcTreeN P ops C R .done t w p = R t w := (rfl)
theorem vcTree_oneN (ops k r) (p) : vcTreeN P ops C R (.one k r) t w p = stepKN P ops C ops[k]? (fun t w => vcTreeN P ops C R r t w .mk) t w .mk := (rfl)
theorem vcTree_twoN (ops k r k' r') (p) : vcTreeN P ops C R (.two k r k' r') t w p = (stepKN P ops C ops[k]? (fun t w => vcTreeN P ops C R r t w .mk) t w .mk ∧ stepKN P ops C ops[k']? (fun t w => vcTreeN P ops C R r' t w .mk) t w .mk) := (rfl)
theorem stepK_plainN (ops) (d op ty pos af) (p) : stepKN P ops C (some ⟨d, op, ty, pos, af, none⟩) K t w p = mixKN P ⟨d, op, ty, pos, af, none⟩ t w C (fun v w' => K (put t d v) w') .mk := (rfl)
theorem stepK_guardN (ops) (d op ty pos af j want) (p) : stepKN P ops C (some ⟨d, op, ty, pos, af, some (j, want)⟩) K t w p =
    guardK (slotOf ops j) want t (fun t' => mixKN P ⟨d, op, ty, pos, af, some (j, want)⟩ t' w C (fun v w' => K (put t' d v) w') .mk) (fun t' => K (put t' d undef) w) .mk := (rfl)
end
attribute [push_cast] vcTree_doneN vcTree_oneN vcTree_twoN stepK_plainN stepK_guardN
attribute [irreducible] vcTreeN stepKN
end Go.Vc
end
section
namespace Go.Proofs.YtiofleijieepgaaGreatDoor
open Go.Vc Go.Proofs Go.RowKit Cae
set_option maxRecDepth 100000
set_option linter.unusedSimpArgs false
set_option linter.unusedVariables false
attribute [local irreducible] wpL callK valK unitK runK Fun Sl Vc.Own vc vcOps opK pureK
set_option maxHeartbeats 4000000
theorem Rd.kept {rb : Nat} {X Y : Nat → Prop} {w w' : World} {l : List (List UInt8)} (h : Rd rb X w l) (hk : Kept Y w w') (hY : ∀ i, Y i → X i) (hr : ¬ Y rb) : Rd rb X w' l := by
  obtain ⟨v, h1, h2⟩ := h.st
  exact ⟨⟨v, h1.kept hk hr, h2.kept hk hY⟩, h.self, h.txt, h.len⟩
theorem Rd.fresh {rb : Nat} {X X' : Nat → Prop} {w : World} {l : List (List UInt8)} (h : Rd rb X w l) (hX : ∀ b, X' b → X b ∨ w.heap.size ≤ b) (hs : X' rb) : Rd rb X' w l := by
  obtain ⟨v, h1, h2⟩ := h.st
  exact ⟨⟨v, h1, h2.fresh (fun _ => by simp [encS]) hX⟩, hs, h.txt, h.len⟩
theorem Rd.lt {rb : Nat} {X : Nat → Prop} {w : World} {l : List (List UInt8)} (h : Rd rb X w l) : rb < w.heap.size := by
  obtain ⟨v, h1, _⟩ := h.st
  exact h1.lt
theorem Rd.weaken {rb : Nat} {X X' : Nat → Prop} {w : World} {l : List (List UInt8)} (h : Rd rb X w l) (hX : ∀ b, X' b → X b) (hs : X' rb) : Rd rb X' w l := h.fresh (fun b hb => .inl (hX b hb)) hs
/-- What the world's variables are. -/
structure Vs (w : World) : Prop where
  d : Db w
  e : SErrs w
  p : Pw w
  n : Nms w
  m : Mx w
theorem Vs.below {B : Nat} {w w' : World} (h : Vs w) (hb : Below B w w') (hB : 14 ≤ B) : Vs w' := by
  obtain ⟨⟨t1, p1, h1⟩, ⟨t2, p2, h2⟩⟩ := h.e
  obtain ⟨m, hm⟩ := h.m
  exact ⟨h.d.kept' hb hB, ⟨⟨t1, p1, (hb.cell (Nat.lt_of_lt_of_le (by decide) hB)).trans h1⟩, ⟨t2, p2, (hb.cell (Nat.lt_of_lt_of_le (by decide) hB)).trans h2⟩⟩, h.p.below hb hB, h.n.below hb hB, ⟨m, (hb.cell (Nat.lt_of_lt_of_le (by decide) hB)).trans hm⟩⟩
/-- How many lines a reader has. -/
def linesOf (rb : Nat) (w : World) : Nat := match w.cell? ⟨rb, 0, none⟩ with
  | some (.slice _ n _) => n
  | _ => 0
theorem Rd.lines {rb : Nat} {X : Nat → Prop} {w : World} {l : List (List UInt8)} (h : Rd rb X w l) : linesOf rb w = l.length := by
  obtain ⟨v, h1, h2⟩ := h.st
  obtain ⟨a, c, rfl, _⟩ := h2.shape
  have := h1.cell (o := 0) rfl
  unfold linesOf
  rw [this]
/-- Code that was read, as a value. -/
theorem Cd.done {B cb : Nat} {X : Nat → Prop} {w : World} {c : CodeP} (h : Cd B cb X w c) (hX : ∀ b, X b → b < B) : ∃ x0 x1 x2 x3, Blk w cb 43 [.slice x0 c.sets.length x1, .slice x2 c.ins.length x3] ∧
    ∀ w', Put w w' cb 43 [.slice x0 c.sets.length x1, .slice x2 c.ins.length x3] → CodeV X w' (.agg #[.slice x0 c.sets.length x1, .slice x2 c.ins.length x3]) c := by
  obtain ⟨sv, iv, us, hB, hO1, hO2, hul, hs1, hs2, hs3, hus⟩ := h.st
  obtain ⟨x0, x1, rfl⟩ := hO1.slice
  obtain ⟨x2, x3, rfl⟩ := hO2.slice
  rw [hul] at hB hO1 hs1 hs3 hus
  refine ⟨x0, x1, x2, x3, hB, fun w' hp => ⟨_, _, rfl, SetsV.of_values hul ?_ (fun i u s h1 h2 => ?_), ?_⟩⟩
  · have hO := hO1.keptX hp.kept (fun g hg hh => hs1 (by rw [hg, hh]))
    rw [← hul]
    rw [← hul] at hO
    exact hO.sl.weaken (fun b hb => hX b hb)
  · exact ((hus i u s h1 h2).kept hp.kept (fun i hi => .inr (.inl hi))).weaken (fun b hb => .inl hb)
  · exact (hO2.keptX hp.kept (fun g hg hh => hs2 (by rw [hg, hh]))).sl.weaken (fun b hb => hX b hb)
/-- A block of the class is written. -/
theorem Cd.other {B cb rb : Nat} {X : Nat → Prop} {w w' : World} {c : CodeP} (h : Cd B cb X w c) (hk : Kept (· = rb) w w') (hX : ∀ b, b = rb → X b) (hr : rb < cb) : Cd B cb X w' c := by
  obtain ⟨sv, iv, us, hB, hO1, hO2, hul, hs1, hs2, hs3, hus⟩ := h.st
  have hl := h.lt
  exact ⟨⟨sv, iv, us, hB.kept hk (by omega), hO1.keptX hk (fun g hg hh => by have := (hO1.block g hg).1; omega), hO2.keptX hk (fun g hg hh => by have := (hO2.block g hg).1; omega), hul, hs1, hs2, hs3, fun i u s h1 h2 => (hus i u s h1 h2).kept hk (fun i hi => .inl (hX i hi))⟩, h.lt, Nat.le_trans h.le hk.size, h.few⟩
/-- What the reader's code answers. -/
def CodeA (B : Nat) (l l' : List (List UInt8)) (r : Value) (w : World) : Prop :=
  ∃ (a1 : Option Addr) (n1 c1 : Nat) (a2 : Option Addr) (n2 c2 : Nat) (is : Bool), r = .tuple #[.agg #[.slice a1 n1 c1, .slice a2 n2 c2], .bool is] ∧ ((∃ c, is = true ∧ codeA ⟨[], []⟩ l = .ok (c, l') ∧ CodeV (· < B) w (.agg #[.slice a1 n1 c1, .slice a2 n2 c2]) c) ∨ (is = false ∧ codeA ⟨[], []⟩ l = .error l'.length))
theorem readCode_c (l : List (List UInt8)) {rb : Nat} {X : Nat → Prop} {w : World} (h : Rd rb X w l) (hv : Vs w) (hg : 14 ≤ rb) :
    Fun Tryz.prog 29 [.pointer (some ⟨rb, 0, none⟩)] w fun r w' => ∃ l', Rd rb X w' l' ∧ CodeA w.heap.size l l' r w' ∧ Kept (fun i => i = rb ∨ w.heap.size ≤ i) w w' := by
  have hll := h.len
  have hrb := h.lt
  refine fun_of_vcC Tryz.func29 rfl (by kernel_rfl) [.cell 2 43, .tmp 3] rfl ?_
  simp -dsimp (maxSteps := 4000000) only [push_cast, fr0, Tryz.ntmps29, List.length_cons, List.length_nil, Nat.reduceAdd, Nat.reduceSub, Nat.reduceBEq, List.replicate_succ, List.replicate_zero]
  refine allocK (z := [.slice none 0 0, .slice none 0 0]) (by kernel_rfl) ?_
  intro w1 hw1
  have z1 := hw1.size
  have hX : ∃ X1 : Nat → Prop, X1 = (fun b => X b ∨ w.heap.size ≤ b) := ⟨_, rfl⟩
  obtain ⟨X1, hX1⟩ := hX
  have hR1 : Rd rb X1 w1 l := (h.fresh (X' := X1) (fun b hb => by rw [hX1] at hb; exact hb) (by rw [hX1]; exact .inl h.self)).kept (Kept.new hw1 (X := fun _ => False)) (fun _ h => h.elim) id
  have hC1 : Cd (w.heap.size + 1) w.heap.size (· < w.heap.size) w1 ⟨[], []⟩ := ⟨⟨.slice none 0 0, .slice none 0 0, [], hw1.blk, Vc.Own.nil (enc := encSV) _ _ (fun _ => rfl) _, Vc.Own.nil (enc := encIn) _ _ (fun _ => rfl) _, rfl, by simp [Value.ownBlock], by simp [Value.ownBlock], by simp [Value.ownBlock], fun i u s h1 h2 => by simp at h1⟩, by omega, by omega, fun s hs => by cases hs⟩
  simp -dsimp only [push_cast, Nat.reduceAdd, Nat.reduceLeDiff, Nat.reduceBEq, decide_true, ne_eq, eq_self, not_true_eq_false, not_false_eq_true, true_imp_iff, false_imp_iff, Int.reduceNe, Int.reduceEq, Int.reduceLT, Int.reduceLE, Bool.not_true, Bool.not_false]
  refine wpL_loop [3, 4, 5, 6, 7, 8, 9, 10, 11, 12, 13, 14, 15, 16, 17, 18, 19, 20, 21, 22, 23, 24, 25, 26, 27, 28, 29, 30, 31, 32, 33, 34, 35, 36, 37, 38, 39, 40, 41, 42, 43, 44, 45, 46, 47, 48, 49, 50, 51, 52, 53, 54, 55] (fun z wx => ∃ (c : CodeP) (lc : List (List UInt8)), codeA c lc = codeA ⟨[], []⟩ l ∧ Cd (w.heap.size + 1) w.heap.size (· < w.heap.size) wx c ∧ Rd rb X1 wx lc ∧ Few c ∧ c.ins.length + lc.length = l.length ∧ Kept (fun i => i = rb ∨ w.heap.size ≤ i) w wx) (fun _ wx => linesOf rb wx) ?_ ?_
  · exact ⟨⟨[], []⟩, l, rfl, hC1, hR1, few_nil, by simp, Kept.new hw1⟩
  · intro z wx hI
    obtain ⟨c, lc, hcl, hC, hR, hF, hN, hK⟩ := hI
    have zx := hK.size
    cases lc with
    | nil =>
      have hR0 := hR
      obtain ⟨v, h1, h2⟩ := hR0.st
      obtain ⟨va, vc, rfl, hvc⟩ := h2.shape
      have cb : wx.cell? ⟨rb, 0, none⟩ = some (.slice va 0 vc) := h1.cell rfl
      simp -dsimp only [push_cast, Nat.reduceAdd, Nat.reduceLeDiff, Nat.reduceBEq, decide_true, ne_eq, eq_self, not_true_eq_false, not_false_eq_true, true_imp_iff, false_imp_iff, Int.reduceNe, Int.reduceEq, Int.reduceLT, Int.reduceLE, Bool.not_true, Bool.not_false, cb]
      -- wx: the world; hR: the reader there; ([] : List (List UInt8)): the lines; hC: Cd; hK: Kept from w
      have hfin := (hC).done (fun b hb => by omega)
      obtain ⟨x0, x1, x2, x3, hBz, hfin⟩ := hfin
      have c2 : cellsAt (wx) ⟨w.heap.size, 0, none⟩ 0 2 = some [.slice x0 c.sets.length x1, .slice x2 c.ins.length x3] := hBz.cellsAt
      simp -dsimp only [push_cast, Nat.reduceAdd, Nat.reduceLeDiff, Nat.reduceBEq, decide_true, ne_eq, eq_self, not_true_eq_false, not_false_eq_true, true_imp_iff, false_imp_iff, Int.reduceNe, Int.reduceEq, Int.reduceLT, Int.reduceLE, Bool.not_true, Bool.not_false, c2]
      refine storeAgg (n := 2) (by kernel_rfl) hBz rfl (by simp) (by simp [Value.oneCell']) ?_
      intro wz hwz
      have c3 : cellsAt wz ⟨w.heap.size, 0, none⟩ 0 2 = some [.slice x0 c.sets.length x1, .slice x2 c.ins.length x3] := hwz.blk.cellsAt
      have hkz := hwz.kept
      have hvz := hfin wz hwz
      simp -dsimp only [push_cast, Nat.reduceAdd, Nat.reduceLeDiff, Nat.reduceBEq, decide_true, ne_eq, eq_self, not_true_eq_false, not_false_eq_true, true_imp_iff, false_imp_iff, Int.reduceNe, Int.reduceEq, Int.reduceLT, Int.reduceLE, Bool.not_true, Bool.not_false, c3]
      exact ⟨_, ((hR).kept hkz (fun i hi => by rw [hX1]; exact .inr (by omega)) (by omega)).weaken (fun b hb => by rw [hX1]; exact .inl hb) h.self, ⟨_, _, _, _, _, _, _, rfl, .inl ⟨c, rfl, by rw [← hcl]; exact rfl, hvz⟩⟩, (hK).trans hkz (fun i _ hi => .inr (by omega))⟩
    | cons t r =>
      obtain ⟨b, o, k, hB, hk, hcell⟩ := hR.hd
      have cb : wx.cell? ⟨rb, 0, none⟩ = some (.slice (some ⟨b, o, none⟩) (r.length + 1) k) := hB.cell rfl
      have htx := hR.txt t List.mem_cons_self
      simp -dsimp only [push_cast, Nat.reduceAdd, Nat.reduceLeDiff, Nat.reduceBEq, decide_true, ne_eq, eq_self, not_true_eq_false, not_false_eq_true, true_imp_iff, false_imp_iff, Int.reduceNe, Int.reduceEq, Int.reduceLT, Int.reduceLE, Bool.not_true, Bool.not_false, cb, hcell]
      refine ⟨fun _ => ⟨by omega, fun hne => ⟨by omega, ?_⟩, fun heq => ?_⟩, fun h0 => by omega⟩
      · refine callK_of (hasPre_c t [114, 117, 108, 101, 32] wx) ?_
        rintro _ wy ⟨rfl, hwe⟩
        obtain rfl : wx = wy := hwe.symm
        cases hpr : ([114, 117, 108, 101, 32] : List UInt8).isPrefixOf t with
        | true =>
          have hst : codeA c (t :: r) = .ok (c, t :: r) := by
            rw [codeA, if_pos]
            unfold stopA
            rw [show ruleW.isPrefixOf t = true from hpr]
            simp
          simp -dsimp only [push_cast, Nat.reduceAdd, Nat.reduceLeDiff, Nat.reduceBEq, decide_true, ne_eq, eq_self, not_true_eq_false, not_false_eq_true, true_imp_iff, false_imp_iff, Int.reduceNe, Int.reduceEq, Int.reduceLT, Int.reduceLE, Bool.not_true, Bool.not_false]
          -- wx: the world; hR: the reader there; (t :: r): the lines; hC: Cd; hK: Kept from w
          have hfin := (hC).done (fun b hb => by omega)
          obtain ⟨x0, x1, x2, x3, hBz, hfin⟩ := hfin
          have c2 : cellsAt (wx) ⟨w.heap.size, 0, none⟩ 0 2 = some [.slice x0 c.sets.length x1, .slice x2 c.ins.length x3] := hBz.cellsAt
          simp -dsimp only [push_cast, Nat.reduceAdd, Nat.reduceLeDiff, Nat.reduceBEq, decide_true, ne_eq, eq_self, not_true_eq_false, not_false_eq_true, true_imp_iff, false_imp_iff, Int.reduceNe, Int.reduceEq, Int.reduceLT, Int.reduceLE, Bool.not_true, Bool.not_false, c2]
          refine storeAgg (n := 2) (by kernel_rfl) hBz rfl (by simp) (by simp [Value.oneCell']) ?_
          intro wz hwz
          have c3 : cellsAt wz ⟨w.heap.size, 0, none⟩ 0 2 = some [.slice x0 c.sets.length x1, .slice x2 c.ins.length x3] := hwz.blk.cellsAt
          have hkz := hwz.kept
          have hvz := hfin wz hwz
          simp -dsimp only [push_cast, Nat.reduceAdd, Nat.reduceLeDiff, Nat.reduceBEq, decide_true, ne_eq, eq_self, not_true_eq_false, not_false_eq_true, true_imp_iff, false_imp_iff, Int.reduceNe, Int.reduceEq, Int.reduceLT, Int.reduceLE, Bool.not_true, Bool.not_false, c3]
          exact ⟨_, ((hR).kept hkz (fun i hi => by rw [hX1]; exact .inr (by omega)) (by omega)).weaken (fun b hb => by rw [hX1]; exact .inl hb) h.self, ⟨_, _, _, _, _, _, _, rfl, .inl ⟨c, rfl, by rw [← hcl]; exact hst, hvz⟩⟩, (hK).trans hkz (fun i _ hi => .inr (by omega))⟩
        | false =>
          simp -dsimp only [push_cast, Nat.reduceAdd, Nat.reduceLeDiff, Nat.reduceBEq, decide_true, ne_eq, eq_self, not_true_eq_false, not_false_eq_true, true_imp_iff, false_imp_iff, Int.reduceNe, Int.reduceEq, Int.reduceLT, Int.reduceLE, Bool.not_true, Bool.not_false, cb, hcell]
          refine ⟨by omega, ?_⟩
          refine callK_of (hasPre_c t [101, 108, 115, 101, 32] wx) ?_
          rintro _ wy ⟨rfl, hwe⟩
          obtain rfl : wx = wy := hwe.symm
          cases hpe : ([101, 108, 115, 101, 32] : List UInt8).isPrefixOf t with
          | true =>
            have hst : codeA c (t :: r) = .ok (c, t :: r) := by
              rw [codeA, if_pos]
              unfold stopA
              rw [show elseW.isPrefixOf t = true from hpe]
              simp
            simp -dsimp only [push_cast, Nat.reduceAdd, Nat.reduceLeDiff, Nat.reduceBEq, decide_true, ne_eq, eq_self, not_true_eq_false, not_false_eq_true, true_imp_iff, false_imp_iff, Int.reduceNe, Int.reduceEq, Int.reduceLT, Int.reduceLE, Bool.not_true, Bool.not_false]
            -- wx: the world; hR: the reader there; (t :: r): the lines; hC: Cd; hK: Kept from w
            have hfin := (hC).done (fun b hb => by omega)
            obtain ⟨x0, x1, x2, x3, hBz, hfin⟩ := hfin
            have c2 : cellsAt (wx) ⟨w.heap.size, 0, none⟩ 0 2 = some [.slice x0 c.sets.length x1, .slice x2 c.ins.length x3] := hBz.cellsAt
            simp -dsimp only [push_cast, Nat.reduceAdd, Nat.reduceLeDiff, Nat.reduceBEq, decide_true, ne_eq, eq_self, not_true_eq_false, not_false_eq_true, true_imp_iff, false_imp_iff, Int.reduceNe, Int.reduceEq, Int.reduceLT, Int.reduceLE, Bool.not_true, Bool.not_false, c2]
            refine storeAgg (n := 2) (by kernel_rfl) hBz rfl (by simp) (by simp [Value.oneCell']) ?_
            intro wz hwz
            have c3 : cellsAt wz ⟨w.heap.size, 0, none⟩ 0 2 = some [.slice x0 c.sets.length x1, .slice x2 c.ins.length x3] := hwz.blk.cellsAt
            have hkz := hwz.kept
            have hvz := hfin wz hwz
            simp -dsimp only [push_cast, Nat.reduceAdd, Nat.reduceLeDiff, Nat.reduceBEq, decide_true, ne_eq, eq_self, not_true_eq_false, not_false_eq_true, true_imp_iff, false_imp_iff, Int.reduceNe, Int.reduceEq, Int.reduceLT, Int.reduceLE, Bool.not_true, Bool.not_false, c3]
            exact ⟨_, ((hR).kept hkz (fun i hi => by rw [hX1]; exact .inr (by omega)) (by omega)).weaken (fun b hb => by rw [hX1]; exact .inl hb) h.self, ⟨_, _, _, _, _, _, _, rfl, .inl ⟨c, rfl, by rw [← hcl]; exact hst, hvz⟩⟩, (hK).trans hkz (fun i _ hi => .inr (by omega))⟩
          | false =>
            have hns : codeA c (t :: r) = match instA c t with
              | none => .error (r.length + 1)
              | some c' => codeA c' r := by
              rw [codeA, if_neg]
              · cases instA c t <;> rfl
              · unfold stopA
                rw [show ruleW.isPrefixOf t = false from hpr, show elseW.isPrefixOf t = false from hpe]
                simpa [afterW] using hne
            have hbx : Below 14 w wx := hK.below (by omega) (fun i hi => by omega)
            have hvx := hv.below hbx (Nat.le_refl _)
            have hF1 := hF.1
            rw [List.length_cons] at hN
            simp -dsimp only [push_cast, Nat.reduceAdd, Nat.reduceLeDiff, Nat.reduceBEq, decide_true, ne_eq, eq_self, not_true_eq_false, not_false_eq_true, true_imp_iff, false_imp_iff, Int.reduceNe, Int.reduceEq, Int.reduceLT, Int.reduceLE, Bool.not_true, Bool.not_false, cb, hcell]
            refine ⟨by omega, ?_⟩
            refine callK_of (inst_c (w.heap.size + 1) w.heap.size (· < w.heap.size) c t htx (by omega) (by omega) wx hC (fun b hb => by omega) hvx.d hvx.e hvx.p hvx.n (by omega)) ?_
            rintro _ wy ⟨rfl, hyes, ⟨cy, hCy0⟩, hky⟩
            have hRy := hR.kept hky (fun i hi => by rw [hX1]; exact .inr (by omega)) (by omega)
            have hKy : Kept (fun i => i = rb ∨ w.heap.size ≤ i) w wy := hK.trans hky (fun i _ hi => .inr (by omega))
            cases hi : instA c t with
            | none =>
              have hfin := hCy0.done (fun b hb => by omega)
              obtain ⟨x0, x1, x2, x3, hBz, _⟩ := hfin
              have c2 : cellsAt wy ⟨w.heap.size, 0, none⟩ 0 2 = some [.slice x0 cy.sets.length x1, .slice x2 cy.ins.length x3] := hBz.cellsAt
              simp -dsimp only [push_cast, Nat.reduceAdd, Nat.reduceLeDiff, Nat.reduceBEq, decide_true, ne_eq, eq_self, not_true_eq_false, not_false_eq_true, true_imp_iff, false_imp_iff, Int.reduceNe, Int.reduceEq, Int.reduceLT, Int.reduceLE, Bool.not_true, Bool.not_false, c2, Option.isSome_none]
              refine storeAgg (n := 2) (by kernel_rfl) hBz rfl (by simp) (by simp [Value.oneCell']) ?_
              intro wz hwz
              have c3 : cellsAt wz ⟨w.heap.size, 0, none⟩ 0 2 = some [.slice x0 cy.sets.length x1, .slice x2 cy.ins.length x3] := hwz.blk.cellsAt
              have hkz := hwz.kept
              simp -dsimp only [push_cast, Nat.reduceAdd, Nat.reduceLeDiff, Nat.reduceBEq, decide_true, ne_eq, eq_self, not_true_eq_false, not_false_eq_true, true_imp_iff, false_imp_iff, Int.reduceNe, Int.reduceEq, Int.reduceLT, Int.reduceLE, Bool.not_true, Bool.not_false, c3]
              exact ⟨_, (hRy.kept hkz (fun i hi => by rw [hX1]; exact .inr (by omega)) (by omega)).weaken (fun b hb => by rw [hX1]; exact .inl hb) h.self, ⟨_, _, _, _, _, _, _, rfl, .inr ⟨rfl, by rw [← hcl, hns, hi]; rfl⟩⟩, hKy.trans hkz (fun i _ hi => .inr (by omega))⟩
            | some c' =>
              have hCy := hyes c' hi
              obtain ⟨b', o', k', hB', hk', hcell'⟩ := hRy.hd
              have cb' : wy.cell? ⟨rb, 0, none⟩ = some (.slice (some ⟨b', o', none⟩) (r.length + 1) k') := hB'.cell rfl
              simp -dsimp only [push_cast, Nat.reduceAdd, Nat.reduceLeDiff, Nat.reduceBEq, decide_true, ne_eq, eq_self, not_true_eq_false, not_false_eq_true, true_imp_iff, false_imp_iff, Int.reduceNe, Int.reduceEq, Int.reduceLT, Int.reduceLE, Bool.not_true, Bool.not_false, cb', sliceOne, Option.isSome_some]
              refine ⟨hk', ?_⟩
              refine storeK_of hB' (by simp) rfl ?_
              intro wz hwz
              have hps := hRy.pop hB' hwz
              have hkz := hwz.kept
              have hCz : Cd (w.heap.size + 1) w.heap.size (· < w.heap.size) wz c' := hCy.other hkz (fun b hb => by omega) (by omega)
              have hfz := instA_grow hi hF
              simp -dsimp only [push_cast, Nat.reduceAdd, Nat.reduceLeDiff, Nat.reduceBEq, decide_true, ne_eq, eq_self, not_true_eq_false, not_false_eq_true, true_imp_iff, false_imp_iff, Int.reduceNe, Int.reduceEq, Int.reduceLT, Int.reduceLE, Bool.not_true, Bool.not_false]
              refine ⟨⟨c', r, by rw [← hcl, hns, hi], hCz, hps, hfz.1, by omega, hKy.trans hkz (fun i _ hi => .inl hi)⟩, ?_⟩
              rw [hps.lines, hR.lines, List.length_cons]
              omega
      · have heq := Classical.not_not.1 heq
        subst heq
        have hst : codeA c ([97, 102, 116, 101, 114] :: r) = .ok (c, [97, 102, 116, 101, 114] :: r) := by
          rw [codeA, if_pos]
          decide
        -- wx: the world; hR: the reader there; ([97, 102, 116, 101, 114] :: r): the lines; hC: Cd; hK: Kept from w
        have hfin := (hC).done (fun b hb => by omega)
        obtain ⟨x0, x1, x2, x3, hBz, hfin⟩ := hfin
        have c2 : cellsAt (wx) ⟨w.heap.size, 0, none⟩ 0 2 = some [.slice x0 c.sets.length x1, .slice x2 c.ins.length x3] := hBz.cellsAt
        simp -dsimp only [push_cast, Nat.reduceAdd, Nat.reduceLeDiff, Nat.reduceBEq, decide_true, ne_eq, eq_self, not_true_eq_false, not_false_eq_true, true_imp_iff, false_imp_iff, Int.reduceNe, Int.reduceEq, Int.reduceLT, Int.reduceLE, Bool.not_true, Bool.not_false, c2]
        refine storeAgg (n := 2) (by kernel_rfl) hBz rfl (by simp) (by simp [Value.oneCell']) ?_
        intro wz hwz
        have c3 : cellsAt wz ⟨w.heap.size, 0, none⟩ 0 2 = some [.slice x0 c.sets.length x1, .slice x2 c.ins.length x3] := hwz.blk.cellsAt
        have hkz := hwz.kept
        have hvz := hfin wz hwz
        simp -dsimp only [push_cast, Nat.reduceAdd, Nat.reduceLeDiff, Nat.reduceBEq, decide_true, ne_eq, eq_self, not_true_eq_false, not_false_eq_true, true_imp_iff, false_imp_iff, Int.reduceNe, Int.reduceEq, Int.reduceLT, Int.reduceLE, Bool.not_true, Bool.not_false, c3]
        exact ⟨_, ((hR).kept hkz (fun i hi => by rw [hX1]; exact .inr (by omega)) (by omega)).weaken (fun b hb => by rw [hX1]; exact .inl hb) h.self, ⟨_, _, _, _, _, _, _, rfl, .inl ⟨c, rfl, by rw [← hcl]; exact hst, hvz⟩⟩, (hK).trans hkz (fun i _ hi => .inr (by omega))⟩
/-- What fail answers. -/
def FailR (B : Nat) (n : Int) (r : Value) (w : World) : Prop := ∃ b, B ≤ b ∧ r = .tuple #[.agg #[.slice none 0 0, .bool false], .iface 67 (.pointer (some ⟨b, 0, none⟩))] ∧ Blk w b 68 [.int .i64 3, .int .i64 n]
theorem failA_c (n : Nat) (hn : n < 1000000000) (a : Option Addr) (k ab qb : Nat) {rb : Nat} {X : Nat → Prop} {w : World} {l : List (List UInt8)} (h : Rd rb X w l) (hA : w.cell? ⟨ab, 0, none⟩ = some (.slice a n k)) (hQ : w.cell? ⟨qb, 0, none⟩ = some (.pointer (some ⟨rb, 0, none⟩))) :
    Fun Tryz.prog 26 [.pointer (some ⟨ab, 0, none⟩), .pointer (some ⟨qb, 0, none⟩)] w fun r w' => FailR w.heap.size ((n : Int) - l.length) r w' ∧ Below w.heap.size w w' := by
  have hll := h.len
  obtain ⟨v, h1, h2⟩ := h.st
  obtain ⟨va, vc, rfl, hvc⟩ := h2.shape
  have cb : w.cell? ⟨rb, 0, none⟩ = some (.slice va l.length vc) := h1.cell rfl
  refine fun_of_vcC Tryz.func26 rfl (by kernel_rfl) [.cell 2 24, .tmp 3] rfl ?_
  simp -dsimp (maxSteps := 4000000) only [push_cast, fr0, Tryz.ntmps26, List.length_cons, List.length_nil, Nat.reduceAdd, Nat.reduceSub, Nat.reduceBEq, List.replicate_succ, List.replicate_zero]
  refine allocK (z := [.slice none 0 0, .bool false]) (by kernel_rfl) ?_
  intro w1 hw1
  have z1 := hw1.size
  simp -dsimp only [push_cast, Nat.reduceAdd, Nat.reduceLeDiff, Nat.reduceBEq, decide_true, ne_eq, eq_self, not_true_eq_false, not_false_eq_true, true_imp_iff, false_imp_iff, Int.reduceNe, Int.reduceEq, Int.reduceLT, Int.reduceLE, Bool.not_true, Bool.not_false]
  have hlt : ab < w.heap.size := World.block_lt_of_cell? w _ hA
  have hlt2 : qb < w.heap.size := World.block_lt_of_cell? w _ hQ
  have hrl := h1.lt
  have hb1 := hw1.below
  have a1 : w1.cell? ⟨ab, 0, none⟩ = some (.slice a n k) := (hb1.cell hlt).trans hA
  have q1 : w1.cell? ⟨qb, 0, none⟩ = some (.pointer (some ⟨rb, 0, none⟩)) := (hb1.cell hlt2).trans hQ
  have r1 : w1.cell? ⟨rb, 0, none⟩ = some (.slice va l.length vc) := (hb1.cell hrl).trans cb
  refine wpL_treeN (.one 0 (.one 1 (.one 2 (.one 3 (.one 4 (.one 5 (.one 6 (.one 7 (.one 8 (.one 9 (.two 10 (.one 11 (.one 12 (.one 13 .done))) 12 (.one 10 (.one 11 (.one 13 .done)))))))))))))) (fun w' => w'.cell? ⟨ab, 0, none⟩ = some (.slice a n k) ∧ w'.cell? ⟨qb, 0, none⟩ = some (.pointer (some ⟨rb, 0, none⟩)) ∧ w'.cell? ⟨rb, 0, none⟩ = some (.slice va l.length vc)) mixed (by kernel_rfl) ⟨a1, q1, r1⟩ ?_
  have a2 : w1.drew.cell? ⟨ab, 0, none⟩ = some (.slice a n k) := a1
  have q2 : w1.drew.cell? ⟨qb, 0, none⟩ = some (.pointer (some ⟨rb, 0, none⟩)) := q1
  have r2 : w1.drew.cell? ⟨rb, 0, none⟩ = some (.slice va l.length vc) := r1
  simp -dsimp only [push_cast, Nat.reduceAdd, Nat.reduceLeDiff, Nat.reduceBEq, decide_true, ne_eq, eq_self, not_true_eq_false, not_false_eq_true, true_imp_iff, false_imp_iff, Int.reduceNe, Int.reduceEq, Int.reduceLT, Int.reduceLE, Bool.not_true, Bool.not_false, a2, q2, r2]
  refine ⟨fun w'' h => by rw [h.1]; exact rfl, fun w'' h => by rw [h.2.1]; exact rfl, fun w'' h => by rw [h.2.2]; exact rfl, ⟨by omega, by omega⟩, ?_, ?_⟩
  · refine boxK_of ?_
    intro w2 hw2
    have z2 : w2.heap.size = w1.heap.size + 1 := hw2.size
    have hw2 : New w1.drew w2 68 [.int .i64 3, .int .i64 ((n : Int) - l.length)] := hw2
    have hb2 : Below w1.heap.size w1 w2 := (below_drewA w1).trans hw2.below
    have A2 := (hb2.cell (p := ⟨ab, 0, none⟩) (by show ab < _; omega)).trans a1
    have Q2 := (hb2.cell (p := ⟨qb, 0, none⟩) (by show qb < _; omega)).trans q1
    have R2 := (hb2.cell (p := ⟨rb, 0, none⟩) (by show rb < _; omega)).trans r1
    refine ⟨⟨A2, Q2, R2⟩, ?_⟩
    simp -dsimp only [push_cast, Nat.reduceAdd, Nat.reduceLeDiff, Nat.reduceBEq, decide_true, ne_eq, eq_self, not_true_eq_false, not_false_eq_true, true_imp_iff, false_imp_iff, Int.reduceNe, Int.reduceEq, Int.reduceLT, Int.reduceLE, Bool.not_true, Bool.not_false]
    refine storeAgg (n := 2) (by kernel_rfl) (hw1.blk.below hb2 (by omega)) rfl (by simp) (by simp [Value.oneCell']) ?_
    intro w3 hw3
    have z3 := hw3.size
    have hk3 := hw3.kept
    have c3 : cellsAt w3 ⟨w.heap.size, 0, none⟩ 0 2 = some [.slice none 0 0, .bool false] := hw3.blk.cellsAt
    refine ⟨⟨hk3.cell A2 (by show ab ≠ _; omega), hk3.cell Q2 (by show qb ≠ _; omega), hk3.cell R2 (by show rb ≠ _; omega)⟩, ?_⟩
    simp -dsimp only [push_cast, Nat.reduceAdd, Nat.reduceLeDiff, Nat.reduceBEq, decide_true, ne_eq, eq_self, not_true_eq_false, not_false_eq_true, true_imp_iff, false_imp_iff, Int.reduceNe, Int.reduceEq, Int.reduceLT, Int.reduceLE, Bool.not_true, Bool.not_false, c3]
    exact ⟨⟨w1.heap.size, by omega, rfl, hw2.blk.kept hk3 (by show w1.heap.size ≠ _; omega)⟩, hw1.below.trans ((hb2.mono (by omega)).trans (hk3.below (by omega) (fun i h => by omega)))⟩
  · refine storeAgg (n := 2) (by kernel_rfl) (show Blk w1.drew w.heap.size _ _ from hw1.blk.drew) rfl (by simp) (by simp [Value.oneCell']) ?_
    intro w2 hw2
    have z2 : w2.heap.size = w1.heap.size := hw2.size
    have hk2 : Kept (· = w.heap.size) w1.drew w2 := hw2.kept
    have a3 := hk2.cell (p := ⟨ab, 0, none⟩) a2 (by show ab ≠ _; omega)
    have q3 := hk2.cell (p := ⟨qb, 0, none⟩) q2 (by show qb ≠ _; omega)
    have r3 := hk2.cell (p := ⟨rb, 0, none⟩) r2 (by show rb ≠ _; omega)
    refine ⟨⟨a3, q3, r3⟩, ?_⟩
    simp -dsimp only [push_cast, Nat.reduceAdd, Nat.reduceLeDiff, Nat.reduceBEq, decide_true, ne_eq, eq_self, not_true_eq_false, not_false_eq_true, true_imp_iff, false_imp_iff, Int.reduceNe, Int.reduceEq, Int.reduceLT, Int.reduceLE, Bool.not_true, Bool.not_false]
    refine boxK_of ?_
    intro w3 hw3
    have z3 : w3.heap.size = w2.heap.size + 1 := hw3.size
    have hw3 : New w2 w3 68 [.int .i64 3, .int .i64 ((n : Int) - l.length)] := hw3
    have hb3 := hw3.below
    refine ⟨⟨(hb3.cell (by show ab < _; omega)).trans a3, (hb3.cell (by show qb < _; omega)).trans q3, (hb3.cell (by show rb < _; omega)).trans r3⟩, ?_⟩
    have c3 : cellsAt w3 ⟨w.heap.size, 0, none⟩ 0 2 = some [.slice none 0 0, .bool false] := (hw2.blk.below hb3 (by omega)).cellsAt
    simp -dsimp only [push_cast, Nat.reduceAdd, Nat.reduceLeDiff, Nat.reduceBEq, decide_true, ne_eq, eq_self, not_true_eq_false, not_false_eq_true, true_imp_iff, false_imp_iff, Int.reduceNe, Int.reduceEq, Int.reduceLT, Int.reduceLE, Bool.not_true, Bool.not_false, c3]
    exact ⟨⟨w2.heap.size, by omega, rfl, hw3.blk⟩, hw1.below.trans (((below_drewA w1).mono (by omega)).trans ((hk2.below (by show w.heap.size ≤ w1.heap.size; omega) (fun i h => by omega)).trans (hb3.mono (by omega))))⟩
end Go.Proofs.YtiofleijieepgaaGreatDoor
end
section
namespace Go.Proofs.YtiofleijieepgaaGreatDoor
open Go.Vc Go.Proofs Go.RowKit Cae
set_option maxRecDepth 100000
set_option linter.unusedSimpArgs false
set_option linter.unusedVariables false
attribute [local irreducible] wpL callK valK unitK runK Fun Sl Vc.Own vc vcOps opK pureK
set_option maxHeartbeats 8000000
/-- What Parse answers. -/
def ParseA (B : Nat) (s : List UInt8) (r : Value) (w : World) : Prop := match parseA s with
  | .ok p => ∃ v, r = .tuple #[v, .nilIface] ∧ ProgV (· < B) w v p
  | .form n => FailR B (n : Nat) r w
  | .arg => r = .tuple #[.agg #[.slice none 0 0, .bool false], .iface 47 (.int .i64 1)]
/-- A program that is being read: the rules that are there (their row is the call's own), and the boxes of the call. -/
structure Pg (b2 rb ab qb pb B5 : Nat) (sl : Value) (els : Bool) (w : World) (acc : List PairP) : Prop where
  st : ∃ (us : List PV) (pv : Value), Blk w pb 24 [pv, .bool els] ∧ Vc.Own B5 45 5 encPV w pv us ∧ us.length = acc.length ∧ ∀ (i : Nat) (s : PairP), acc[i]? = some s → ∃ u, us[i]? = some u ∧ PairR (fun b => b < B5 ∨ pv.ownBlock = some b) w (encPV u) s
  zero : Blk w b2 24 [.slice none 0 0, .bool false]
  all : Blk w ab 61 [sl]
  rd : Blk w qb 64 [.pointer (some ⟨rb, 0, none⟩)]
  lt : b2 < B5 ∧ ab < B5 ∧ qb < B5 ∧ pb < B5 ∧ rb < B5
  ne : b2 ≠ rb ∧ ab ≠ rb ∧ qb ≠ rb ∧ pb ≠ rb ∧ pb ≠ b2 ∧ pb ≠ ab ∧ pb ≠ qb
  le : B5 ≤ w.heap.size
theorem Pg.kept {b2 rb ab qb pb B5 : Nat} {sl : Value} {els : Bool} {w w' : World} {acc : List PairP} (h : Pg b2 rb ab qb pb B5 sl els w acc) (hk : Kept (· = rb) w w') : Pg b2 rb ab qb pb B5 sl els w' acc := by
  obtain ⟨us, pv, h1, h2, h3, h4⟩ := h.st
  have hl := h.lt
  have hn := h.ne
  exact ⟨⟨us, pv, h1.kept hk (by omega), h2.keptX hk (fun g hg hh => by have := (h2.block g hg).1; omega), h3, fun i s hs => by
    obtain ⟨u, hu, hp⟩ := h4 i s hs
    exact ⟨u, hu, hp.mono (fun b hnb hlt => hk.block b hlt (fun hh => hnb (.inl (by omega)))) (fun _ h => h)⟩⟩, h.zero.kept hk (by omega), h.all.kept hk (by omega), h.rd.kept hk (by omega), hl, hn, by have := h.le; have := hk.size; omega⟩
theorem Pg.says {b2 rb ab qb pb B5 : Nat} {sl : Value} {els : Bool} {w : World} {acc : List PairP} (h : Pg b2 rb ab qb pb B5 sl els w acc) : ∃ a c, Blk w pb 24 [.slice a acc.length c, .bool els] ∧
    ∀ (b : Bool) w', Put w w' pb 24 [.slice a acc.length c, .bool b] → Pg b2 rb ab qb pb B5 sl b w' acc := by
  obtain ⟨us, pv, h1, h2, h3, h4⟩ := h.st
  obtain ⟨a, c, rfl⟩ := h2.slice
  rw [h3] at h1 h2 h4
  have hl := h.lt
  have hn := h.ne
  refine ⟨a, c, h1, fun b w' hp => ?_⟩
  have hk := hp.kept
  exact ⟨⟨us, _, hp.blk, h2.keptX hk (fun g hg hh => by have := (h2.block g hg).1; omega), h3, fun i s hs => by
    obtain ⟨u, hu, hp⟩ := h4 i s hs
    exact ⟨u, hu, hp.mono (fun b hnb hlt => hk.block b hlt (fun hh => hnb (.inl (by omega)))) (fun _ h => h)⟩⟩, h.zero.kept hk (by omega), h.all.kept hk (by omega), h.rd.kept hk (by omega), hl, hn, by have := h.le; have := hk.size; omega⟩
/-- The program, as a value. -/
theorem Pg.prog {b2 rb ab qb pb B5 : Nat} {sl : Value} {els : Bool} {w : World} {acc : List PairP} (h : Pg b2 rb ab qb pb B5 sl els w acc) : ∃ a c, Blk w pb 24 [.slice a acc.length c, .bool els] ∧
    ∀ w', Kept (fun b => b < B5) w w' → ProgV (fun b => b < B5) w' (.agg #[.slice a acc.length c, .bool els]) ⟨acc, els⟩ := by
  obtain ⟨us, pv, h1, h2, h3, h4⟩ := h.st
  obtain ⟨a, c, rfl⟩ := h2.slice
  refine ⟨a, c, by rw [h3] at h1; exact h1, fun w' hk => ⟨_, rfl, ?_⟩⟩
  have hO := h2.keptX hk (fun g hg hh => by have := (h2.block g hg).1; omega)
  rw [← h3]
  exact ownRead (R := PairR (fun b => b < B5) w') hO h3 (fun i s hs => by
    obtain ⟨u, hu, hp⟩ := h4 i s hs
    exact ⟨u, hu, hp.mono (fun b hnb hlt => hk.block b hlt (fun hh => hnb (.inl hh))) (fun _ h => .inl h)⟩)
theorem body_left {L l l2 : List (List UInt8)} {rs : List PairP} {b : Bool} (h : rulesA L.length [] L = .ok (rs, l)) (h2 : saysA elseW l = .ok (b, l2)) (hp : 0 < l2.length) : bodyA L = .error l2.length := by
  cases l2 with
  | nil => simp at hp
  | cons s r => exact body_e3 h h2
theorem PairR.moved {X Y Z : Nat → Prop} {w w' : World} {cs : List Value} {r : PairP} (h : PairR X w cs r) (kc : Kept Y w w') (hY : ∀ i, Y i → X i) (hZ : ∀ b, Z b → X b ∨ w.heap.size ≤ b) : PairR Z w' cs r :=
  (h.narrow (X' := fun b => X b ∨ Z b) (fun b hb hh => by
    rcases hh with hh | hh
    · exact hh
    · rcases hZ b hh with h1 | h1
      · exact h1
      · omega)).mono (fun b hnb hlt => kc.block b hlt (fun hy => hnb (.inl (hY b hy)))) (fun b hb => .inr hb)
theorem parseA_c (s : List UInt8) (hs : s.length ≤ 999990) (w : World) (hv : Vs w) (hg : 14 ≤ w.heap.size) :
    Fun Tryz.prog 8 [str s] w fun r w' => ParseA w.heap.size s r w' ∧ Below w.heap.size w w' := by
  have hLn := linesA_len s
  have hLm := linesA_mem (s := s)
  refine fun_of_vcC Tryz.func8 rfl (by kernel_rfl) [.cell 2 24, .tmp 3] rfl ?_
  simp -dsimp (maxSteps := 4000000) only [push_cast, fr0, Tryz.ntmps8, List.length_cons, List.length_nil, Nat.reduceAdd, Nat.reduceSub, Nat.reduceBEq, List.replicate_succ, List.replicate_zero]
  refine allocK (z := [.slice none 0 0, .bool false]) (by kernel_rfl) ?_
  intro w1 hw1
  have z1 := hw1.size
  simp -dsimp only [push_cast, Nat.reduceAdd, Nat.reduceLeDiff, Nat.reduceBEq, decide_true, ne_eq, eq_self, not_true_eq_false, not_false_eq_true, true_imp_iff, false_imp_iff, Int.reduceNe, Int.reduceEq, Int.reduceLT, Int.reduceLE, Bool.not_true, Bool.not_false]
  refine callK_of (trimTen_c s (by omega) w1) ?_
  rintro _ w1' ⟨rfl, hw1e⟩
  obtain rfl : w1 = w1' := hw1e.symm
  simp -dsimp only [push_cast, Nat.reduceAdd, Nat.reduceLeDiff, Nat.reduceBEq, decide_true, ne_eq, eq_self, not_true_eq_false, not_false_eq_true, true_imp_iff, false_imp_iff, Int.reduceNe, Int.reduceEq, Int.reduceLT, Int.reduceLE, Bool.not_true, Bool.not_false]
  have htl : (trimA s).length ≤ s.length := by
    unfold trimA
    split <;> simp
  refine callK_of (split10_c (trimA s) (by omega) w1 (hv.below hw1.below hg).m) ?_
  rintro vl w2 ⟨hsl, hb2⟩
  have z2 := hb2.size
  have hsl : Sl (fun b => b < w1.heap.size) 1 (En encS) w2 vl (linesA s) := hsl
  obtain ⟨va, vk, rfl, hvk⟩ := hsl.shape
  simp -dsimp only [push_cast, Nat.reduceAdd, Nat.reduceLeDiff, Nat.reduceBEq, decide_true, ne_eq, eq_self, not_true_eq_false, not_false_eq_true, true_imp_iff, false_imp_iff, Int.reduceNe, Int.reduceEq, Int.reduceLT, Int.reduceLE, Bool.not_true, Bool.not_false]
  refine allocK (z := [.slice none 0 0]) (by kernel_rfl) ?_
  intro w3 hw3
  have z3 := hw3.size
  simp -dsimp only [push_cast, Nat.reduceAdd, Nat.reduceLeDiff, Nat.reduceBEq, decide_true, ne_eq, eq_self, not_true_eq_false, not_false_eq_true, true_imp_iff, false_imp_iff, Int.reduceNe, Int.reduceEq, Int.reduceLT, Int.reduceLE, Bool.not_true, Bool.not_false]
  refine storeK_of hw3.blk (by simp) rfl ?_
  intro w4 hw4
  have z4 := hw4.size
  have A4 : Blk w4 w2.heap.size 61 [.slice va (linesA s).length vk] := hw4.blk
  have a40 : w4.cell? ⟨w2.heap.size, 0, none⟩ = some (.slice va (linesA s).length vk) := A4.cell rfl
  have hb24 : Below w2.heap.size w2 w4 := hw3.below.trans (hw4.kept.below (by omega) (fun i h => by omega))
  simp -dsimp only [push_cast, Nat.reduceAdd, Nat.reduceLeDiff, Nat.reduceBEq, decide_true, ne_eq, eq_self, not_true_eq_false, not_false_eq_true, true_imp_iff, false_imp_iff, Int.reduceNe, Int.reduceEq, Int.reduceLT, Int.reduceLE, Bool.not_true, Bool.not_false, a40]
  refine boxK_of ?_
  intro w5 hw5
  have hw5 : New w4 w5 66 [.slice va (linesA s).length vk] := hw5
  have z5 := hw5.size
  simp -dsimp only [push_cast, Nat.reduceAdd, Nat.reduceLeDiff, Nat.reduceBEq, decide_true, ne_eq, eq_self, not_true_eq_false, not_false_eq_true, true_imp_iff, false_imp_iff, Int.reduceNe, Int.reduceEq, Int.reduceLT, Int.reduceLE, Bool.not_true, Bool.not_false]
  refine allocK (z := [.pointer none]) (by kernel_rfl) ?_
  intro w6 hw6
  have z6 := hw6.size
  simp -dsimp only [push_cast, Nat.reduceAdd, Nat.reduceLeDiff, Nat.reduceBEq, decide_true, ne_eq, eq_self, not_true_eq_false, not_false_eq_true, true_imp_iff, false_imp_iff, Int.reduceNe, Int.reduceEq, Int.reduceLT, Int.reduceLE, Bool.not_true, Bool.not_false]
  refine storeK_of hw6.blk (by simp) rfl ?_
  intro w7 hw7
  have z7 := hw7.size
  have Q7 : Blk w7 w5.heap.size 64 [.pointer (some ⟨w4.heap.size, 0, none⟩)] := hw7.blk
  have hb57 : Below w5.heap.size w5 w7 := hw6.below.trans (hw7.kept.below (by omega) (fun i h => by omega))
  simp -dsimp only [push_cast, Nat.reduceAdd, Nat.reduceLeDiff, Nat.reduceBEq, decide_true, ne_eq, eq_self, not_true_eq_false, not_false_eq_true, true_imp_iff, false_imp_iff, Int.reduceNe, Int.reduceEq, Int.reduceLT, Int.reduceLE, Bool.not_true, Bool.not_false]
  refine allocK (z := [.slice none 0 0, .bool false]) (by kernel_rfl) ?_
  intro w8 hw8
  have z8 := hw8.size
  have hb58 := hb57.trans (hw8.below.mono (by omega))
  have hb48 := hw5.below.trans (hb58.mono (by omega))
  have hb28 := hb24.trans (hb48.mono (by omega))
  have hbw2 : Below w.heap.size w w2 := hw1.below.trans (hb2.mono (by omega))
  have hbw8 := hbw2.trans (hb28.mono (by omega))
  have hX : ∃ X : Nat → Prop, X = (fun b => b < w1.heap.size ∨ w2.heap.size ≤ b) := ⟨_, rfl⟩
  obtain ⟨X, hX⟩ := hX
  have hR8 : Rd w4.heap.size X w8 (linesA s) := ⟨⟨_, hw5.blk.below hb58 (by omega), (hsl.fresh (X' := X) (fun _ => by simp [encS]) (fun b hb => by rw [hX] at hb; exact hb)).below hb28⟩, by rw [hX]; exact .inr (by omega), fun t ht => by have := hLm t ht; omega, by omega⟩
  have hP8 : Pg w.heap.size w4.heap.size w2.heap.size w5.heap.size w7.heap.size w8.heap.size (.slice va (linesA s).length vk) false w8 [] := ⟨⟨[], .slice none 0 0, hw8.blk, Vc.Own.nil (enc := encPV) _ _ (fun _ => rfl) _, rfl, fun i u h1 => by simp at h1⟩,
    (hw1.blk.below hb2 (by omega)).below hb28 (by omega), A4.below hb48 (by omega), Q7.below hw8.below (by omega), by omega, by omega, Nat.le_refl _⟩
  simp -dsimp only [push_cast, Nat.reduceAdd, Nat.reduceLeDiff, Nat.reduceBEq, decide_true, ne_eq, eq_self, not_true_eq_false, not_false_eq_true, true_imp_iff, false_imp_iff, Int.reduceNe, Int.reduceEq, Int.reduceLT, Int.reduceLE, Bool.not_true, Bool.not_false]
  refine wpL_loop [3, 8, 9, 17, 18, 19, 20, 21, 22, 23, 24, 25, 26, 27, 28, 29, 30, 31, 32, 33, 34, 35, 36, 37, 38, 39, 40, 41, 42, 43, 44, 45, 46, 47, 48, 49, 50, 51, 52, 53, 54, 55, 56, 57, 58, 59, 60, 61, 62, 63, 64, 65, 66, 67, 68, 69, 70, 71, 72, 73, 74, 75, 76, 77, 78, 79, 80, 81] (fun z wx => ∃ (n : Nat) (acc : List PairP) (l : List (List UInt8)), rulesA (linesA s).length [] (linesA s) = rulesA n acc l ∧ l.length ≤ n ∧ acc.length + l.length ≤ (linesA s).length ∧ Rd w4.heap.size X wx l ∧ Pg w.heap.size w4.heap.size w2.heap.size w5.heap.size w7.heap.size w8.heap.size (.slice va (linesA s).length vk) false wx acc ∧ Below w.heap.size w wx) (fun _ wx => linesOf w4.heap.size wx) ?_ ?_
  · exact ⟨_, [], linesA s, rfl, Nat.le_refl _, by simp, hR8, hP8, hbw8⟩
  · intro z wx hI
    obtain ⟨n, acc, l, hru, hln, hlL, hR, hP, hbx⟩ := hI
    have zx := hP.le
    have cQx : wx.cell? ⟨w5.heap.size, 0, none⟩ = some (.pointer (some ⟨w4.heap.size, 0, none⟩)) := hP.rd.cell rfl
    cases l with
    | nil =>
      have hR0 := hR
      obtain ⟨v, h1, h2⟩ := hR0.st
      obtain ⟨ra, rc, rfl, hrc⟩ := h2.shape
      have cb : wx.cell? ⟨w4.heap.size, 0, none⟩ = some (.slice ra 0 rc) := h1.cell rfl
      simp -dsimp only [push_cast, Nat.reduceAdd, Nat.reduceLeDiff, Nat.reduceBEq, decide_true, ne_eq, eq_self, not_true_eq_false, not_false_eq_true, true_imp_iff, false_imp_iff, Int.reduceNe, Int.reduceEq, Int.reduceLT, Int.reduceLE, Bool.not_true, Bool.not_false, cQx, cb]
      have hend : ruleStartA [] = false := rfl
      -- ([] : List (List UInt8)): the lines; hend: no rule begins there
      have hru2 := hru.trans (rules_end hend)
      have hle5 := hP.le
      refine callK_of (takeA_c [101, 108, 115, 101, 32, 98, 114, 101, 97, 107] hR) ?_
      rintro _ wy hr
      rcases hr with ⟨l2, hl2, rfl, hRy, hky, hzy⟩ | ⟨hno1, rfl, hwe⟩
      · have hl2n : (([] : List (List UInt8)) : List (List UInt8)).length = l2.length + 1 := congrArg List.length hl2
        have hPy := hP.kept hky
        have hsays := hPy.says
        obtain ⟨pa, pc, hPb, hset⟩ := hsays
        have hby := hbx.trans (hky.below (by omega) (fun i h => by omega))
        simp -dsimp only [push_cast, Nat.reduceAdd, Nat.reduceLeDiff, Nat.reduceBEq, decide_true, ne_eq, eq_self, not_true_eq_false, not_false_eq_true, true_imp_iff, false_imp_iff, Int.reduceNe, Int.reduceEq, Int.reduceLT, Int.reduceLE, Bool.not_true, Bool.not_false]
        refine storeK_of hPb (by simp) rfl ?_
        intro wz hwz
        have zz1 := hwz.size
        have hPz := hset true wz hwz
        have hRz := hRy.kept hwz.kept (fun i hi => by rw [hX]; exact .inr (by omega)) (by omega)
        have hbz := hby.trans (hwz.kept.below (by omega) (fun i h => by omega))
        have d1 : wz.cell? ⟨w7.heap.size, 1, none⟩ = some (.bool true) := hwz.blk.cell rfl
        have hsy : saysA elseW ([] : List (List UInt8)) = .ok (true, l2) := by rw [hl2]; exact says_put elseW true l2
        simp -dsimp only [push_cast, Nat.reduceAdd, Nat.reduceLeDiff, Nat.reduceBEq, decide_true, ne_eq, eq_self, not_true_eq_false, not_false_eq_true, true_imp_iff, false_imp_iff, Int.reduceNe, Int.reduceEq, Int.reduceLT, Int.reduceLE, Bool.not_true, Bool.not_false, d1]
        -- wz: the world; hRz: reader at it; hPz: Pg; l2: its lines; hbz: Below; true: else; hsy: saysA
        have hlen9 : (l2 : List (List UInt8)).length ≤ (linesA s).length := by omega
        have hRt := hRz
        obtain ⟨tv, ht1, ht2⟩ := hRt.st
        obtain ⟨ta, tc, rfl, htc⟩ := ht2.shape
        have cbt : (wz).cell? ⟨w4.heap.size, 0, none⟩ = some (.slice ta (l2 : List (List UInt8)).length tc) := ht1.cell rfl
        have cQt := (hPz).rd.cell (o := 0) rfl
        simp -dsimp only [push_cast, Nat.reduceAdd, Nat.reduceLeDiff, Nat.reduceBEq, decide_true, ne_eq, eq_self, not_true_eq_false, not_false_eq_true, true_imp_iff, false_imp_iff, Int.reduceNe, Int.reduceEq, Int.reduceLT, Int.reduceLE, Bool.not_true, Bool.not_false, cQt, cbt]
        refine ⟨fun hpos => ?_, fun hnp => ?_⟩
        · have hbd := body_left hru2 hsy (by omega)
          -- wz: the world; hRz: reader at it; hPz: Pg; l2: its lines; hbz: Below w.heap.size w wz; (parse_e hbd): what the text is; ((linesA s).length - (l2 : List (List UInt8)).length): the line
          have cA := (hPz).all.cell (o := 0) rfl
          have cQ := (hPz).rd.cell (o := 0) rfl
          refine callK_of (failA_c (linesA s).length (by omega) va vk _ _ hRz cA cQ) ?_
          rintro _ wf9 ⟨⟨fb, hfb, rfl, hBf⟩, hbf⟩
          have zf9 := hbf.size
          have zz := (hPz).zero.lt
          have hZf := (hPz).zero.below hbf zz
          simp -dsimp only [push_cast, Nat.reduceAdd, Nat.reduceLeDiff, Nat.reduceBEq, decide_true, ne_eq, eq_self, not_true_eq_false, not_false_eq_true, true_imp_iff, false_imp_iff, Int.reduceNe, Int.reduceEq, Int.reduceLT, Int.reduceLE, Bool.not_true, Bool.not_false]
          refine storeAgg (n := 2) (by kernel_rfl) hZf rfl (by simp) (by simp [Value.oneCell']) ?_
          intro wg9 hwg9
          have zg9 := hwg9.size
          have cg : cellsAt wg9 ⟨w.heap.size, 0, none⟩ 0 2 = some [.slice none 0 0, .bool false] := hwg9.blk.cellsAt
          have hkg := hwg9.kept
          simp -dsimp only [push_cast, Nat.reduceAdd, Nat.reduceLeDiff, Nat.reduceBEq, decide_true, ne_eq, eq_self, not_true_eq_false, not_false_eq_true, true_imp_iff, false_imp_iff, Int.reduceNe, Int.reduceEq, Int.reduceLT, Int.reduceLE, Bool.not_true, Bool.not_false, cg]
          have hpf := (parse_e hbd)
          have z59 := (hbz).size
          refine ⟨?_, (hbz).trans ((hbf.mono z59).trans (hkg.below (by omega) (fun i h => by omega)))⟩
          unfold ParseA
          rw [hpf]
          have e9 : (((linesA s).length : Int) - ((l2 : List (List UInt8)).length : Int)) = ((((linesA s).length - (l2 : List (List UInt8)).length) : Nat) : Int) := by omega
          rw [e9] at hBf
          exact ⟨fb, by omega, rfl, hBf.kept hkg (by omega)⟩
        · have hnil : (l2 : List (List UInt8)) = [] := List.eq_nil_of_length_eq_zero (by omega)
          have hbd := body_ok hru2 (by have h9 := hsy; rw [hnil] at h9; exact h9)
          refine callK_of (hasSufTen_c s (by omega) wz) ?_
          rintro _ wu ⟨rfl, hwu⟩
          obtain rfl := hwu.symm
          by_cases hsf : s.getLast? = some 10
          · rw [decide_eq_true hsf]
            have hpg := (hPz).prog
            obtain ⟨qa, qc, hQB, hprog⟩ := hpg
            have hc2 := hQB.cellsAt
            have hc2 : cellsAt (wz) ⟨w7.heap.size, 0, none⟩ 0 2 = some [.slice qa acc.length qc, .bool true] := hc2
            simp -dsimp only [push_cast, Nat.reduceAdd, Nat.reduceLeDiff, Nat.reduceBEq, decide_true, ne_eq, eq_self, not_true_eq_false, not_false_eq_true, true_imp_iff, false_imp_iff, Int.reduceNe, Int.reduceEq, Int.reduceLT, Int.reduceLE, Bool.not_true, Bool.not_false, hc2]
            have hfl := fewP_len (p := ⟨acc, true⟩) (bodyA_few hbd) (by omega)
            refine callK_of (rightProgram_c ⟨acc, true⟩ hfl _ _ (wz) (hprog (wz) (Kept.refl _ _))) ?_
            rintro _ wv ⟨rfl, hbv⟩
            have zv := hbv.size
            have hZt := (hPz).zero
            have hZlt := hZt.lt
            have hZv := hZt.below hbv hZlt
            have hQv := hQB.below hbv hQB.lt
            have hLt := (hPz).lt
            have hLe := (hPz).le
            cases hpr : progRight ⟨acc, true⟩ with
            | true =>
              have hc3 : cellsAt wv ⟨w7.heap.size, 0, none⟩ 0 2 = some [.slice qa acc.length qc, .bool true] := hQv.cellsAt
              simp -dsimp only [push_cast, Nat.reduceAdd, Nat.reduceLeDiff, Nat.reduceBEq, decide_true, ne_eq, eq_self, not_true_eq_false, not_false_eq_true, true_imp_iff, false_imp_iff, Int.reduceNe, Int.reduceEq, Int.reduceLT, Int.reduceLE, Bool.not_true, Bool.not_false, hc3]
              refine storeAgg (n := 2) (by kernel_rfl) hZv rfl (by simp) (by simp [Value.oneCell']) ?_
              intro wy9 hwy
              have cg : cellsAt wy9 ⟨w.heap.size, 0, none⟩ 0 2 = some [.slice qa acc.length qc, .bool true] := hwy.blk.cellsAt
              have hky9 := hwy.kept
              simp -dsimp only [push_cast, Nat.reduceAdd, Nat.reduceLeDiff, Nat.reduceBEq, decide_true, ne_eq, eq_self, not_true_eq_false, not_false_eq_true, true_imp_iff, false_imp_iff, Int.reduceNe, Int.reduceEq, Int.reduceLT, Int.reduceLE, Bool.not_true, Bool.not_false, cg]
              have z59 := (hbz).size
              refine ⟨?_, (hbz).trans ((hbv.mono z59).trans (hky9.below (by omega) (fun i h => by omega)))⟩
              unfold ParseA
              rw [parse_yes hbd hsf hpr]
              refine ⟨_, rfl, ProgV.mono (hprog wy9 ((Kept.of_below hbv (fun i h1 h2 => by omega)).trans hky9 (fun i _ hi => by omega))) (fun _ _ _ => rfl) (fun b hb => by omega)⟩
            | false =>
              simp -dsimp only [push_cast, Nat.reduceAdd, Nat.reduceLeDiff, Nat.reduceBEq, decide_true, ne_eq, eq_self, not_true_eq_false, not_false_eq_true, true_imp_iff, false_imp_iff, Int.reduceNe, Int.reduceEq, Int.reduceLT, Int.reduceLE, Bool.not_true, Bool.not_false]
              refine storeAgg (n := 2) (by kernel_rfl) hZv rfl (by simp) (by simp [Value.oneCell']) ?_
              intro wy9 hwy
              have cg : cellsAt wy9 ⟨w.heap.size, 0, none⟩ 0 2 = some [.slice none 0 0, .bool false] := hwy.blk.cellsAt
              have hky9 := hwy.kept
              simp -dsimp only [push_cast, Nat.reduceAdd, Nat.reduceLeDiff, Nat.reduceBEq, decide_true, ne_eq, eq_self, not_true_eq_false, not_false_eq_true, true_imp_iff, false_imp_iff, Int.reduceNe, Int.reduceEq, Int.reduceLT, Int.reduceLE, Bool.not_true, Bool.not_false, cg]
              have z59 := (hbz).size
              refine ⟨?_, (hbz).trans ((hbv.mono z59).trans (hky9.below (by omega) (fun i h => by omega)))⟩
              unfold ParseA
              rw [parse_arg hbd hsf hpr]
          · rw [decide_eq_false hsf]
            simp -dsimp only [push_cast, Nat.reduceAdd, Nat.reduceLeDiff, Nat.reduceBEq, decide_true, ne_eq, eq_self, not_true_eq_false, not_false_eq_true, true_imp_iff, false_imp_iff, Int.reduceNe, Int.reduceEq, Int.reduceLT, Int.reduceLE, Bool.not_true, Bool.not_false]
            -- wz: the world; hRz: reader at it; hPz: Pg; l2: its lines; hbz: Below w.heap.size w wz; (parse_no hbd hsf): what the text is; ((linesA s).length): the line
            have cA := (hPz).all.cell (o := 0) rfl
            have cQ := (hPz).rd.cell (o := 0) rfl
            refine callK_of (failA_c (linesA s).length (by omega) va vk _ _ hRz cA cQ) ?_
            rintro _ wf9 ⟨⟨fb, hfb, rfl, hBf⟩, hbf⟩
            have zf9 := hbf.size
            have zz := (hPz).zero.lt
            have hZf := (hPz).zero.below hbf zz
            simp -dsimp only [push_cast, Nat.reduceAdd, Nat.reduceLeDiff, Nat.reduceBEq, decide_true, ne_eq, eq_self, not_true_eq_false, not_false_eq_true, true_imp_iff, false_imp_iff, Int.reduceNe, Int.reduceEq, Int.reduceLT, Int.reduceLE, Bool.not_true, Bool.not_false]
            refine storeAgg (n := 2) (by kernel_rfl) hZf rfl (by simp) (by simp [Value.oneCell']) ?_
            intro wg9 hwg9
            have zg9 := hwg9.size
            have cg : cellsAt wg9 ⟨w.heap.size, 0, none⟩ 0 2 = some [.slice none 0 0, .bool false] := hwg9.blk.cellsAt
            have hkg := hwg9.kept
            simp -dsimp only [push_cast, Nat.reduceAdd, Nat.reduceLeDiff, Nat.reduceBEq, decide_true, ne_eq, eq_self, not_true_eq_false, not_false_eq_true, true_imp_iff, false_imp_iff, Int.reduceNe, Int.reduceEq, Int.reduceLT, Int.reduceLE, Bool.not_true, Bool.not_false, cg]
            have hpf := (parse_no hbd hsf)
            have z59 := (hbz).size
            refine ⟨?_, (hbz).trans ((hbf.mono z59).trans (hkg.below (by omega) (fun i h => by omega)))⟩
            unfold ParseA
            rw [hpf]
            have e9 : (((linesA s).length : Int) - ((l2 : List (List UInt8)).length : Int)) = ((((linesA s).length) : Nat) : Int) := by omega
            rw [e9] at hBf
            exact ⟨fb, by omega, rfl, hBf.kept hkg (by omega)⟩
      · obtain rfl : wx = wy := hwe.symm
        have hsays := hP.says
        obtain ⟨pa, pc, hPb, hset⟩ := hsays
        simp -dsimp only [push_cast, Nat.reduceAdd, Nat.reduceLeDiff, Nat.reduceBEq, decide_true, ne_eq, eq_self, not_true_eq_false, not_false_eq_true, true_imp_iff, false_imp_iff, Int.reduceNe, Int.reduceEq, Int.reduceLT, Int.reduceLE, Bool.not_true, Bool.not_false]
        refine storeK_of hPb (by simp) rfl ?_
        intro wz hwz
        have zz1 := hwz.size
        have hPz := hset false wz hwz
        have hRz := hR.kept hwz.kept (fun i hi => by rw [hX]; exact .inr (by omega)) (by omega)
        have hbz := hbx.trans (hwz.kept.below (by omega) (fun i h => by omega))
        have d1 : wz.cell? ⟨w7.heap.size, 1, none⟩ = some (.bool false) := hwz.blk.cell rfl
        have cQz := hPz.rd.cell (o := 0) rfl
        simp -dsimp only [push_cast, Nat.reduceAdd, Nat.reduceLeDiff, Nat.reduceBEq, decide_true, ne_eq, eq_self, not_true_eq_false, not_false_eq_true, true_imp_iff, false_imp_iff, Int.reduceNe, Int.reduceEq, Int.reduceLT, Int.reduceLE, Bool.not_true, Bool.not_false, d1, cQz]
        refine callK_of (takeA_c [101, 108, 115, 101, 32, 107, 101, 101, 112] hRz) ?_
        rintro _ wu1 hr
        rcases hr with ⟨l2, hl2, rfl, hRu, hku, hzu⟩ | ⟨hno2, rfl, hwe2⟩
        · have hl2n : (([] : List (List UInt8)) : List (List UInt8)).length = l2.length + 1 := congrArg List.length hl2
          have hPu := hPz.kept hku
          have hbu := hbz.trans (hku.below (by omega) (fun i h => by omega))
          have hsy : saysA elseW ([] : List (List UInt8)) = .ok (false, l2) := by rw [hl2]; exact says_put elseW false l2
          simp -dsimp only [push_cast, Nat.reduceAdd, Nat.reduceLeDiff, Nat.reduceBEq, decide_true, ne_eq, eq_self, not_true_eq_false, not_false_eq_true, true_imp_iff, false_imp_iff, Int.reduceNe, Int.reduceEq, Int.reduceLT, Int.reduceLE, Bool.not_true, Bool.not_false]
          -- wu1: the world; hRu: reader at it; hPu: Pg; l2: its lines; hbu: Below; false: else; hsy: saysA
          have hlen9 : (l2 : List (List UInt8)).length ≤ (linesA s).length := by omega
          have hRt := hRu
          obtain ⟨tv, ht1, ht2⟩ := hRt.st
          obtain ⟨ta, tc, rfl, htc⟩ := ht2.shape
          have cbt : (wu1).cell? ⟨w4.heap.size, 0, none⟩ = some (.slice ta (l2 : List (List UInt8)).length tc) := ht1.cell rfl
          have cQt := (hPu).rd.cell (o := 0) rfl
          simp -dsimp only [push_cast, Nat.reduceAdd, Nat.reduceLeDiff, Nat.reduceBEq, decide_true, ne_eq, eq_self, not_true_eq_false, not_false_eq_true, true_imp_iff, false_imp_iff, Int.reduceNe, Int.reduceEq, Int.reduceLT, Int.reduceLE, Bool.not_true, Bool.not_false, cQt, cbt]
          refine ⟨fun hpos => ?_, fun hnp => ?_⟩
          · have hbd := body_left hru2 hsy (by omega)
            -- wu1: the world; hRu: reader at it; hPu: Pg; l2: its lines; hbu: Below w.heap.size w wu1; (parse_e hbd): what the text is; ((linesA s).length - (l2 : List (List UInt8)).length): the line
            have cA := (hPu).all.cell (o := 0) rfl
            have cQ := (hPu).rd.cell (o := 0) rfl
            refine callK_of (failA_c (linesA s).length (by omega) va vk _ _ hRu cA cQ) ?_
            rintro _ wf9 ⟨⟨fb, hfb, rfl, hBf⟩, hbf⟩
            have zf9 := hbf.size
            have zz := (hPu).zero.lt
            have hZf := (hPu).zero.below hbf zz
            simp -dsimp only [push_cast, Nat.reduceAdd, Nat.reduceLeDiff, Nat.reduceBEq, decide_true, ne_eq, eq_self, not_true_eq_false, not_false_eq_true, true_imp_iff, false_imp_iff, Int.reduceNe, Int.reduceEq, Int.reduceLT, Int.reduceLE, Bool.not_true, Bool.not_false]
            refine storeAgg (n := 2) (by kernel_rfl) hZf rfl (by simp) (by simp [Value.oneCell']) ?_
            intro wg9 hwg9
            have zg9 := hwg9.size
            have cg : cellsAt wg9 ⟨w.heap.size, 0, none⟩ 0 2 = some [.slice none 0 0, .bool false] := hwg9.blk.cellsAt
            have hkg := hwg9.kept
            simp -dsimp only [push_cast, Nat.reduceAdd, Nat.reduceLeDiff, Nat.reduceBEq, decide_true, ne_eq, eq_self, not_true_eq_false, not_false_eq_true, true_imp_iff, false_imp_iff, Int.reduceNe, Int.reduceEq, Int.reduceLT, Int.reduceLE, Bool.not_true, Bool.not_false, cg]
            have hpf := (parse_e hbd)
            have z59 := (hbu).size
            refine ⟨?_, (hbu).trans ((hbf.mono z59).trans (hkg.below (by omega) (fun i h => by omega)))⟩
            unfold ParseA
            rw [hpf]
            have e9 : (((linesA s).length : Int) - ((l2 : List (List UInt8)).length : Int)) = ((((linesA s).length - (l2 : List (List UInt8)).length) : Nat) : Int) := by omega
            rw [e9] at hBf
            exact ⟨fb, by omega, rfl, hBf.kept hkg (by omega)⟩
          · have hnil : (l2 : List (List UInt8)) = [] := List.eq_nil_of_length_eq_zero (by omega)
            have hbd := body_ok hru2 (by have h9 := hsy; rw [hnil] at h9; exact h9)
            refine callK_of (hasSufTen_c s (by omega) wu1) ?_
            rintro _ wu ⟨rfl, hwu⟩
            obtain rfl := hwu.symm
            by_cases hsf : s.getLast? = some 10
            · rw [decide_eq_true hsf]
              have hpg := (hPu).prog
              obtain ⟨qa, qc, hQB, hprog⟩ := hpg
              have hc2 := hQB.cellsAt
              have hc2 : cellsAt (wu1) ⟨w7.heap.size, 0, none⟩ 0 2 = some [.slice qa acc.length qc, .bool false] := hc2
              simp -dsimp only [push_cast, Nat.reduceAdd, Nat.reduceLeDiff, Nat.reduceBEq, decide_true, ne_eq, eq_self, not_true_eq_false, not_false_eq_true, true_imp_iff, false_imp_iff, Int.reduceNe, Int.reduceEq, Int.reduceLT, Int.reduceLE, Bool.not_true, Bool.not_false, hc2]
              have hfl := fewP_len (p := ⟨acc, false⟩) (bodyA_few hbd) (by omega)
              refine callK_of (rightProgram_c ⟨acc, false⟩ hfl _ _ (wu1) (hprog (wu1) (Kept.refl _ _))) ?_
              rintro _ wv ⟨rfl, hbv⟩
              have zv := hbv.size
              have hZt := (hPu).zero
              have hZlt := hZt.lt
              have hZv := hZt.below hbv hZlt
              have hQv := hQB.below hbv hQB.lt
              have hLt := (hPu).lt
              have hLe := (hPu).le
              cases hpr : progRight ⟨acc, false⟩ with
              | true =>
                have hc3 : cellsAt wv ⟨w7.heap.size, 0, none⟩ 0 2 = some [.slice qa acc.length qc, .bool false] := hQv.cellsAt
                simp -dsimp only [push_cast, Nat.reduceAdd, Nat.reduceLeDiff, Nat.reduceBEq, decide_true, ne_eq, eq_self, not_true_eq_false, not_false_eq_true, true_imp_iff, false_imp_iff, Int.reduceNe, Int.reduceEq, Int.reduceLT, Int.reduceLE, Bool.not_true, Bool.not_false, hc3]
                refine storeAgg (n := 2) (by kernel_rfl) hZv rfl (by simp) (by simp [Value.oneCell']) ?_
                intro wy9 hwy
                have cg : cellsAt wy9 ⟨w.heap.size, 0, none⟩ 0 2 = some [.slice qa acc.length qc, .bool false] := hwy.blk.cellsAt
                have hky9 := hwy.kept
                simp -dsimp only [push_cast, Nat.reduceAdd, Nat.reduceLeDiff, Nat.reduceBEq, decide_true, ne_eq, eq_self, not_true_eq_false, not_false_eq_true, true_imp_iff, false_imp_iff, Int.reduceNe, Int.reduceEq, Int.reduceLT, Int.reduceLE, Bool.not_true, Bool.not_false, cg]
                have z59 := (hbu).size
                refine ⟨?_, (hbu).trans ((hbv.mono z59).trans (hky9.below (by omega) (fun i h => by omega)))⟩
                unfold ParseA
                rw [parse_yes hbd hsf hpr]
                refine ⟨_, rfl, ProgV.mono (hprog wy9 ((Kept.of_below hbv (fun i h1 h2 => by omega)).trans hky9 (fun i _ hi => by omega))) (fun _ _ _ => rfl) (fun b hb => by omega)⟩
              | false =>
                simp -dsimp only [push_cast, Nat.reduceAdd, Nat.reduceLeDiff, Nat.reduceBEq, decide_true, ne_eq, eq_self, not_true_eq_false, not_false_eq_true, true_imp_iff, false_imp_iff, Int.reduceNe, Int.reduceEq, Int.reduceLT, Int.reduceLE, Bool.not_true, Bool.not_false]
                refine storeAgg (n := 2) (by kernel_rfl) hZv rfl (by simp) (by simp [Value.oneCell']) ?_
                intro wy9 hwy
                have cg : cellsAt wy9 ⟨w.heap.size, 0, none⟩ 0 2 = some [.slice none 0 0, .bool false] := hwy.blk.cellsAt
                have hky9 := hwy.kept
                simp -dsimp only [push_cast, Nat.reduceAdd, Nat.reduceLeDiff, Nat.reduceBEq, decide_true, ne_eq, eq_self, not_true_eq_false, not_false_eq_true, true_imp_iff, false_imp_iff, Int.reduceNe, Int.reduceEq, Int.reduceLT, Int.reduceLE, Bool.not_true, Bool.not_false, cg]
                have z59 := (hbu).size
                refine ⟨?_, (hbu).trans ((hbv.mono z59).trans (hky9.below (by omega) (fun i h => by omega)))⟩
                unfold ParseA
                rw [parse_arg hbd hsf hpr]
            · rw [decide_eq_false hsf]
              simp -dsimp only [push_cast, Nat.reduceAdd, Nat.reduceLeDiff, Nat.reduceBEq, decide_true, ne_eq, eq_self, not_true_eq_false, not_false_eq_true, true_imp_iff, false_imp_iff, Int.reduceNe, Int.reduceEq, Int.reduceLT, Int.reduceLE, Bool.not_true, Bool.not_false]
              -- wu1: the world; hRu: reader at it; hPu: Pg; l2: its lines; hbu: Below w.heap.size w wu1; (parse_no hbd hsf): what the text is; ((linesA s).length): the line
              have cA := (hPu).all.cell (o := 0) rfl
              have cQ := (hPu).rd.cell (o := 0) rfl
              refine callK_of (failA_c (linesA s).length (by omega) va vk _ _ hRu cA cQ) ?_
              rintro _ wf9 ⟨⟨fb, hfb, rfl, hBf⟩, hbf⟩
              have zf9 := hbf.size
              have zz := (hPu).zero.lt
              have hZf := (hPu).zero.below hbf zz
              simp -dsimp only [push_cast, Nat.reduceAdd, Nat.reduceLeDiff, Nat.reduceBEq, decide_true, ne_eq, eq_self, not_true_eq_false, not_false_eq_true, true_imp_iff, false_imp_iff, Int.reduceNe, Int.reduceEq, Int.reduceLT, Int.reduceLE, Bool.not_true, Bool.not_false]
              refine storeAgg (n := 2) (by kernel_rfl) hZf rfl (by simp) (by simp [Value.oneCell']) ?_
              intro wg9 hwg9
              have zg9 := hwg9.size
              have cg : cellsAt wg9 ⟨w.heap.size, 0, none⟩ 0 2 = some [.slice none 0 0, .bool false] := hwg9.blk.cellsAt
              have hkg := hwg9.kept
              simp -dsimp only [push_cast, Nat.reduceAdd, Nat.reduceLeDiff, Nat.reduceBEq, decide_true, ne_eq, eq_self, not_true_eq_false, not_false_eq_true, true_imp_iff, false_imp_iff, Int.reduceNe, Int.reduceEq, Int.reduceLT, Int.reduceLE, Bool.not_true, Bool.not_false, cg]
              have hpf := (parse_no hbd hsf)
              have z59 := (hbu).size
              refine ⟨?_, (hbu).trans ((hbf.mono z59).trans (hkg.below (by omega) (fun i h => by omega)))⟩
              unfold ParseA
              rw [hpf]
              have e9 : (((linesA s).length : Int) - ((l2 : List (List UInt8)).length : Int)) = ((((linesA s).length) : Nat) : Int) := by omega
              rw [e9] at hBf
              exact ⟨fb, by omega, rfl, hBf.kept hkg (by omega)⟩
        · obtain rfl := hwe2.symm
          simp -dsimp only [push_cast, Nat.reduceAdd, Nat.reduceLeDiff, Nat.reduceBEq, decide_true, ne_eq, eq_self, not_true_eq_false, not_false_eq_true, true_imp_iff, false_imp_iff, Int.reduceNe, Int.reduceEq, Int.reduceLT, Int.reduceLE, Bool.not_true, Bool.not_false]
          have hse := says_err (w := elseW) hno1 hno2
          -- wu1: the world; hRz: reader at it; hPz: Pg; ([] : List (List UInt8)): its lines; hbz: Below w.heap.size w wu1; (parse_e (body_e2 hru2 hse)): what the text is; ((linesA s).length - (([] : List (List UInt8)) : List (List UInt8)).length): the line
          have cA := (hPz).all.cell (o := 0) rfl
          have cQ := (hPz).rd.cell (o := 0) rfl
          refine callK_of (failA_c (linesA s).length (by omega) va vk _ _ hRz cA cQ) ?_
          rintro _ wf9 ⟨⟨fb, hfb, rfl, hBf⟩, hbf⟩
          have zf9 := hbf.size
          have zz := (hPz).zero.lt
          have hZf := (hPz).zero.below hbf zz
          simp -dsimp only [push_cast, Nat.reduceAdd, Nat.reduceLeDiff, Nat.reduceBEq, decide_true, ne_eq, eq_self, not_true_eq_false, not_false_eq_true, true_imp_iff, false_imp_iff, Int.reduceNe, Int.reduceEq, Int.reduceLT, Int.reduceLE, Bool.not_true, Bool.not_false]
          refine storeAgg (n := 2) (by kernel_rfl) hZf rfl (by simp) (by simp [Value.oneCell']) ?_
          intro wg9 hwg9
          have zg9 := hwg9.size
          have cg : cellsAt wg9 ⟨w.heap.size, 0, none⟩ 0 2 = some [.slice none 0 0, .bool false] := hwg9.blk.cellsAt
          have hkg := hwg9.kept
          simp -dsimp only [push_cast, Nat.reduceAdd, Nat.reduceLeDiff, Nat.reduceBEq, decide_true, ne_eq, eq_self, not_true_eq_false, not_false_eq_true, true_imp_iff, false_imp_iff, Int.reduceNe, Int.reduceEq, Int.reduceLT, Int.reduceLE, Bool.not_true, Bool.not_false, cg]
          have hpf := (parse_e (body_e2 hru2 hse))
          have z59 := (hbz).size
          refine ⟨?_, (hbz).trans ((hbf.mono z59).trans (hkg.below (by omega) (fun i h => by omega)))⟩
          unfold ParseA
          rw [hpf]
          have e9 : (((linesA s).length : Int) - ((([] : List (List UInt8)) : List (List UInt8)).length : Int)) = ((((linesA s).length - (([] : List (List UInt8)) : List (List UInt8)).length) : Nat) : Int) := by omega
          rw [e9] at hBf
          exact ⟨fb, by omega, rfl, hBf.kept hkg (by omega)⟩
    | cons t r =>
      obtain ⟨b, o, k, hB, hk, hcell⟩ := hR.hd
      have cb : wx.cell? ⟨w4.heap.size, 0, none⟩ = some (.slice (some ⟨b, o, none⟩) (r.length + 1) k) := hB.cell rfl
      have htx := hR.txt t List.mem_cons_self
      simp -dsimp only [push_cast, Nat.reduceAdd, Nat.reduceLeDiff, Nat.reduceBEq, decide_true, ne_eq, eq_self, not_true_eq_false, not_false_eq_true, true_imp_iff, false_imp_iff, Int.reduceNe, Int.reduceEq, Int.reduceLT, Int.reduceLE, Bool.not_true, Bool.not_false, cQx, cb, hcell]
      refine ⟨fun _ => ⟨by omega, ?_⟩, fun h0 => by omega⟩
      refine callK_of (hasPre_c t [114, 117, 108, 101, 32] wx) ?_
      rintro _ wy ⟨rfl, hwe⟩
      obtain rfl : wx = wy := hwe.symm
      cases hpr : ([114, 117, 108, 101, 32] : List UInt8).isPrefixOf t with
      | false =>
        have hend : ruleStartA (t :: r) = false := hpr
        simp -dsimp only [push_cast, Nat.reduceAdd, Nat.reduceLeDiff, Nat.reduceBEq, decide_true, ne_eq, eq_self, not_true_eq_false, not_false_eq_true, true_imp_iff, false_imp_iff, Int.reduceNe, Int.reduceEq, Int.reduceLT, Int.reduceLE, Bool.not_true, Bool.not_false, cQx]
        -- (t :: r): the lines; hend: no rule begins there
        have hru2 := hru.trans (rules_end hend)
        have hle5 := hP.le
        refine callK_of (takeA_c [101, 108, 115, 101, 32, 98, 114, 101, 97, 107] hR) ?_
        rintro _ wy hr
        rcases hr with ⟨l2, hl2, rfl, hRy, hky, hzy⟩ | ⟨hno1, rfl, hwe⟩
        · have hl2n : ((t :: r) : List (List UInt8)).length = l2.length + 1 := congrArg List.length hl2
          have hPy := hP.kept hky
          have hsays := hPy.says
          obtain ⟨pa, pc, hPb, hset⟩ := hsays
          have hby := hbx.trans (hky.below (by omega) (fun i h => by omega))
          simp -dsimp only [push_cast, Nat.reduceAdd, Nat.reduceLeDiff, Nat.reduceBEq, decide_true, ne_eq, eq_self, not_true_eq_false, not_false_eq_true, true_imp_iff, false_imp_iff, Int.reduceNe, Int.reduceEq, Int.reduceLT, Int.reduceLE, Bool.not_true, Bool.not_false]
          refine storeK_of hPb (by simp) rfl ?_
          intro wz hwz
          have zz1 := hwz.size
          have hPz := hset true wz hwz
          have hRz := hRy.kept hwz.kept (fun i hi => by rw [hX]; exact .inr (by omega)) (by omega)
          have hbz := hby.trans (hwz.kept.below (by omega) (fun i h => by omega))
          have d1 : wz.cell? ⟨w7.heap.size, 1, none⟩ = some (.bool true) := hwz.blk.cell rfl
          have hsy : saysA elseW (t :: r) = .ok (true, l2) := by rw [hl2]; exact says_put elseW true l2
          simp -dsimp only [push_cast, Nat.reduceAdd, Nat.reduceLeDiff, Nat.reduceBEq, decide_true, ne_eq, eq_self, not_true_eq_false, not_false_eq_true, true_imp_iff, false_imp_iff, Int.reduceNe, Int.reduceEq, Int.reduceLT, Int.reduceLE, Bool.not_true, Bool.not_false, d1]
          -- wz: the world; hRz: reader at it; hPz: Pg; l2: its lines; hbz: Below; true: else; hsy: saysA
          have hlen9 : (l2 : List (List UInt8)).length ≤ (linesA s).length := by omega
          have hRt := hRz
          obtain ⟨tv, ht1, ht2⟩ := hRt.st
          obtain ⟨ta, tc, rfl, htc⟩ := ht2.shape
          have cbt : (wz).cell? ⟨w4.heap.size, 0, none⟩ = some (.slice ta (l2 : List (List UInt8)).length tc) := ht1.cell rfl
          have cQt := (hPz).rd.cell (o := 0) rfl
          simp -dsimp only [push_cast, Nat.reduceAdd, Nat.reduceLeDiff, Nat.reduceBEq, decide_true, ne_eq, eq_self, not_true_eq_false, not_false_eq_true, true_imp_iff, false_imp_iff, Int.reduceNe, Int.reduceEq, Int.reduceLT, Int.reduceLE, Bool.not_true, Bool.not_false, cQt, cbt]
          refine ⟨fun hpos => ?_, fun hnp => ?_⟩
          · have hbd := body_left hru2 hsy (by omega)
            -- wz: the world; hRz: reader at it; hPz: Pg; l2: its lines; hbz: Below w.heap.size w wz; (parse_e hbd): what the text is; ((linesA s).length - (l2 : List (List UInt8)).length): the line
            have cA := (hPz).all.cell (o := 0) rfl
            have cQ := (hPz).rd.cell (o := 0) rfl
            refine callK_of (failA_c (linesA s).length (by omega) va vk _ _ hRz cA cQ) ?_
            rintro _ wf9 ⟨⟨fb, hfb, rfl, hBf⟩, hbf⟩
            have zf9 := hbf.size
            have zz := (hPz).zero.lt
            have hZf := (hPz).zero.below hbf zz
            simp -dsimp only [push_cast, Nat.reduceAdd, Nat.reduceLeDiff, Nat.reduceBEq, decide_true, ne_eq, eq_self, not_true_eq_false, not_false_eq_true, true_imp_iff, false_imp_iff, Int.reduceNe, Int.reduceEq, Int.reduceLT, Int.reduceLE, Bool.not_true, Bool.not_false]
            refine storeAgg (n := 2) (by kernel_rfl) hZf rfl (by simp) (by simp [Value.oneCell']) ?_
            intro wg9 hwg9
            have zg9 := hwg9.size
            have cg : cellsAt wg9 ⟨w.heap.size, 0, none⟩ 0 2 = some [.slice none 0 0, .bool false] := hwg9.blk.cellsAt
            have hkg := hwg9.kept
            simp -dsimp only [push_cast, Nat.reduceAdd, Nat.reduceLeDiff, Nat.reduceBEq, decide_true, ne_eq, eq_self, not_true_eq_false, not_false_eq_true, true_imp_iff, false_imp_iff, Int.reduceNe, Int.reduceEq, Int.reduceLT, Int.reduceLE, Bool.not_true, Bool.not_false, cg]
            have hpf := (parse_e hbd)
            have z59 := (hbz).size
            refine ⟨?_, (hbz).trans ((hbf.mono z59).trans (hkg.below (by omega) (fun i h => by omega)))⟩
            unfold ParseA
            rw [hpf]
            have e9 : (((linesA s).length : Int) - ((l2 : List (List UInt8)).length : Int)) = ((((linesA s).length - (l2 : List (List UInt8)).length) : Nat) : Int) := by omega
            rw [e9] at hBf
            exact ⟨fb, by omega, rfl, hBf.kept hkg (by omega)⟩
          · have hnil : (l2 : List (List UInt8)) = [] := List.eq_nil_of_length_eq_zero (by omega)
            have hbd := body_ok hru2 (by have h9 := hsy; rw [hnil] at h9; exact h9)
            refine callK_of (hasSufTen_c s (by omega) wz) ?_
            rintro _ wu ⟨rfl, hwu⟩
            obtain rfl := hwu.symm
            by_cases hsf : s.getLast? = some 10
            · rw [decide_eq_true hsf]
              have hpg := (hPz).prog
              obtain ⟨qa, qc, hQB, hprog⟩ := hpg
              have hc2 := hQB.cellsAt
              have hc2 : cellsAt (wz) ⟨w7.heap.size, 0, none⟩ 0 2 = some [.slice qa acc.length qc, .bool true] := hc2
              simp -dsimp only [push_cast, Nat.reduceAdd, Nat.reduceLeDiff, Nat.reduceBEq, decide_true, ne_eq, eq_self, not_true_eq_false, not_false_eq_true, true_imp_iff, false_imp_iff, Int.reduceNe, Int.reduceEq, Int.reduceLT, Int.reduceLE, Bool.not_true, Bool.not_false, hc2]
              have hfl := fewP_len (p := ⟨acc, true⟩) (bodyA_few hbd) (by omega)
              refine callK_of (rightProgram_c ⟨acc, true⟩ hfl _ _ (wz) (hprog (wz) (Kept.refl _ _))) ?_
              rintro _ wv ⟨rfl, hbv⟩
              have zv := hbv.size
              have hZt := (hPz).zero
              have hZlt := hZt.lt
              have hZv := hZt.below hbv hZlt
              have hQv := hQB.below hbv hQB.lt
              have hLt := (hPz).lt
              have hLe := (hPz).le
              cases hpr : progRight ⟨acc, true⟩ with
              | true =>
                have hc3 : cellsAt wv ⟨w7.heap.size, 0, none⟩ 0 2 = some [.slice qa acc.length qc, .bool true] := hQv.cellsAt
                simp -dsimp only [push_cast, Nat.reduceAdd, Nat.reduceLeDiff, Nat.reduceBEq, decide_true, ne_eq, eq_self, not_true_eq_false, not_false_eq_true, true_imp_iff, false_imp_iff, Int.reduceNe, Int.reduceEq, Int.reduceLT, Int.reduceLE, Bool.not_true, Bool.not_false, hc3]
                refine storeAgg (n := 2) (by kernel_rfl) hZv rfl (by simp) (by simp [Value.oneCell']) ?_
                intro wy9 hwy
                have cg : cellsAt wy9 ⟨w.heap.size, 0, none⟩ 0 2 = some [.slice qa acc.length qc, .bool true] := hwy.blk.cellsAt
                have hky9 := hwy.kept
                simp -dsimp only [push_cast, Nat.reduceAdd, Nat.reduceLeDiff, Nat.reduceBEq, decide_true, ne_eq, eq_self, not_true_eq_false, not_false_eq_true, true_imp_iff, false_imp_iff, Int.reduceNe, Int.reduceEq, Int.reduceLT, Int.reduceLE, Bool.not_true, Bool.not_false, cg]
                have z59 := (hbz).size
                refine ⟨?_, (hbz).trans ((hbv.mono z59).trans (hky9.below (by omega) (fun i h => by omega)))⟩
                unfold ParseA
                rw [parse_yes hbd hsf hpr]
                refine ⟨_, rfl, ProgV.mono (hprog wy9 ((Kept.of_below hbv (fun i h1 h2 => by omega)).trans hky9 (fun i _ hi => by omega))) (fun _ _ _ => rfl) (fun b hb => by omega)⟩
              | false =>
                simp -dsimp only [push_cast, Nat.reduceAdd, Nat.reduceLeDiff, Nat.reduceBEq, decide_true, ne_eq, eq_self, not_true_eq_false, not_false_eq_true, true_imp_iff, false_imp_iff, Int.reduceNe, Int.reduceEq, Int.reduceLT, Int.reduceLE, Bool.not_true, Bool.not_false]
                refine storeAgg (n := 2) (by kernel_rfl) hZv rfl (by simp) (by simp [Value.oneCell']) ?_
                intro wy9 hwy
                have cg : cellsAt wy9 ⟨w.heap.size, 0, none⟩ 0 2 = some [.slice none 0 0, .bool false] := hwy.blk.cellsAt
                have hky9 := hwy.kept
                simp -dsimp only [push_cast, Nat.reduceAdd, Nat.reduceLeDiff, Nat.reduceBEq, decide_true, ne_eq, eq_self, not_true_eq_false, not_false_eq_true, true_imp_iff, false_imp_iff, Int.reduceNe, Int.reduceEq, Int.reduceLT, Int.reduceLE, Bool.not_true, Bool.not_false, cg]
                have z59 := (hbz).size
                refine ⟨?_, (hbz).trans ((hbv.mono z59).trans (hky9.below (by omega) (fun i h => by omega)))⟩
                unfold ParseA
                rw [parse_arg hbd hsf hpr]
            · rw [decide_eq_false hsf]
              simp -dsimp only [push_cast, Nat.reduceAdd, Nat.reduceLeDiff, Nat.reduceBEq, decide_true, ne_eq, eq_self, not_true_eq_false, not_false_eq_true, true_imp_iff, false_imp_iff, Int.reduceNe, Int.reduceEq, Int.reduceLT, Int.reduceLE, Bool.not_true, Bool.not_false]
              -- wz: the world; hRz: reader at it; hPz: Pg; l2: its lines; hbz: Below w.heap.size w wz; (parse_no hbd hsf): what the text is; ((linesA s).length): the line
              have cA := (hPz).all.cell (o := 0) rfl
              have cQ := (hPz).rd.cell (o := 0) rfl
              refine callK_of (failA_c (linesA s).length (by omega) va vk _ _ hRz cA cQ) ?_
              rintro _ wf9 ⟨⟨fb, hfb, rfl, hBf⟩, hbf⟩
              have zf9 := hbf.size
              have zz := (hPz).zero.lt
              have hZf := (hPz).zero.below hbf zz
              simp -dsimp only [push_cast, Nat.reduceAdd, Nat.reduceLeDiff, Nat.reduceBEq, decide_true, ne_eq, eq_self, not_true_eq_false, not_false_eq_true, true_imp_iff, false_imp_iff, Int.reduceNe, Int.reduceEq, Int.reduceLT, Int.reduceLE, Bool.not_true, Bool.not_false]
              refine storeAgg (n := 2) (by kernel_rfl) hZf rfl (by simp) (by simp [Value.oneCell']) ?_
              intro wg9 hwg9
              have zg9 := hwg9.size
              have cg : cellsAt wg9 ⟨w.heap.size, 0, none⟩ 0 2 = some [.slice none 0 0, .bool false] := hwg9.blk.cellsAt
              have hkg := hwg9.kept
              simp -dsimp only [push_cast, Nat.reduceAdd, Nat.reduceLeDiff, Nat.reduceBEq, decide_true, ne_eq, eq_self, not_true_eq_false, not_false_eq_true, true_imp_iff, false_imp_iff, Int.reduceNe, Int.reduceEq, Int.reduceLT, Int.reduceLE, Bool.not_true, Bool.not_false, cg]
              have hpf := (parse_no hbd hsf)
              have z59 := (hbz).size
              refine ⟨?_, (hbz).trans ((hbf.mono z59).trans (hkg.below (by omega) (fun i h => by omega)))⟩
              unfold ParseA
              rw [hpf]
              have e9 : (((linesA s).length : Int) - ((l2 : List (List UInt8)).length : Int)) = ((((linesA s).length) : Nat) : Int) := by omega
              rw [e9] at hBf
              exact ⟨fb, by omega, rfl, hBf.kept hkg (by omega)⟩
        · obtain rfl : wx = wy := hwe.symm
          have hsays := hP.says
          obtain ⟨pa, pc, hPb, hset⟩ := hsays
          simp -dsimp only [push_cast, Nat.reduceAdd, Nat.reduceLeDiff, Nat.reduceBEq, decide_true, ne_eq, eq_self, not_true_eq_false, not_false_eq_true, true_imp_iff, false_imp_iff, Int.reduceNe, Int.reduceEq, Int.reduceLT, Int.reduceLE, Bool.not_true, Bool.not_false]
          refine storeK_of hPb (by simp) rfl ?_
          intro wz hwz
          have zz1 := hwz.size
          have hPz := hset false wz hwz
          have hRz := hR.kept hwz.kept (fun i hi => by rw [hX]; exact .inr (by omega)) (by omega)
          have hbz := hbx.trans (hwz.kept.below (by omega) (fun i h => by omega))
          have d1 : wz.cell? ⟨w7.heap.size, 1, none⟩ = some (.bool false) := hwz.blk.cell rfl
          have cQz := hPz.rd.cell (o := 0) rfl
          simp -dsimp only [push_cast, Nat.reduceAdd, Nat.reduceLeDiff, Nat.reduceBEq, decide_true, ne_eq, eq_self, not_true_eq_false, not_false_eq_true, true_imp_iff, false_imp_iff, Int.reduceNe, Int.reduceEq, Int.reduceLT, Int.reduceLE, Bool.not_true, Bool.not_false, d1, cQz]
          refine callK_of (takeA_c [101, 108, 115, 101, 32, 107, 101, 101, 112] hRz) ?_
          rintro _ wu1 hr
          rcases hr with ⟨l2, hl2, rfl, hRu, hku, hzu⟩ | ⟨hno2, rfl, hwe2⟩
          · have hl2n : ((t :: r) : List (List UInt8)).length = l2.length + 1 := congrArg List.length hl2
            have hPu := hPz.kept hku
            have hbu := hbz.trans (hku.below (by omega) (fun i h => by omega))
            have hsy : saysA elseW (t :: r) = .ok (false, l2) := by rw [hl2]; exact says_put elseW false l2
            simp -dsimp only [push_cast, Nat.reduceAdd, Nat.reduceLeDiff, Nat.reduceBEq, decide_true, ne_eq, eq_self, not_true_eq_false, not_false_eq_true, true_imp_iff, false_imp_iff, Int.reduceNe, Int.reduceEq, Int.reduceLT, Int.reduceLE, Bool.not_true, Bool.not_false]
            -- wu1: the world; hRu: reader at it; hPu: Pg; l2: its lines; hbu: Below; false: else; hsy: saysA
            have hlen9 : (l2 : List (List UInt8)).length ≤ (linesA s).length := by omega
            have hRt := hRu
            obtain ⟨tv, ht1, ht2⟩ := hRt.st
            obtain ⟨ta, tc, rfl, htc⟩ := ht2.shape
            have cbt : (wu1).cell? ⟨w4.heap.size, 0, none⟩ = some (.slice ta (l2 : List (List UInt8)).length tc) := ht1.cell rfl
            have cQt := (hPu).rd.cell (o := 0) rfl
            simp -dsimp only [push_cast, Nat.reduceAdd, Nat.reduceLeDiff, Nat.reduceBEq, decide_true, ne_eq, eq_self, not_true_eq_false, not_false_eq_true, true_imp_iff, false_imp_iff, Int.reduceNe, Int.reduceEq, Int.reduceLT, Int.reduceLE, Bool.not_true, Bool.not_false, cQt, cbt]
            refine ⟨fun hpos => ?_, fun hnp => ?_⟩
            · have hbd := body_left hru2 hsy (by omega)
              -- wu1: the world; hRu: reader at it; hPu: Pg; l2: its lines; hbu: Below w.heap.size w wu1; (parse_e hbd): what the text is; ((linesA s).length - (l2 : List (List UInt8)).length): the line
              have cA := (hPu).all.cell (o := 0) rfl
              have cQ := (hPu).rd.cell (o := 0) rfl
              refine callK_of (failA_c (linesA s).length (by omega) va vk _ _ hRu cA cQ) ?_
              rintro _ wf9 ⟨⟨fb, hfb, rfl, hBf⟩, hbf⟩
              have zf9 := hbf.size
              have zz := (hPu).zero.lt
              have hZf := (hPu).zero.below hbf zz
              simp -dsimp only [push_cast, Nat.reduceAdd, Nat.reduceLeDiff, Nat.reduceBEq, decide_true, ne_eq, eq_self, not_true_eq_false, not_false_eq_true, true_imp_iff, false_imp_iff, Int.reduceNe, Int.reduceEq, Int.reduceLT, Int.reduceLE, Bool.not_true, Bool.not_false]
              refine storeAgg (n := 2) (by kernel_rfl) hZf rfl (by simp) (by simp [Value.oneCell']) ?_
              intro wg9 hwg9
              have zg9 := hwg9.size
              have cg : cellsAt wg9 ⟨w.heap.size, 0, none⟩ 0 2 = some [.slice none 0 0, .bool false] := hwg9.blk.cellsAt
              have hkg := hwg9.kept
              simp -dsimp only [push_cast, Nat.reduceAdd, Nat.reduceLeDiff, Nat.reduceBEq, decide_true, ne_eq, eq_self, not_true_eq_false, not_false_eq_true, true_imp_iff, false_imp_iff, Int.reduceNe, Int.reduceEq, Int.reduceLT, Int.reduceLE, Bool.not_true, Bool.not_false, cg]
              have hpf := (parse_e hbd)
              have z59 := (hbu).size
              refine ⟨?_, (hbu).trans ((hbf.mono z59).trans (hkg.below (by omega) (fun i h => by omega)))⟩
              unfold ParseA
              rw [hpf]
              have e9 : (((linesA s).length : Int) - ((l2 : List (List UInt8)).length : Int)) = ((((linesA s).length - (l2 : List (List UInt8)).length) : Nat) : Int) := by omega
              rw [e9] at hBf
              exact ⟨fb, by omega, rfl, hBf.kept hkg (by omega)⟩
            · have hnil : (l2 : List (List UInt8)) = [] := List.eq_nil_of_length_eq_zero (by omega)
              have hbd := body_ok hru2 (by have h9 := hsy; rw [hnil] at h9; exact h9)
              refine callK_of (hasSufTen_c s (by omega) wu1) ?_
              rintro _ wu ⟨rfl, hwu⟩
              obtain rfl := hwu.symm
              by_cases hsf : s.getLast? = some 10
              · rw [decide_eq_true hsf]
                have hpg := (hPu).prog
                obtain ⟨qa, qc, hQB, hprog⟩ := hpg
                have hc2 := hQB.cellsAt
                have hc2 : cellsAt (wu1) ⟨w7.heap.size, 0, none⟩ 0 2 = some [.slice qa acc.length qc, .bool false] := hc2
                simp -dsimp only [push_cast, Nat.reduceAdd, Nat.reduceLeDiff, Nat.reduceBEq, decide_true, ne_eq, eq_self, not_true_eq_false, not_false_eq_true, true_imp_iff, false_imp_iff, Int.reduceNe, Int.reduceEq, Int.reduceLT, Int.reduceLE, Bool.not_true, Bool.not_false, hc2]
                have hfl := fewP_len (p := ⟨acc, false⟩) (bodyA_few hbd) (by omega)
                refine callK_of (rightProgram_c ⟨acc, false⟩ hfl _ _ (wu1) (hprog (wu1) (Kept.refl _ _))) ?_
                rintro _ wv ⟨rfl, hbv⟩
                have zv := hbv.size
                have hZt := (hPu).zero
                have hZlt := hZt.lt
                have hZv := hZt.below hbv hZlt
                have hQv := hQB.below hbv hQB.lt
                have hLt := (hPu).lt
                have hLe := (hPu).le
                cases hpr : progRight ⟨acc, false⟩ with
                | true =>
                  have hc3 : cellsAt wv ⟨w7.heap.size, 0, none⟩ 0 2 = some [.slice qa acc.length qc, .bool false] := hQv.cellsAt
                  simp -dsimp only [push_cast, Nat.reduceAdd, Nat.reduceLeDiff, Nat.reduceBEq, decide_true, ne_eq, eq_self, not_true_eq_false, not_false_eq_true, true_imp_iff, false_imp_iff, Int.reduceNe, Int.reduceEq, Int.reduceLT, Int.reduceLE, Bool.not_true, Bool.not_false, hc3]
                  refine storeAgg (n := 2) (by kernel_rfl) hZv rfl (by simp) (by simp [Value.oneCell']) ?_
                  intro wy9 hwy
                  have cg : cellsAt wy9 ⟨w.heap.size, 0, none⟩ 0 2 = some [.slice qa acc.length qc, .bool false] := hwy.blk.cellsAt
                  have hky9 := hwy.kept
                  simp -dsimp only [push_cast, Nat.reduceAdd, Nat.reduceLeDiff, Nat.reduceBEq, decide_true, ne_eq, eq_self, not_true_eq_false, not_false_eq_true, true_imp_iff, false_imp_iff, Int.reduceNe, Int.reduceEq, Int.reduceLT, Int.reduceLE, Bool.not_true, Bool.not_false, cg]
                  have z59 := (hbu).size
                  refine ⟨?_, (hbu).trans ((hbv.mono z59).trans (hky9.below (by omega) (fun i h => by omega)))⟩
                  unfold ParseA
                  rw [parse_yes hbd hsf hpr]
                  refine ⟨_, rfl, ProgV.mono (hprog wy9 ((Kept.of_below hbv (fun i h1 h2 => by omega)).trans hky9 (fun i _ hi => by omega))) (fun _ _ _ => rfl) (fun b hb => by omega)⟩
                | false =>
                  simp -dsimp only [push_cast, Nat.reduceAdd, Nat.reduceLeDiff, Nat.reduceBEq, decide_true, ne_eq, eq_self, not_true_eq_false, not_false_eq_true, true_imp_iff, false_imp_iff, Int.reduceNe, Int.reduceEq, Int.reduceLT, Int.reduceLE, Bool.not_true, Bool.not_false]
                  refine storeAgg (n := 2) (by kernel_rfl) hZv rfl (by simp) (by simp [Value.oneCell']) ?_
                  intro wy9 hwy
                  have cg : cellsAt wy9 ⟨w.heap.size, 0, none⟩ 0 2 = some [.slice none 0 0, .bool false] := hwy.blk.cellsAt
                  have hky9 := hwy.kept
                  simp -dsimp only [push_cast, Nat.reduceAdd, Nat.reduceLeDiff, Nat.reduceBEq, decide_true, ne_eq, eq_self, not_true_eq_false, not_false_eq_true, true_imp_iff, false_imp_iff, Int.reduceNe, Int.reduceEq, Int.reduceLT, Int.reduceLE, Bool.not_true, Bool.not_false, cg]
                  have z59 := (hbu).size
                  refine ⟨?_, (hbu).trans ((hbv.mono z59).trans (hky9.below (by omega) (fun i h => by omega)))⟩
                  unfold ParseA
                  rw [parse_arg hbd hsf hpr]
              · rw [decide_eq_false hsf]
                simp -dsimp only [push_cast, Nat.reduceAdd, Nat.reduceLeDiff, Nat.reduceBEq, decide_true, ne_eq, eq_self, not_true_eq_false, not_false_eq_true, true_imp_iff, false_imp_iff, Int.reduceNe, Int.reduceEq, Int.reduceLT, Int.reduceLE, Bool.not_true, Bool.not_false]
                -- wu1: the world; hRu: reader at it; hPu: Pg; l2: its lines; hbu: Below w.heap.size w wu1; (parse_no hbd hsf): what the text is; ((linesA s).length): the line
                have cA := (hPu).all.cell (o := 0) rfl
                have cQ := (hPu).rd.cell (o := 0) rfl
                refine callK_of (failA_c (linesA s).length (by omega) va vk _ _ hRu cA cQ) ?_
                rintro _ wf9 ⟨⟨fb, hfb, rfl, hBf⟩, hbf⟩
                have zf9 := hbf.size
                have zz := (hPu).zero.lt
                have hZf := (hPu).zero.below hbf zz
                simp -dsimp only [push_cast, Nat.reduceAdd, Nat.reduceLeDiff, Nat.reduceBEq, decide_true, ne_eq, eq_self, not_true_eq_false, not_false_eq_true, true_imp_iff, false_imp_iff, Int.reduceNe, Int.reduceEq, Int.reduceLT, Int.reduceLE, Bool.not_true, Bool.not_false]
                refine storeAgg (n := 2) (by kernel_rfl) hZf rfl (by simp) (by simp [Value.oneCell']) ?_
                intro wg9 hwg9
                have zg9 := hwg9.size
                have cg : cellsAt wg9 ⟨w.heap.size, 0, none⟩ 0 2 = some [.slice none 0 0, .bool false] := hwg9.blk.cellsAt
                have hkg := hwg9.kept
                simp -dsimp only [push_cast, Nat.reduceAdd, Nat.reduceLeDiff, Nat.reduceBEq, decide_true, ne_eq, eq_self, not_true_eq_false, not_false_eq_true, true_imp_iff, false_imp_iff, Int.reduceNe, Int.reduceEq, Int.reduceLT, Int.reduceLE, Bool.not_true, Bool.not_false, cg]
                have hpf := (parse_no hbd hsf)
                have z59 := (hbu).size
                refine ⟨?_, (hbu).trans ((hbf.mono z59).trans (hkg.below (by omega) (fun i h => by omega)))⟩
                unfold ParseA
                rw [hpf]
                have e9 : (((linesA s).length : Int) - ((l2 : List (List UInt8)).length : Int)) = ((((linesA s).length) : Nat) : Int) := by omega
                rw [e9] at hBf
                exact ⟨fb, by omega, rfl, hBf.kept hkg (by omega)⟩
          · obtain rfl := hwe2.symm
            simp -dsimp only [push_cast, Nat.reduceAdd, Nat.reduceLeDiff, Nat.reduceBEq, decide_true, ne_eq, eq_self, not_true_eq_false, not_false_eq_true, true_imp_iff, false_imp_iff, Int.reduceNe, Int.reduceEq, Int.reduceLT, Int.reduceLE, Bool.not_true, Bool.not_false]
            have hse := says_err (w := elseW) hno1 hno2
            -- wu1: the world; hRz: reader at it; hPz: Pg; (t :: r): its lines; hbz: Below w.heap.size w wu1; (parse_e (body_e2 hru2 hse)): what the text is; ((linesA s).length - ((t :: r) : List (List UInt8)).length): the line
            have cA := (hPz).all.cell (o := 0) rfl
            have cQ := (hPz).rd.cell (o := 0) rfl
            refine callK_of (failA_c (linesA s).length (by omega) va vk _ _ hRz cA cQ) ?_
            rintro _ wf9 ⟨⟨fb, hfb, rfl, hBf⟩, hbf⟩
            have zf9 := hbf.size
            have zz := (hPz).zero.lt
            have hZf := (hPz).zero.below hbf zz
            simp -dsimp only [push_cast, Nat.reduceAdd, Nat.reduceLeDiff, Nat.reduceBEq, decide_true, ne_eq, eq_self, not_true_eq_false, not_false_eq_true, true_imp_iff, false_imp_iff, Int.reduceNe, Int.reduceEq, Int.reduceLT, Int.reduceLE, Bool.not_true, Bool.not_false]
            refine storeAgg (n := 2) (by kernel_rfl) hZf rfl (by simp) (by simp [Value.oneCell']) ?_
            intro wg9 hwg9
            have zg9 := hwg9.size
            have cg : cellsAt wg9 ⟨w.heap.size, 0, none⟩ 0 2 = some [.slice none 0 0, .bool false] := hwg9.blk.cellsAt
            have hkg := hwg9.kept
            simp -dsimp only [push_cast, Nat.reduceAdd, Nat.reduceLeDiff, Nat.reduceBEq, decide_true, ne_eq, eq_self, not_true_eq_false, not_false_eq_true, true_imp_iff, false_imp_iff, Int.reduceNe, Int.reduceEq, Int.reduceLT, Int.reduceLE, Bool.not_true, Bool.not_false, cg]
            have hpf := (parse_e (body_e2 hru2 hse))
            have z59 := (hbz).size
            refine ⟨?_, (hbz).trans ((hbf.mono z59).trans (hkg.below (by omega) (fun i h => by omega)))⟩
            unfold ParseA
            rw [hpf]
            have e9 : (((linesA s).length : Int) - (((t :: r) : List (List UInt8)).length : Int)) = ((((linesA s).length - ((t :: r) : List (List UInt8)).length) : Nat) : Int) := by omega
            rw [e9] at hBf
            exact ⟨fb, by omega, rfl, hBf.kept hkg (by omega)⟩
      | true =>
        have hst : ruleStartA (t :: r) = true := hpr
        simp -dsimp only [push_cast, Nat.reduceAdd, Nat.reduceLeDiff, Nat.reduceBEq, decide_true, ne_eq, eq_self, not_true_eq_false, not_false_eq_true, true_imp_iff, false_imp_iff, Int.reduceNe, Int.reduceEq, Int.reduceLT, Int.reduceLE, Bool.not_true, Bool.not_false, cQx]
        rw [List.length_cons] at hln hlL
        refine callK_of (takeA_c [114, 117, 108, 101, 32, 98, 114, 101, 97, 107] hR) ?_
        rintro _ wy hr
        rcases hr with ⟨l1, hl1, rfl, hRy, hky, hzy⟩ | ⟨hno1, rfl, hwe⟩
        · have hl1n : r.length + 1 = l1.length + 1 := congrArg List.length hl1
          have hsy : saysA ruleW (t :: r) = .ok (true, l1) := by rw [hl1]; exact says_put ruleW true l1
          simp -dsimp only [push_cast, Nat.reduceAdd, Nat.reduceLeDiff, Nat.reduceBEq, decide_true, ne_eq, eq_self, not_true_eq_false, not_false_eq_true, true_imp_iff, false_imp_iff, Int.reduceNe, Int.reduceEq, Int.reduceLT, Int.reduceLE, Bool.not_true, Bool.not_false]
          refine allocK (z := [.bool false, .slice none 0 0, .slice none 0 0, .slice none 0 0, .slice none 0 0]) (by kernel_rfl) ?_
          intro wa hwa
          have zwa := hwa.size
          simp -dsimp only [push_cast, Nat.reduceAdd, Nat.reduceLeDiff, Nat.reduceBEq, decide_true, ne_eq, eq_self, not_true_eq_false, not_false_eq_true, true_imp_iff, false_imp_iff, Int.reduceNe, Int.reduceEq, Int.reduceLT, Int.reduceLE, Bool.not_true, Bool.not_false]
          refine storeAgg (n := 5) (by kernel_rfl) hwa.blk rfl (by simp) (by simp [Value.oneCell']) ?_
          intro wb hwb
          have zwb := hwb.size
          have Xb : Blk wb wy.heap.size 45 [.bool true, .slice none 0 0, .slice none 0 0, .slice none 0 0, .slice none 0 0] := hwb.blk
          have x0 : wb.cell? ⟨wy.heap.size, 0, none⟩ = some (.bool true) := Xb.cell rfl
          have kb := (hky.trans (Kept.new hwa (X := fun _ => False)) (fun _ _ h => h.elim)).trans hwb.kept (fun i hi hh => by omega)
          have hRb := (hRy.kept (Kept.new hwa (X := fun _ => False)) (fun _ h => h.elim) id).kept hwb.kept (fun i hi => by rw [hX]; exact .inr (by omega)) (by omega)
          simp -dsimp only [push_cast, Nat.reduceAdd, Nat.reduceLeDiff, Nat.reduceBEq, decide_true, ne_eq, eq_self, not_true_eq_false, not_false_eq_true, true_imp_iff, false_imp_iff, Int.reduceNe, Int.reduceEq, Int.reduceLT, Int.reduceLE, Bool.not_true, Bool.not_false, x0]
          -- wb: the world; hRb: reader; l1: lines; Xb: Blk of the pair; true: break; kb: Kept from wx; hsy: saysA; wy.heap.size: the pair's block
          have ka := kb
          have za := ka.size
          have hle5 := hP.le
          have hPa := hP.kept ka
          have hba := hbx.trans (ka.below (B := w.heap.size) (by omega) (fun i h => by omega))
          have cQa := hPa.rd.cell (o := 0) rfl
          simp -dsimp only [push_cast, Nat.reduceAdd, Nat.reduceLeDiff, Nat.reduceBEq, decide_true, ne_eq, eq_self, not_true_eq_false, not_false_eq_true, true_imp_iff, false_imp_iff, Int.reduceNe, Int.reduceEq, Int.reduceLT, Int.reduceLE, Bool.not_true, Bool.not_false, cQa]
          refine callK_of (readCode_c l1 hRb (hv.below hba hg) (by omega)) ?_
          rintro _ wc ⟨l2, hRc, ⟨a1, n1, c1, a2, n2, c2, is1, rfl, hca⟩, hkc⟩
          have zc := hkc.size
          have kc := ka.trans hkc (fun i hi hh => by omega)
          simp -dsimp only [push_cast, Nat.reduceAdd, Nat.reduceLeDiff, Nat.reduceBEq, decide_true, ne_eq, eq_self, not_true_eq_false, not_false_eq_true, true_imp_iff, false_imp_iff, Int.reduceNe, Int.reduceEq, Int.reduceLT, Int.reduceLE, Bool.not_true, Bool.not_false]
          refine storeAgg (n := 2) (by kernel_rfl) ((Xb).kept hkc (by omega)) rfl (by simp) (by simp [Value.oneCell']) ?_
          intro wd hwd
          have zd := hwd.size
          have Xd : Blk wd wy.heap.size 45 [.bool true, .slice a1 n1 c1, .slice a2 n2 c2, .slice none 0 0, .slice none 0 0] := hwd.blk
          have kd := kc.trans hwd.kept (fun i hi hh => by omega)
          have hRd := hRc.kept hwd.kept (fun i hi => by rw [hX]; exact .inr (by omega)) (by omega)
          have hPd := hP.kept kd
          have hbd := hbx.trans (kd.below (B := w.heap.size) (by omega) (fun i h => by omega))
          have cQd := hPd.rd.cell (o := 0) rfl
          have hlt1 : (l1 : List (List UInt8)).length ≤ r.length := by omega
          rcases hca with ⟨c, rfl, hcA, hcV⟩ | ⟨rfl, hcA⟩
          · have hg1 := codeA_grow hcA few_nil
            have hg12 : c.ins.length + l2.length = 0 + (l1 : List (List UInt8)).length := hg1.2
            simp -dsimp only [push_cast, Nat.reduceAdd, Nat.reduceLeDiff, Nat.reduceBEq, decide_true, ne_eq, eq_self, not_true_eq_false, not_false_eq_true, true_imp_iff, false_imp_iff, Int.reduceNe, Int.reduceEq, Int.reduceLT, Int.reduceLE, Bool.not_true, Bool.not_false, cQd]
            refine callK_of (takeA_c [97, 102, 116, 101, 114] hRd) ?_
            rintro _ we hre
            rcases hre with ⟨l3, hl3, rfl, hRe, hke, hze⟩ | ⟨hno, rfl, hwe⟩
            · have hl3n : l2.length = l3.length + 1 := congrArg List.length hl3
              have haf : afterA l2 = .ok l3 := by rw [hl3]; exact after_put l3
              have ke := kd.trans hke (fun i hi hh => hh)
              have ze := ke.size
              have hPe := hP.kept ke
              have hbe := hbx.trans (ke.below (B := w.heap.size) (by omega) (fun i h => by omega))
              have cQe := hPe.rd.cell (o := 0) rfl
              have Xe := Xd.kept hke (by omega)
              simp -dsimp only [push_cast, Nat.reduceAdd, Nat.reduceLeDiff, Nat.reduceBEq, decide_true, ne_eq, eq_self, not_true_eq_false, not_false_eq_true, true_imp_iff, false_imp_iff, Int.reduceNe, Int.reduceEq, Int.reduceLT, Int.reduceLE, Bool.not_true, Bool.not_false, cQe]
              refine callK_of (readCode_c l3 hRe (hv.below hbe hg) (by omega)) ?_
              rintro _ wf ⟨l4, hRf, ⟨b1, m1, d1, b2, m2, d2, is2, rfl, hda⟩, hkf⟩
              have zf := hkf.size
              have kf := ke.trans hkf (fun i hi hh => by omega)
              simp -dsimp only [push_cast, Nat.reduceAdd, Nat.reduceLeDiff, Nat.reduceBEq, decide_true, ne_eq, eq_self, not_true_eq_false, not_false_eq_true, true_imp_iff, false_imp_iff, Int.reduceNe, Int.reduceEq, Int.reduceLT, Int.reduceLE, Bool.not_true, Bool.not_false]
              refine storeAgg (n := 2) (by kernel_rfl) (Xe.kept hkf (by omega)) rfl (by simp) (by simp [Value.oneCell']) ?_
              intro wg hwg
              have zg := hwg.size
              have Xg : Blk wg wy.heap.size 45 [.bool true, .slice a1 n1 c1, .slice a2 n2 c2, .slice b1 m1 d1, .slice b2 m2 d2] := hwg.blk
              have kg := kf.trans hwg.kept (fun i hi hh => by omega)
              have hRg := hRf.kept hwg.kept (fun i hi => by rw [hX]; exact .inr (by omega)) (by omega)
              have hPg := hP.kept kg
              have hbg := hbx.trans (kg.below (B := w.heap.size) (by omega) (fun i h => by omega))
              rcases hda with ⟨d, rfl, hdA, hdV⟩ | ⟨rfl, hdA⟩
              · have hg2 := codeA_grow hdA few_nil
                have hg22 : d.ins.length + l4.length = 0 + l3.length := hg2.2
                have hpair := pair_ok hsy hcA haf hdA
                have hnx := rules_next (acc := acc) hln hst hpair
                obtain ⟨m, hm1, hm2⟩ := hnx
                obtain ⟨us, pv, hB0, hO0, hul, hus0⟩ := hP.st
                have hown0 := hO0.block
                have hB1 := hB0.kept kg (by omega)
                have hO := hO0.keptX kg (fun g hg hh => by have := hown0 g hg; omega)
                have hus : ∀ (i : Nat) (s : PairP), acc[i]? = some s → ∃ u, us[i]? = some u ∧ PairR (fun b => b < w8.heap.size ∨ pv.ownBlock = some b) wg (encPV u) s := fun i s hs => by
                  obtain ⟨u, hu, hp⟩ := hus0 i s hs
                  exact ⟨u, hu, hp.mono (fun b hnb hlt => kg.block b hlt (fun hh => hnb (.inl (by omega)))) (fun _ h => h)⟩
                have hsh := hO.slice
                obtain ⟨pa, pc, rfl⟩ := hsh
                have p0 : wg.cell? ⟨w7.heap.size, 0, none⟩ = some (.slice pa us.length pc) := hB1.cell rfl
                have x5 : cellsAt wg ⟨wy.heap.size, 0, none⟩ 0 5 = some [.bool true, .slice a1 n1 c1, .slice a2 n2 c2, .slice b1 m1 d1, .slice b2 m2 d2] := Xg.cellsAt
                simp -dsimp only [push_cast, Nat.reduceAdd, Nat.reduceLeDiff, Nat.reduceBEq, decide_true, ne_eq, eq_self, not_true_eq_false, not_false_eq_true, true_imp_iff, false_imp_iff, Int.reduceNe, Int.reduceEq, Int.reduceLT, Int.reduceLE, Bool.not_true, Bool.not_false, p0, x5]
                refine rowK elI_22 rfl rfl (by omega) ?_
                intro wh hwh
                have zh := hwh.size
                have hb1h := hB1.below hwh.below hB1.lt
                simp -dsimp only [push_cast, Nat.reduceAdd, Nat.reduceLeDiff, Nat.reduceBEq, decide_true, ne_eq, eq_self, not_true_eq_false, not_false_eq_true, true_imp_iff, false_imp_iff, Int.reduceNe, Int.reduceEq, Int.reduceLT, Int.reduceLE, Bool.not_true, Bool.not_false]
                refine appendK2 (base := w8.heap.size) [(⟨true, ⟨a1, n1, c1⟩, ⟨a2, n2, c2⟩, ⟨b1, m1, d1⟩, ⟨b2, m2, d2⟩⟩ : PV)] (enc := encPV) elI_22 (hO.new hwh) (by rfl) (fun j u hu => by simpa [encPV, SV.v] using hwh.cell hu) (by simp [encPV, SV.v, Value.oneCell']) (by simp only [List.length_cons, List.length_nil]; omega) (by omega) ?_
                intro vi wi hoi hgi hni
                have hsh := hoi.slice
                obtain ⟨qa, qc, rfl⟩ := hsh
                have ki : Kept (fun j => (Value.slice pa us.length pc).ownBlock = some j) wg wi := (Kept.new hwh).trans (Kept.grown hgi (fun _ h => h)) (fun _ _ h => h)
                have hBi := hB1.kept ki (fun h => by have := hO.block _ h; omega)
                have zi := ki.size
                simp -dsimp only [push_cast, Nat.reduceAdd, Nat.reduceLeDiff, Nat.reduceBEq, decide_true, ne_eq, eq_self, not_true_eq_false, not_false_eq_true, true_imp_iff, false_imp_iff, Int.reduceNe, Int.reduceEq, Int.reduceLT, Int.reduceLE, Bool.not_true, Bool.not_false]
                refine storeK_of hBi (by simp) rfl ?_
                intro wj hwj
                have zj := hwj.size
                have hkgj : Kept (fun j => (Value.slice pa us.length pc).ownBlock = some j ∨ j = w7.heap.size) wg wj := (ki.weaken (fun _ _ h => .inl h)).trans hwj.kept (fun _ _ h => .inr h)
                have kcg : Kept (fun i => i = w4.heap.size ∨ i = wy.heap.size) wc wg := (((hwd.kept.weaken (fun i _ hi => .inr hi)).trans hke (fun i _ hi => .inl hi)).trans hkf (fun i hi hh => by
                  rcases hh with hh | hh
                  · exact .inl hh
                  · omega)).trans hwg.kept (fun i _ hi => .inr hi)
                have hcg : CodeV (fun b => b < w8.heap.size ∨ (Value.slice pa us.length pc).ownBlock = some b) wg (.agg #[.slice a1 n1 c1, .slice a2 n2 c2]) c := (hcV.mono (fun b hnb hlt => kcg.block b hlt (fun hh => hnb (by show b < _; omega))) (fun _ h => h)).narrow (fun b _ hh => by
                  show b < _
                  rcases hh with hh | hh
                  · omega
                  · have := hown0 b hh; omega)
                have hdg : CodeV (fun b => b < w8.heap.size ∨ (Value.slice pa us.length pc).ownBlock = some b) wg (.agg #[.slice b1 m1 d1, .slice b2 m2 d2]) d := (hdV.mono (fun b hnb hlt => hwg.kept.block b hlt (fun hh => hnb (by show b < _; omega))) (fun _ h => h)).narrow (fun b _ hh => by
                  show b < _
                  rcases hh with hh | hh
                  · omega
                  · have := hown0 b hh; omega)
                have hnew : PairR (fun b => b < w8.heap.size ∨ (Value.slice pa us.length pc).ownBlock = some b) wg (encPV ⟨true, ⟨a1, n1, c1⟩, ⟨a2, n2, c2⟩, ⟨b1, m1, d1⟩, ⟨b2, m2, d2⟩⟩) ⟨true, c, d⟩ := ⟨_, _, _, _, rfl, hcg, hdg⟩
                have hYX : ∀ i, ((Value.slice pa us.length pc).ownBlock = some i ∨ i = w7.heap.size) → (i < w8.heap.size ∨ (Value.slice pa us.length pc).ownBlock = some i) := fun i hi => by
                  rcases hi with hi | hi
                  · exact .inr hi
                  · exact .inl (by omega)
                have hZX : ∀ b, (b < w8.heap.size ∨ (Value.slice qa (us ++ [(⟨true, ⟨a1, n1, c1⟩, ⟨a2, n2, c2⟩, ⟨b1, m1, d1⟩, ⟨b2, m2, d2⟩⟩ : PV)]).length qc).ownBlock = some b) → (b < w8.heap.size ∨ (Value.slice pa us.length pc).ownBlock = some b) ∨ wg.heap.size ≤ b := fun b hb => by
                  rcases hb with hb | hb
                  · exact .inl (.inl hb)
                  · rcases hni b hb with h1 | h1
                    · exact .inl (.inr h1)
                    · exact .inr (by omega)
                have hent := append_get (Pr := fun _ u s => PairR (fun b => b < w8.heap.size ∨ (Value.slice qa (us ++ [(⟨true, ⟨a1, n1, c1⟩, ⟨a2, n2, c2⟩, ⟨b1, m1, d1⟩, ⟨b2, m2, d2⟩⟩ : PV)]).length qc).ownBlock = some b) wj (encPV u) s) hul (fun i s hs => by
                  obtain ⟨u, hu, hp⟩ := hus i s hs
                  exact ⟨u, hu, hp.moved hkgj hYX hZX⟩) (hnew.moved hkgj hYX hZX)
                have hne9 := hP.ne
                have hlt9 := hP.lt
                have hPj : Pg w.heap.size w4.heap.size w2.heap.size w5.heap.size w7.heap.size w8.heap.size (.slice va (linesA s).length vk) false wj (acc ++ [⟨true, c, d⟩]) := ⟨⟨_, _, hwj.blk, hoi.keptX hwj.kept (fun g hg hh => by have := hoi.block g hg; omega), by simp [hul], hent⟩,
                  hPg.zero.kept hkgj (fun hh => by
                    rcases hh with hh | hh
                    · have := hown0 _ hh; omega
                    · omega), hPg.all.kept hkgj (fun hh => by
                    rcases hh with hh | hh
                    · have := hown0 _ hh; omega
                    · omega), hPg.rd.kept hkgj (fun hh => by
                    rcases hh with hh | hh
                    · have := hown0 _ hh; omega
                    · omega), hlt9, hne9, by have := hkgj.size; omega⟩
                have hRj := hRg.kept hkgj (fun i hi => by
                  rw [hX]
                  rcases hi with hi | hi
                  · have := hown0 _ hi; exact .inr (by omega)
                  · exact .inr (by omega)) (fun hh => by
                    rcases hh with hh | hh
                    · have := hown0 _ hh; omega
                    · omega)
                have hbj := hbg.trans (hkgj.below (B := w.heap.size) (by omega) (fun i hi => by
                  rcases hi with hi | hi
                  · have := hown0 _ hi; omega
                  · omega))
                simp -dsimp only [push_cast, Nat.reduceAdd, Nat.reduceLeDiff, Nat.reduceBEq, decide_true, ne_eq, eq_self, not_true_eq_false, not_false_eq_true, true_imp_iff, false_imp_iff, Int.reduceNe, Int.reduceEq, Int.reduceLT, Int.reduceLE, Bool.not_true, Bool.not_false]
                refine ⟨⟨m, _, l4, hru.trans hm1, hm2, ?_, hRj, hPj, hbj⟩, ?_⟩
                · rw [List.length_append]
                  simp only [List.length_cons, List.length_nil]
                  omega
                · rw [hRj.lines, hR.lines, List.length_cons]
                  omega
              · simp -dsimp only [push_cast, Nat.reduceAdd, Nat.reduceLeDiff, Nat.reduceBEq, decide_true, ne_eq, eq_self, not_true_eq_false, not_false_eq_true, true_imp_iff, false_imp_iff, Int.reduceNe, Int.reduceEq, Int.reduceLT, Int.reduceLE, Bool.not_true, Bool.not_false]
                have hpe := pair_e4 hsy hcA haf hdA
                have hce := codeA_err hdA
                -- wg: the world; hRg: reader at it; hPg: Pg; l4: its lines; hbg: Below w.heap.size w wg; (parse_e (body_e1 (hru.trans (rules_err hln hst hpe)))): what the text is; ((linesA s).length - l4.length): the line
                have cA := (hPg).all.cell (o := 0) rfl
                have cQ := (hPg).rd.cell (o := 0) rfl
                refine callK_of (failA_c (linesA s).length (by omega) va vk _ _ hRg cA cQ) ?_
                rintro _ wf9 ⟨⟨fb, hfb, rfl, hBf⟩, hbf⟩
                have zf9 := hbf.size
                have zz := (hPg).zero.lt
                have hZf := (hPg).zero.below hbf zz
                simp -dsimp only [push_cast, Nat.reduceAdd, Nat.reduceLeDiff, Nat.reduceBEq, decide_true, ne_eq, eq_self, not_true_eq_false, not_false_eq_true, true_imp_iff, false_imp_iff, Int.reduceNe, Int.reduceEq, Int.reduceLT, Int.reduceLE, Bool.not_true, Bool.not_false]
                refine storeAgg (n := 2) (by kernel_rfl) hZf rfl (by simp) (by simp [Value.oneCell']) ?_
                intro wg9 hwg9
                have zg9 := hwg9.size
                have cg : cellsAt wg9 ⟨w.heap.size, 0, none⟩ 0 2 = some [.slice none 0 0, .bool false] := hwg9.blk.cellsAt
                have hkg := hwg9.kept
                simp -dsimp only [push_cast, Nat.reduceAdd, Nat.reduceLeDiff, Nat.reduceBEq, decide_true, ne_eq, eq_self, not_true_eq_false, not_false_eq_true, true_imp_iff, false_imp_iff, Int.reduceNe, Int.reduceEq, Int.reduceLT, Int.reduceLE, Bool.not_true, Bool.not_false, cg]
                have hpf := (parse_e (body_e1 (hru.trans (rules_err hln hst hpe))))
                have z59 := (hbg).size
                refine ⟨?_, (hbg).trans ((hbf.mono z59).trans (hkg.below (by omega) (fun i h => by omega)))⟩
                unfold ParseA
                rw [hpf]
                have e9 : (((linesA s).length : Int) - ((l4 : List (List UInt8)).length : Int)) = ((((linesA s).length - l4.length) : Nat) : Int) := by omega
                rw [e9] at hBf
                exact ⟨fb, by omega, rfl, hBf.kept hkg (by omega)⟩
            · obtain rfl := hwe.symm
              simp -dsimp only [push_cast, Nat.reduceAdd, Nat.reduceLeDiff, Nat.reduceBEq, decide_true, ne_eq, eq_self, not_true_eq_false, not_false_eq_true, true_imp_iff, false_imp_iff, Int.reduceNe, Int.reduceEq, Int.reduceLT, Int.reduceLE, Bool.not_true, Bool.not_false]
              have hpe := pair_e3 hsy hcA (after_err hno)
              -- wd: the world; hRd: reader at it; hPd: Pg; l2: its lines; hbd: Below w.heap.size w wd; (parse_e (body_e1 (hru.trans (rules_err hln hst hpe)))): what the text is; ((linesA s).length - l2.length): the line
              have cA := (hPd).all.cell (o := 0) rfl
              have cQ := (hPd).rd.cell (o := 0) rfl
              refine callK_of (failA_c (linesA s).length (by omega) va vk _ _ hRd cA cQ) ?_
              rintro _ wf9 ⟨⟨fb, hfb, rfl, hBf⟩, hbf⟩
              have zf9 := hbf.size
              have zz := (hPd).zero.lt
              have hZf := (hPd).zero.below hbf zz
              simp -dsimp only [push_cast, Nat.reduceAdd, Nat.reduceLeDiff, Nat.reduceBEq, decide_true, ne_eq, eq_self, not_true_eq_false, not_false_eq_true, true_imp_iff, false_imp_iff, Int.reduceNe, Int.reduceEq, Int.reduceLT, Int.reduceLE, Bool.not_true, Bool.not_false]
              refine storeAgg (n := 2) (by kernel_rfl) hZf rfl (by simp) (by simp [Value.oneCell']) ?_
              intro wg9 hwg9
              have zg9 := hwg9.size
              have cg : cellsAt wg9 ⟨w.heap.size, 0, none⟩ 0 2 = some [.slice none 0 0, .bool false] := hwg9.blk.cellsAt
              have hkg := hwg9.kept
              simp -dsimp only [push_cast, Nat.reduceAdd, Nat.reduceLeDiff, Nat.reduceBEq, decide_true, ne_eq, eq_self, not_true_eq_false, not_false_eq_true, true_imp_iff, false_imp_iff, Int.reduceNe, Int.reduceEq, Int.reduceLT, Int.reduceLE, Bool.not_true, Bool.not_false, cg]
              have hpf := (parse_e (body_e1 (hru.trans (rules_err hln hst hpe))))
              have z59 := (hbd).size
              refine ⟨?_, (hbd).trans ((hbf.mono z59).trans (hkg.below (by omega) (fun i h => by omega)))⟩
              unfold ParseA
              rw [hpf]
              have e9 : (((linesA s).length : Int) - ((l2 : List (List UInt8)).length : Int)) = ((((linesA s).length - l2.length) : Nat) : Int) := by omega
              rw [e9] at hBf
              exact ⟨fb, by omega, rfl, hBf.kept hkg (by omega)⟩
          · simp -dsimp only [push_cast, Nat.reduceAdd, Nat.reduceLeDiff, Nat.reduceBEq, decide_true, ne_eq, eq_self, not_true_eq_false, not_false_eq_true, true_imp_iff, false_imp_iff, Int.reduceNe, Int.reduceEq, Int.reduceLT, Int.reduceLE, Bool.not_true, Bool.not_false]
            have hpe := pair_e2 hsy hcA
            have hce := codeA_err hcA
            -- wd: the world; hRd: reader at it; hPd: Pg; l2: its lines; hbd: Below w.heap.size w wd; (parse_e (body_e1 (hru.trans (rules_err hln hst hpe)))): what the text is; ((linesA s).length - l2.length): the line
            have cA := (hPd).all.cell (o := 0) rfl
            have cQ := (hPd).rd.cell (o := 0) rfl
            refine callK_of (failA_c (linesA s).length (by omega) va vk _ _ hRd cA cQ) ?_
            rintro _ wf9 ⟨⟨fb, hfb, rfl, hBf⟩, hbf⟩
            have zf9 := hbf.size
            have zz := (hPd).zero.lt
            have hZf := (hPd).zero.below hbf zz
            simp -dsimp only [push_cast, Nat.reduceAdd, Nat.reduceLeDiff, Nat.reduceBEq, decide_true, ne_eq, eq_self, not_true_eq_false, not_false_eq_true, true_imp_iff, false_imp_iff, Int.reduceNe, Int.reduceEq, Int.reduceLT, Int.reduceLE, Bool.not_true, Bool.not_false]
            refine storeAgg (n := 2) (by kernel_rfl) hZf rfl (by simp) (by simp [Value.oneCell']) ?_
            intro wg9 hwg9
            have zg9 := hwg9.size
            have cg : cellsAt wg9 ⟨w.heap.size, 0, none⟩ 0 2 = some [.slice none 0 0, .bool false] := hwg9.blk.cellsAt
            have hkg := hwg9.kept
            simp -dsimp only [push_cast, Nat.reduceAdd, Nat.reduceLeDiff, Nat.reduceBEq, decide_true, ne_eq, eq_self, not_true_eq_false, not_false_eq_true, true_imp_iff, false_imp_iff, Int.reduceNe, Int.reduceEq, Int.reduceLT, Int.reduceLE, Bool.not_true, Bool.not_false, cg]
            have hpf := (parse_e (body_e1 (hru.trans (rules_err hln hst hpe))))
            have z59 := (hbd).size
            refine ⟨?_, (hbd).trans ((hbf.mono z59).trans (hkg.below (by omega) (fun i h => by omega)))⟩
            unfold ParseA
            rw [hpf]
            have e9 : (((linesA s).length : Int) - ((l2 : List (List UInt8)).length : Int)) = ((((linesA s).length - l2.length) : Nat) : Int) := by omega
            rw [e9] at hBf
            exact ⟨fb, by omega, rfl, hBf.kept hkg (by omega)⟩
        · obtain rfl : wx = wy := hwe.symm
          simp -dsimp only [push_cast, Nat.reduceAdd, Nat.reduceLeDiff, Nat.reduceBEq, decide_true, ne_eq, eq_self, not_true_eq_false, not_false_eq_true, true_imp_iff, false_imp_iff, Int.reduceNe, Int.reduceEq, Int.reduceLT, Int.reduceLE, Bool.not_true, Bool.not_false]
          refine allocK (z := [.bool false, .slice none 0 0, .slice none 0 0, .slice none 0 0, .slice none 0 0]) (by kernel_rfl) ?_
          intro wa hwa
          have zwa := hwa.size
          simp -dsimp only [push_cast, Nat.reduceAdd, Nat.reduceLeDiff, Nat.reduceBEq, decide_true, ne_eq, eq_self, not_true_eq_false, not_false_eq_true, true_imp_iff, false_imp_iff, Int.reduceNe, Int.reduceEq, Int.reduceLT, Int.reduceLE, Bool.not_true, Bool.not_false]
          refine storeAgg (n := 5) (by kernel_rfl) hwa.blk rfl (by simp) (by simp [Value.oneCell']) ?_
          intro wb hwb
          have zwb := hwb.size
          have Xb : Blk wb wx.heap.size 45 [.bool false, .slice none 0 0, .slice none 0 0, .slice none 0 0, .slice none 0 0] := hwb.blk
          have x0 : wb.cell? ⟨wx.heap.size, 0, none⟩ = some (.bool false) := Xb.cell rfl
          have kb : Kept (· = w4.heap.size) wx wb := (Kept.new hwa).trans hwb.kept (fun i hi hh => by omega)
          have hPb0 := hP.kept kb
          have cQb0 := hPb0.rd.cell (o := 0) rfl
          have hRb := (hR.kept (Kept.new hwa (X := fun _ => False)) (fun _ h => h.elim) id).kept hwb.kept (fun i hi => by rw [hX]; exact .inr (by omega)) (by omega)
          simp -dsimp only [push_cast, Nat.reduceAdd, Nat.reduceLeDiff, Nat.reduceBEq, decide_true, ne_eq, eq_self, not_true_eq_false, not_false_eq_true, true_imp_iff, false_imp_iff, Int.reduceNe, Int.reduceEq, Int.reduceLT, Int.reduceLE, Bool.not_true, Bool.not_false, x0, cQb0]
          refine callK_of (takeA_c [114, 117, 108, 101, 32, 107, 101, 101, 112] hRb) ?_
          rintro _ wy hr
          rcases hr with ⟨l1, hl1, rfl, hRy, hky, hzy⟩ | ⟨hno2, rfl, hwe⟩
          · have hl1n : r.length + 1 = l1.length + 1 := congrArg List.length hl1
            have hsy : saysA ruleW (t :: r) = .ok (false, l1) := by rw [hl1]; exact says_put ruleW false l1
            have Xy := Xb.kept hky (by omega)
            have ky := kb.trans hky (fun i hi hh => hh)
            simp -dsimp only [push_cast, Nat.reduceAdd, Nat.reduceLeDiff, Nat.reduceBEq, decide_true, ne_eq, eq_self, not_true_eq_false, not_false_eq_true, true_imp_iff, false_imp_iff, Int.reduceNe, Int.reduceEq, Int.reduceLT, Int.reduceLE, Bool.not_true, Bool.not_false]
            -- wy: the world; hRy: reader; l1: lines; Xy: Blk of the pair; false: break; ky: Kept from wx; hsy: saysA; wx.heap.size: the pair's block
            have ka := ky
            have za := ka.size
            have hle5 := hP.le
            have hPa := hP.kept ka
            have hba := hbx.trans (ka.below (B := w.heap.size) (by omega) (fun i h => by omega))
            have cQa := hPa.rd.cell (o := 0) rfl
            simp -dsimp only [push_cast, Nat.reduceAdd, Nat.reduceLeDiff, Nat.reduceBEq, decide_true, ne_eq, eq_self, not_true_eq_false, not_false_eq_true, true_imp_iff, false_imp_iff, Int.reduceNe, Int.reduceEq, Int.reduceLT, Int.reduceLE, Bool.not_true, Bool.not_false, cQa]
            refine callK_of (readCode_c l1 hRy (hv.below hba hg) (by omega)) ?_
            rintro _ wc ⟨l2, hRc, ⟨a1, n1, c1, a2, n2, c2, is1, rfl, hca⟩, hkc⟩
            have zc := hkc.size
            have kc := ka.trans hkc (fun i hi hh => by omega)
            simp -dsimp only [push_cast, Nat.reduceAdd, Nat.reduceLeDiff, Nat.reduceBEq, decide_true, ne_eq, eq_self, not_true_eq_false, not_false_eq_true, true_imp_iff, false_imp_iff, Int.reduceNe, Int.reduceEq, Int.reduceLT, Int.reduceLE, Bool.not_true, Bool.not_false]
            refine storeAgg (n := 2) (by kernel_rfl) ((Xy).kept hkc (by omega)) rfl (by simp) (by simp [Value.oneCell']) ?_
            intro wd hwd
            have zd := hwd.size
            have Xd : Blk wd wx.heap.size 45 [.bool false, .slice a1 n1 c1, .slice a2 n2 c2, .slice none 0 0, .slice none 0 0] := hwd.blk
            have kd := kc.trans hwd.kept (fun i hi hh => by omega)
            have hRd := hRc.kept hwd.kept (fun i hi => by rw [hX]; exact .inr (by omega)) (by omega)
            have hPd := hP.kept kd
            have hbd := hbx.trans (kd.below (B := w.heap.size) (by omega) (fun i h => by omega))
            have cQd := hPd.rd.cell (o := 0) rfl
            have hlt1 : (l1 : List (List UInt8)).length ≤ r.length := by omega
            rcases hca with ⟨c, rfl, hcA, hcV⟩ | ⟨rfl, hcA⟩
            · have hg1 := codeA_grow hcA few_nil
              have hg12 : c.ins.length + l2.length = 0 + (l1 : List (List UInt8)).length := hg1.2
              simp -dsimp only [push_cast, Nat.reduceAdd, Nat.reduceLeDiff, Nat.reduceBEq, decide_true, ne_eq, eq_self, not_true_eq_false, not_false_eq_true, true_imp_iff, false_imp_iff, Int.reduceNe, Int.reduceEq, Int.reduceLT, Int.reduceLE, Bool.not_true, Bool.not_false, cQd]
              refine callK_of (takeA_c [97, 102, 116, 101, 114] hRd) ?_
              rintro _ we hre
              rcases hre with ⟨l3, hl3, rfl, hRe, hke, hze⟩ | ⟨hno, rfl, hwe⟩
              · have hl3n : l2.length = l3.length + 1 := congrArg List.length hl3
                have haf : afterA l2 = .ok l3 := by rw [hl3]; exact after_put l3
                have ke := kd.trans hke (fun i hi hh => hh)
                have ze := ke.size
                have hPe := hP.kept ke
                have hbe := hbx.trans (ke.below (B := w.heap.size) (by omega) (fun i h => by omega))
                have cQe := hPe.rd.cell (o := 0) rfl
                have Xe := Xd.kept hke (by omega)
                simp -dsimp only [push_cast, Nat.reduceAdd, Nat.reduceLeDiff, Nat.reduceBEq, decide_true, ne_eq, eq_self, not_true_eq_false, not_false_eq_true, true_imp_iff, false_imp_iff, Int.reduceNe, Int.reduceEq, Int.reduceLT, Int.reduceLE, Bool.not_true, Bool.not_false, cQe]
                refine callK_of (readCode_c l3 hRe (hv.below hbe hg) (by omega)) ?_
                rintro _ wf ⟨l4, hRf, ⟨b1, m1, d1, b2, m2, d2, is2, rfl, hda⟩, hkf⟩
                have zf := hkf.size
                have kf := ke.trans hkf (fun i hi hh => by omega)
                simp -dsimp only [push_cast, Nat.reduceAdd, Nat.reduceLeDiff, Nat.reduceBEq, decide_true, ne_eq, eq_self, not_true_eq_false, not_false_eq_true, true_imp_iff, false_imp_iff, Int.reduceNe, Int.reduceEq, Int.reduceLT, Int.reduceLE, Bool.not_true, Bool.not_false]
                refine storeAgg (n := 2) (by kernel_rfl) (Xe.kept hkf (by omega)) rfl (by simp) (by simp [Value.oneCell']) ?_
                intro wg hwg
                have zg := hwg.size
                have Xg : Blk wg wx.heap.size 45 [.bool false, .slice a1 n1 c1, .slice a2 n2 c2, .slice b1 m1 d1, .slice b2 m2 d2] := hwg.blk
                have kg := kf.trans hwg.kept (fun i hi hh => by omega)
                have hRg := hRf.kept hwg.kept (fun i hi => by rw [hX]; exact .inr (by omega)) (by omega)
                have hPg := hP.kept kg
                have hbg := hbx.trans (kg.below (B := w.heap.size) (by omega) (fun i h => by omega))
                rcases hda with ⟨d, rfl, hdA, hdV⟩ | ⟨rfl, hdA⟩
                · have hg2 := codeA_grow hdA few_nil
                  have hg22 : d.ins.length + l4.length = 0 + l3.length := hg2.2
                  have hpair := pair_ok hsy hcA haf hdA
                  have hnx := rules_next (acc := acc) hln hst hpair
                  obtain ⟨m, hm1, hm2⟩ := hnx
                  obtain ⟨us, pv, hB0, hO0, hul, hus0⟩ := hP.st
                  have hown0 := hO0.block
                  have hB1 := hB0.kept kg (by omega)
                  have hO := hO0.keptX kg (fun g hg hh => by have := hown0 g hg; omega)
                  have hus : ∀ (i : Nat) (s : PairP), acc[i]? = some s → ∃ u, us[i]? = some u ∧ PairR (fun b => b < w8.heap.size ∨ pv.ownBlock = some b) wg (encPV u) s := fun i s hs => by
                    obtain ⟨u, hu, hp⟩ := hus0 i s hs
                    exact ⟨u, hu, hp.mono (fun b hnb hlt => kg.block b hlt (fun hh => hnb (.inl (by omega)))) (fun _ h => h)⟩
                  have hsh := hO.slice
                  obtain ⟨pa, pc, rfl⟩ := hsh
                  have p0 : wg.cell? ⟨w7.heap.size, 0, none⟩ = some (.slice pa us.length pc) := hB1.cell rfl
                  have x5 : cellsAt wg ⟨wx.heap.size, 0, none⟩ 0 5 = some [.bool false, .slice a1 n1 c1, .slice a2 n2 c2, .slice b1 m1 d1, .slice b2 m2 d2] := Xg.cellsAt
                  simp -dsimp only [push_cast, Nat.reduceAdd, Nat.reduceLeDiff, Nat.reduceBEq, decide_true, ne_eq, eq_self, not_true_eq_false, not_false_eq_true, true_imp_iff, false_imp_iff, Int.reduceNe, Int.reduceEq, Int.reduceLT, Int.reduceLE, Bool.not_true, Bool.not_false, p0, x5]
                  refine rowK elI_22 rfl rfl (by omega) ?_
                  intro wh hwh
                  have zh := hwh.size
                  have hb1h := hB1.below hwh.below hB1.lt
                  simp -dsimp only [push_cast, Nat.reduceAdd, Nat.reduceLeDiff, Nat.reduceBEq, decide_true, ne_eq, eq_self, not_true_eq_false, not_false_eq_true, true_imp_iff, false_imp_iff, Int.reduceNe, Int.reduceEq, Int.reduceLT, Int.reduceLE, Bool.not_true, Bool.not_false]
                  refine appendK2 (base := w8.heap.size) [(⟨false, ⟨a1, n1, c1⟩, ⟨a2, n2, c2⟩, ⟨b1, m1, d1⟩, ⟨b2, m2, d2⟩⟩ : PV)] (enc := encPV) elI_22 (hO.new hwh) (by rfl) (fun j u hu => by simpa [encPV, SV.v] using hwh.cell hu) (by simp [encPV, SV.v, Value.oneCell']) (by simp only [List.length_cons, List.length_nil]; omega) (by omega) ?_
                  intro vi wi hoi hgi hni
                  have hsh := hoi.slice
                  obtain ⟨qa, qc, rfl⟩ := hsh
                  have ki : Kept (fun j => (Value.slice pa us.length pc).ownBlock = some j) wg wi := (Kept.new hwh).trans (Kept.grown hgi (fun _ h => h)) (fun _ _ h => h)
                  have hBi := hB1.kept ki (fun h => by have := hO.block _ h; omega)
                  have zi := ki.size
                  simp -dsimp only [push_cast, Nat.reduceAdd, Nat.reduceLeDiff, Nat.reduceBEq, decide_true, ne_eq, eq_self, not_true_eq_false, not_false_eq_true, true_imp_iff, false_imp_iff, Int.reduceNe, Int.reduceEq, Int.reduceLT, Int.reduceLE, Bool.not_true, Bool.not_false]
                  refine storeK_of hBi (by simp) rfl ?_
                  intro wj hwj
                  have zj := hwj.size
                  have hkgj : Kept (fun j => (Value.slice pa us.length pc).ownBlock = some j ∨ j = w7.heap.size) wg wj := (ki.weaken (fun _ _ h => .inl h)).trans hwj.kept (fun _ _ h => .inr h)
                  have kcg : Kept (fun i => i = w4.heap.size ∨ i = wx.heap.size) wc wg := (((hwd.kept.weaken (fun i _ hi => .inr hi)).trans hke (fun i _ hi => .inl hi)).trans hkf (fun i hi hh => by
                    rcases hh with hh | hh
                    · exact .inl hh
                    · omega)).trans hwg.kept (fun i _ hi => .inr hi)
                  have hcg : CodeV (fun b => b < w8.heap.size ∨ (Value.slice pa us.length pc).ownBlock = some b) wg (.agg #[.slice a1 n1 c1, .slice a2 n2 c2]) c := (hcV.mono (fun b hnb hlt => kcg.block b hlt (fun hh => hnb (by show b < _; omega))) (fun _ h => h)).narrow (fun b _ hh => by
                    show b < _
                    rcases hh with hh | hh
                    · omega
                    · have := hown0 b hh; omega)
                  have hdg : CodeV (fun b => b < w8.heap.size ∨ (Value.slice pa us.length pc).ownBlock = some b) wg (.agg #[.slice b1 m1 d1, .slice b2 m2 d2]) d := (hdV.mono (fun b hnb hlt => hwg.kept.block b hlt (fun hh => hnb (by show b < _; omega))) (fun _ h => h)).narrow (fun b _ hh => by
                    show b < _
                    rcases hh with hh | hh
                    · omega
                    · have := hown0 b hh; omega)
                  have hnew : PairR (fun b => b < w8.heap.size ∨ (Value.slice pa us.length pc).ownBlock = some b) wg (encPV ⟨false, ⟨a1, n1, c1⟩, ⟨a2, n2, c2⟩, ⟨b1, m1, d1⟩, ⟨b2, m2, d2⟩⟩) ⟨false, c, d⟩ := ⟨_, _, _, _, rfl, hcg, hdg⟩
                  have hYX : ∀ i, ((Value.slice pa us.length pc).ownBlock = some i ∨ i = w7.heap.size) → (i < w8.heap.size ∨ (Value.slice pa us.length pc).ownBlock = some i) := fun i hi => by
                    rcases hi with hi | hi
                    · exact .inr hi
                    · exact .inl (by omega)
                  have hZX : ∀ b, (b < w8.heap.size ∨ (Value.slice qa (us ++ [(⟨false, ⟨a1, n1, c1⟩, ⟨a2, n2, c2⟩, ⟨b1, m1, d1⟩, ⟨b2, m2, d2⟩⟩ : PV)]).length qc).ownBlock = some b) → (b < w8.heap.size ∨ (Value.slice pa us.length pc).ownBlock = some b) ∨ wg.heap.size ≤ b := fun b hb => by
                    rcases hb with hb | hb
                    · exact .inl (.inl hb)
                    · rcases hni b hb with h1 | h1
                      · exact .inl (.inr h1)
                      · exact .inr (by omega)
                  have hent := append_get (Pr := fun _ u s => PairR (fun b => b < w8.heap.size ∨ (Value.slice qa (us ++ [(⟨false, ⟨a1, n1, c1⟩, ⟨a2, n2, c2⟩, ⟨b1, m1, d1⟩, ⟨b2, m2, d2⟩⟩ : PV)]).length qc).ownBlock = some b) wj (encPV u) s) hul (fun i s hs => by
                    obtain ⟨u, hu, hp⟩ := hus i s hs
                    exact ⟨u, hu, hp.moved hkgj hYX hZX⟩) (hnew.moved hkgj hYX hZX)
                  have hne9 := hP.ne
                  have hlt9 := hP.lt
                  have hPj : Pg w.heap.size w4.heap.size w2.heap.size w5.heap.size w7.heap.size w8.heap.size (.slice va (linesA s).length vk) false wj (acc ++ [⟨false, c, d⟩]) := ⟨⟨_, _, hwj.blk, hoi.keptX hwj.kept (fun g hg hh => by have := hoi.block g hg; omega), by simp [hul], hent⟩,
                    hPg.zero.kept hkgj (fun hh => by
                      rcases hh with hh | hh
                      · have := hown0 _ hh; omega
                      · omega), hPg.all.kept hkgj (fun hh => by
                      rcases hh with hh | hh
                      · have := hown0 _ hh; omega
                      · omega), hPg.rd.kept hkgj (fun hh => by
                      rcases hh with hh | hh
                      · have := hown0 _ hh; omega
                      · omega), hlt9, hne9, by have := hkgj.size; omega⟩
                  have hRj := hRg.kept hkgj (fun i hi => by
                    rw [hX]
                    rcases hi with hi | hi
                    · have := hown0 _ hi; exact .inr (by omega)
                    · exact .inr (by omega)) (fun hh => by
                      rcases hh with hh | hh
                      · have := hown0 _ hh; omega
                      · omega)
                  have hbj := hbg.trans (hkgj.below (B := w.heap.size) (by omega) (fun i hi => by
                    rcases hi with hi | hi
                    · have := hown0 _ hi; omega
                    · omega))
                  simp -dsimp only [push_cast, Nat.reduceAdd, Nat.reduceLeDiff, Nat.reduceBEq, decide_true, ne_eq, eq_self, not_true_eq_false, not_false_eq_true, true_imp_iff, false_imp_iff, Int.reduceNe, Int.reduceEq, Int.reduceLT, Int.reduceLE, Bool.not_true, Bool.not_false]
                  refine ⟨⟨m, _, l4, hru.trans hm1, hm2, ?_, hRj, hPj, hbj⟩, ?_⟩
                  · rw [List.length_append]
                    simp only [List.length_cons, List.length_nil]
                    omega
                  · rw [hRj.lines, hR.lines, List.length_cons]
                    omega
                · simp -dsimp only [push_cast, Nat.reduceAdd, Nat.reduceLeDiff, Nat.reduceBEq, decide_true, ne_eq, eq_self, not_true_eq_false, not_false_eq_true, true_imp_iff, false_imp_iff, Int.reduceNe, Int.reduceEq, Int.reduceLT, Int.reduceLE, Bool.not_true, Bool.not_false]
                  have hpe := pair_e4 hsy hcA haf hdA
                  have hce := codeA_err hdA
                  -- wg: the world; hRg: reader at it; hPg: Pg; l4: its lines; hbg: Below w.heap.size w wg; (parse_e (body_e1 (hru.trans (rules_err hln hst hpe)))): what the text is; ((linesA s).length - l4.length): the line
                  have cA := (hPg).all.cell (o := 0) rfl
                  have cQ := (hPg).rd.cell (o := 0) rfl
                  refine callK_of (failA_c (linesA s).length (by omega) va vk _ _ hRg cA cQ) ?_
                  rintro _ wf9 ⟨⟨fb, hfb, rfl, hBf⟩, hbf⟩
                  have zf9 := hbf.size
                  have zz := (hPg).zero.lt
                  have hZf := (hPg).zero.below hbf zz
                  simp -dsimp only [push_cast, Nat.reduceAdd, Nat.reduceLeDiff, Nat.reduceBEq, decide_true, ne_eq, eq_self, not_true_eq_false, not_false_eq_true, true_imp_iff, false_imp_iff, Int.reduceNe, Int.reduceEq, Int.reduceLT, Int.reduceLE, Bool.not_true, Bool.not_false]
                  refine storeAgg (n := 2) (by kernel_rfl) hZf rfl (by simp) (by simp [Value.oneCell']) ?_
                  intro wg9 hwg9
                  have zg9 := hwg9.size
                  have cg : cellsAt wg9 ⟨w.heap.size, 0, none⟩ 0 2 = some [.slice none 0 0, .bool false] := hwg9.blk.cellsAt
                  have hkg := hwg9.kept
                  simp -dsimp only [push_cast, Nat.reduceAdd, Nat.reduceLeDiff, Nat.reduceBEq, decide_true, ne_eq, eq_self, not_true_eq_false, not_false_eq_true, true_imp_iff, false_imp_iff, Int.reduceNe, Int.reduceEq, Int.reduceLT, Int.reduceLE, Bool.not_true, Bool.not_false, cg]
                  have hpf := (parse_e (body_e1 (hru.trans (rules_err hln hst hpe))))
                  have z59 := (hbg).size
                  refine ⟨?_, (hbg).trans ((hbf.mono z59).trans (hkg.below (by omega) (fun i h => by omega)))⟩
                  unfold ParseA
                  rw [hpf]
                  have e9 : (((linesA s).length : Int) - ((l4 : List (List UInt8)).length : Int)) = ((((linesA s).length - l4.length) : Nat) : Int) := by omega
                  rw [e9] at hBf
                  exact ⟨fb, by omega, rfl, hBf.kept hkg (by omega)⟩
              · obtain rfl := hwe.symm
                simp -dsimp only [push_cast, Nat.reduceAdd, Nat.reduceLeDiff, Nat.reduceBEq, decide_true, ne_eq, eq_self, not_true_eq_false, not_false_eq_true, true_imp_iff, false_imp_iff, Int.reduceNe, Int.reduceEq, Int.reduceLT, Int.reduceLE, Bool.not_true, Bool.not_false]
                have hpe := pair_e3 hsy hcA (after_err hno)
                -- wd: the world; hRd: reader at it; hPd: Pg; l2: its lines; hbd: Below w.heap.size w wd; (parse_e (body_e1 (hru.trans (rules_err hln hst hpe)))): what the text is; ((linesA s).length - l2.length): the line
                have cA := (hPd).all.cell (o := 0) rfl
                have cQ := (hPd).rd.cell (o := 0) rfl
                refine callK_of (failA_c (linesA s).length (by omega) va vk _ _ hRd cA cQ) ?_
                rintro _ wf9 ⟨⟨fb, hfb, rfl, hBf⟩, hbf⟩
                have zf9 := hbf.size
                have zz := (hPd).zero.lt
                have hZf := (hPd).zero.below hbf zz
                simp -dsimp only [push_cast, Nat.reduceAdd, Nat.reduceLeDiff, Nat.reduceBEq, decide_true, ne_eq, eq_self, not_true_eq_false, not_false_eq_true, true_imp_iff, false_imp_iff, Int.reduceNe, Int.reduceEq, Int.reduceLT, Int.reduceLE, Bool.not_true, Bool.not_false]
                refine storeAgg (n := 2) (by kernel_rfl) hZf rfl (by simp) (by simp [Value.oneCell']) ?_
                intro wg9 hwg9
                have zg9 := hwg9.size
                have cg : cellsAt wg9 ⟨w.heap.size, 0, none⟩ 0 2 = some [.slice none 0 0, .bool false] := hwg9.blk.cellsAt
                have hkg := hwg9.kept
                simp -dsimp only [push_cast, Nat.reduceAdd, Nat.reduceLeDiff, Nat.reduceBEq, decide_true, ne_eq, eq_self, not_true_eq_false, not_false_eq_true, true_imp_iff, false_imp_iff, Int.reduceNe, Int.reduceEq, Int.reduceLT, Int.reduceLE, Bool.not_true, Bool.not_false, cg]
                have hpf := (parse_e (body_e1 (hru.trans (rules_err hln hst hpe))))
                have z59 := (hbd).size
                refine ⟨?_, (hbd).trans ((hbf.mono z59).trans (hkg.below (by omega) (fun i h => by omega)))⟩
                unfold ParseA
                rw [hpf]
                have e9 : (((linesA s).length : Int) - ((l2 : List (List UInt8)).length : Int)) = ((((linesA s).length - l2.length) : Nat) : Int) := by omega
                rw [e9] at hBf
                exact ⟨fb, by omega, rfl, hBf.kept hkg (by omega)⟩
            · simp -dsimp only [push_cast, Nat.reduceAdd, Nat.reduceLeDiff, Nat.reduceBEq, decide_true, ne_eq, eq_self, not_true_eq_false, not_false_eq_true, true_imp_iff, false_imp_iff, Int.reduceNe, Int.reduceEq, Int.reduceLT, Int.reduceLE, Bool.not_true, Bool.not_false]
              have hpe := pair_e2 hsy hcA
              have hce := codeA_err hcA
              -- wd: the world; hRd: reader at it; hPd: Pg; l2: its lines; hbd: Below w.heap.size w wd; (parse_e (body_e1 (hru.trans (rules_err hln hst hpe)))): what the text is; ((linesA s).length - l2.length): the line
              have cA := (hPd).all.cell (o := 0) rfl
              have cQ := (hPd).rd.cell (o := 0) rfl
              refine callK_of (failA_c (linesA s).length (by omega) va vk _ _ hRd cA cQ) ?_
              rintro _ wf9 ⟨⟨fb, hfb, rfl, hBf⟩, hbf⟩
              have zf9 := hbf.size
              have zz := (hPd).zero.lt
              have hZf := (hPd).zero.below hbf zz
              simp -dsimp only [push_cast, Nat.reduceAdd, Nat.reduceLeDiff, Nat.reduceBEq, decide_true, ne_eq, eq_self, not_true_eq_false, not_false_eq_true, true_imp_iff, false_imp_iff, Int.reduceNe, Int.reduceEq, Int.reduceLT, Int.reduceLE, Bool.not_true, Bool.not_false]
              refine storeAgg (n := 2) (by kernel_rfl) hZf rfl (by simp) (by simp [Value.oneCell']) ?_
              intro wg9 hwg9
              have zg9 := hwg9.size
              have cg : cellsAt wg9 ⟨w.heap.size, 0, none⟩ 0 2 = some [.slice none 0 0, .bool false] := hwg9.blk.cellsAt
              have hkg := hwg9.kept
              simp -dsimp only [push_cast, Nat.reduceAdd, Nat.reduceLeDiff, Nat.reduceBEq, decide_true, ne_eq, eq_self, not_true_eq_false, not_false_eq_true, true_imp_iff, false_imp_iff, Int.reduceNe, Int.reduceEq, Int.reduceLT, Int.reduceLE, Bool.not_true, Bool.not_false, cg]
              have hpf := (parse_e (body_e1 (hru.trans (rules_err hln hst hpe))))
              have z59 := (hbd).size
              refine ⟨?_, (hbd).trans ((hbf.mono z59).trans (hkg.below (by omega) (fun i h => by omega)))⟩
              unfold ParseA
              rw [hpf]
              have e9 : (((linesA s).length : Int) - ((l2 : List (List UInt8)).length : Int)) = ((((linesA s).length - l2.length) : Nat) : Int) := by omega
              rw [e9] at hBf
              exact ⟨fb, by omega, rfl, hBf.kept hkg (by omega)⟩
          · obtain rfl := hwe.symm
            have hle5 := hP.le
            have hbb := hbx.trans (kb.below (B := w.heap.size) (by omega) (fun i h => by omega))
            have hse := says_err (w := ruleW) hno1 hno2
            have hpe := pair_e1 hse
            have hlc : (t :: r).length = r.length + 1 := rfl
            simp -dsimp only [push_cast, Nat.reduceAdd, Nat.reduceLeDiff, Nat.reduceBEq, decide_true, ne_eq, eq_self, not_true_eq_false, not_false_eq_true, true_imp_iff, false_imp_iff, Int.reduceNe, Int.reduceEq, Int.reduceLT, Int.reduceLE, Bool.not_true, Bool.not_false]
            -- wy: the world; hRb: reader at it; hPb0: Pg; (t :: r): its lines; hbb: Below w.heap.size w wy; (parse_e (body_e1 (hru.trans (rules_err (by simpa using hln) hst hpe)))): what the text is; ((linesA s).length - (t :: r).length): the line
            have cA := (hPb0).all.cell (o := 0) rfl
            have cQ := (hPb0).rd.cell (o := 0) rfl
            refine callK_of (failA_c (linesA s).length (by omega) va vk _ _ hRb cA cQ) ?_
            rintro _ wf9 ⟨⟨fb, hfb, rfl, hBf⟩, hbf⟩
            have zf9 := hbf.size
            have zz := (hPb0).zero.lt
            have hZf := (hPb0).zero.below hbf zz
            simp -dsimp only [push_cast, Nat.reduceAdd, Nat.reduceLeDiff, Nat.reduceBEq, decide_true, ne_eq, eq_self, not_true_eq_false, not_false_eq_true, true_imp_iff, false_imp_iff, Int.reduceNe, Int.reduceEq, Int.reduceLT, Int.reduceLE, Bool.not_true, Bool.not_false]
            refine storeAgg (n := 2) (by kernel_rfl) hZf rfl (by simp) (by simp [Value.oneCell']) ?_
            intro wg9 hwg9
            have zg9 := hwg9.size
            have cg : cellsAt wg9 ⟨w.heap.size, 0, none⟩ 0 2 = some [.slice none 0 0, .bool false] := hwg9.blk.cellsAt
            have hkg := hwg9.kept
            simp -dsimp only [push_cast, Nat.reduceAdd, Nat.reduceLeDiff, Nat.reduceBEq, decide_true, ne_eq, eq_self, not_true_eq_false, not_false_eq_true, true_imp_iff, false_imp_iff, Int.reduceNe, Int.reduceEq, Int.reduceLT, Int.reduceLE, Bool.not_true, Bool.not_false, cg]
            have hpf := (parse_e (body_e1 (hru.trans (rules_err (by simpa using hln) hst hpe))))
            have z59 := (hbb).size
            refine ⟨?_, (hbb).trans ((hbf.mono z59).trans (hkg.below (by omega) (fun i h => by omega)))⟩
            unfold ParseA
            rw [hpf]
            have e9 : (((linesA s).length : Int) - (((t :: r) : List (List UInt8)).length : Int)) = ((((linesA s).length - (t :: r).length) : Nat) : Int) := by omega
            rw [e9] at hBf
            exact ⟨fb, by omega, rfl, hBf.kept hkg (by omega)⟩
end Go.Proofs.YtiofleijieepgaaGreatDoor
end
section
namespace Go.Proofs.YtiofleijieepgaaGreatDoor
open Go.Vc Go.Proofs Go.RowKit Cae
set_option maxRecDepth 100000
set_option linter.unusedSimpArgs false
set_option linter.unusedVariables false
attribute [local irreducible] wpL callK valK unitK runK Fun Sl Vc.Own vc vcOps opK pureK
set_option maxHeartbeats 4000000

theorem hasCmp_c (r : Rg) (p : Int) (w : World) : Fun Tryz.prog 102 [.agg #[.int .i64 r.1, .int .i64 r.2], .int .i64 p] w fun v w' => v = .int .i64 (if r.2 < p then -1 else if p < r.1 then 1 else 0) ∧ Below w.heap.size w w' := by
  refine fun_of_vc Tryz.func102 rfl (by kernel_rfl) [4] rfl ?_
  simp -dsimp (maxSteps := 4000000) only [push_cast, fr0, Tryz.ntmps102, List.length_cons, List.length_nil, Nat.reduceAdd, Nat.reduceSub, Nat.reduceBEq, List.replicate_succ, List.replicate_zero]
  refine boxK_of ?_
  intro w1 hw1
  have c0 : w1.cell? ⟨w.heap.size, 0, none⟩ = some (.int .i64 r.1) := hw1.cell rfl
  have c1 : w1.cell? ⟨w.heap.size, 1, none⟩ = some (.int .i64 r.2) := hw1.cell rfl
  simp -dsimp only [push_cast, Nat.reduceAdd, Nat.reduceLeDiff, Nat.reduceBEq, decide_true, c0, c1]
  refine ⟨fun h => ?_, fun h => ⟨fun h2 => ?_, fun h2 => ?_⟩⟩
  · rw [if_pos h]; exact ⟨rfl, hw1.below⟩
  · rw [if_neg h, if_pos h2]; exact ⟨rfl, hw1.below⟩
  · rw [if_neg h, if_neg h2]; exact ⟨rfl, hw1.below⟩

theorem has_at {s : List Rg} (hr : setRight (-2) s = true) {p : Int} {i : Nat} (h1 : ∀ (k : Nat) (r : Rg), k < i → s[k]? = some r → r.2 < p) (h2 : ∀ (k : Nat) (r : Rg), i ≤ k → s[k]? = some r → ¬ r.2 < p) :
    hasP s p = match s[i]? with | some r => decide (r.1 ≤ p) | none => false := by
  unfold hasP
  cases hi : s[i]? with
  | none =>
    rw [List.any_eq_false]
    intro r hm
    obtain ⟨k, hk⟩ := List.getElem?_of_mem hm
    have hlt := (List.getElem?_eq_some_iff.1 hk).1
    have := List.getElem?_eq_none_iff.1 hi
    have := h1 k r (by omega) hk
    simp only [decide_eq_true_eq]
    omega
  | some r =>
    have hr2 := h2 i r (Nat.le_refl _) hi
    by_cases hp : r.1 ≤ p
    · dsimp only
      rw [decide_eq_true hp, List.any_eq_true]
      exact ⟨r, List.mem_of_getElem? hi, by simp only [decide_eq_true_eq]; omega⟩
    · dsimp only
      rw [decide_eq_false hp, List.any_eq_false]
      intro q hm
      obtain ⟨k, hk⟩ := List.getElem?_of_mem hm
      simp only [decide_eq_true_eq]
      rcases Nat.lt_trichotomy k i with hlt | heq | hgt
      · have := h1 k q hlt hk; omega
      · subst heq; rw [hi] at hk; cases hk; omega
      · have := (setRight_sorted s (-2) hr i r hi).2.2.2 k q hgt hk
        have := (setRight_sorted s (-2) hr i r hi).2.1
        omega

theorem search_c (s : List Rg) (hs : s.length < 1000000000) (hr : setRight (-2) s = true) (p : Int) (X : Nat → Prop) (v : Value) (w : World) (hv : Sl X 2 (En encR) w v s) :
    Fun Tryz.prog 101 [v, .int .i64 p, .func (.func 102) #[] #[]] w fun r w' => (∃ i : Int, r = .tuple #[.int .i64 i, .bool (hasP s p)]) ∧ Below w.heap.size w w' := by
  obtain ⟨a, c, rfl, hc⟩ := hv.shape
  refine fun_of_vc Tryz.func101 rfl (by kernel_rfl) [6, 7] rfl ?_
  simp -dsimp (maxSteps := 4000000) only [push_cast, fr0, Tryz.ntmps101, List.length_cons, List.length_nil, Nat.reduceAdd, Nat.reduceSub, Nat.reduceBEq, List.replicate_succ, List.replicate_zero]
  refine wpL_loop [9, 10, 11, 15, 16, 17, 18, 19, 20, 21, 22, 23, 24, 25, 26, 27, 28, 29, 30, 31, 32, 33, 34] (fun z wx => ∃ (i j : Nat), z 9 = .int .i64 i ∧ z 10 = .int .i64 j ∧ i ≤ j ∧ j ≤ s.length ∧ (∀ (k : Nat) (r : Rg), k < i → s[k]? = some r → r.2 < p) ∧ (∀ (k : Nat) (r : Rg), j ≤ k → s[k]? = some r → ¬ r.2 < p) ∧ Below w.heap.size w wx) (fun z _ => (intOf (z 10)).toNat - (intOf (z 9)).toNat) ?_ ?_
  · refine ⟨0, s.length, rfl, rfl, Nat.zero_le _, Nat.le_refl _, fun k r hk => absurd hk (by omega), fun k r hk h => ?_, Below.refl _ _⟩
    have := (List.getElem?_eq_some_iff.1 h).1
    omega
  · intro z wx hI
    obtain ⟨i, j, h9, h10, hij, hj, hlo, hhi, hb⟩ := hI
    simp -dsimp only [push_cast, Nat.reduceAdd, Nat.reduceLeDiff, Nat.reduceBEq, decide_true, h9, h10]
    refine ⟨fun hlt => ?_, fun hge => ?_⟩
    · have e : IntKind.i64.wrap ((IntKind.u64.wrap ((i : Int) + (j : Int))).fdiv (2 ^ min (1 : Int).toNat IntKind.u64.bits)) = (((i + j) / 2 : Nat) : Int) := by
        rw [show (i : Int) + (j : Int) = ((i + j : Nat) : Int) by omega, wrap_u64_nat, Nat.mod_eq_of_lt (by omega), shr_nat (k := 1) (kd := .u64) rfl (by decide)]
        exact wrap_i64_nat (by omega)
      have hm1 : i ≤ (i + j) / 2 := by omega
      have hm2 : (i + j) / 2 < j := by omega
      generalize (i + j) / 2 = m at e hm1 hm2
      rw [e]
      obtain ⟨x, hx, hxm, hdx, ht⟩ := lt_get (l := s) (i := m) (by omega)
      obtain ⟨b, o, rfl, hX, hcell⟩ := (hv.below hb).get hx
      have c0 : cellsAt wx ⟨b, o + m * 2, none⟩ 0 2 = some [.int .i64 x.1, .int .i64 x.2] := cellsAt_of (encR x) 0 (fun j u hu => by simpa using hcell j u hu)
      simp -dsimp only [push_cast, Nat.reduceAdd, Nat.reduceLeDiff, Nat.reduceBEq, decide_true, c0]
      refine ⟨⟨by omega, by omega⟩, by omega, ⟨by omega, by omega⟩, ?_⟩
      refine callK_of (hasCmp_c x p wx) ?_
      rintro _ w1 ⟨rfl, hb1⟩
      have hB1 := hb.trans (hb1.mono hb.size)
      simp -dsimp only [push_cast, Nat.reduceAdd, Nat.reduceLeDiff, Nat.reduceBEq, decide_true]
      refine ⟨fun hneg => ⟨⟨by omega, by omega⟩, ⟨m + 1, j, rfl, rfl, by omega, hj, fun k r hk hr0 => ?_, hhi, hB1⟩, ?_⟩, fun hpos => ⟨⟨i, m, rfl, rfl, by omega, by omega, hlo, fun k r hk hr0 => ?_, hB1⟩, ?_⟩⟩
      · have hxp : x.2 < p := by
          by_cases h : x.2 < p
          · exact h
          · rw [if_neg h] at hneg; split at hneg <;> omega
        rcases Nat.lt_or_ge k m with hlt' | hge'
        · have := (setRight_sorted s (-2) hr k r hr0).2.2.2 m x hlt' hx
          have := (setRight_sorted s (-2) hr m x hx).2.1
          omega
        · have hkm : k = m := by omega
          subst hkm; rw [hx] at hr0; cases hr0; exact hxp
      · rw [h9, h10]; simp only [intOf]; omega
      · have hxp : ¬ x.2 < p := by
          intro h; rw [if_pos h] at hpos; omega
        rcases Nat.lt_or_ge m k with hlt' | hge'
        · have := (setRight_sorted s (-2) hr m x hx).2.2.2 k r hlt' hr0
          have := (setRight_sorted s (-2) hr k r hr0).2.1
          omega
        · have hkm : k = m := by omega
          subst hkm; rw [hx] at hr0; cases hr0; exact hxp
      · rw [h9, h10]; simp only [intOf]; omega
    · have hji : j = i := by omega
      subst hji
      have hat := has_at hr hlo hhi
      refine ⟨fun hin => ?_, fun hout => ?_⟩
      · obtain ⟨x, hx, hxm, hdx, ht⟩ := lt_get (l := s) (i := j) (by omega)
        obtain ⟨b, o, rfl, hX, hcell⟩ := (hv.below hb).get hx
        have c0 : cellsAt wx ⟨b, o + j * 2, none⟩ 0 2 = some [.int .i64 x.1, .int .i64 x.2] := cellsAt_of (encR x) 0 (fun j u hu => by simpa using hcell j u hu)
        have hx2 := hhi j x (Nat.le_refl _) hx
        rw [hx] at hat
        simp -dsimp only [push_cast, Nat.reduceAdd, Nat.reduceLeDiff, Nat.reduceBEq, decide_true, c0]
        refine ⟨⟨by omega, by omega⟩, callK_of (hasCmp_c x p wx) ?_⟩
        rintro _ w1 ⟨rfl, hb1⟩
        simp -dsimp only [push_cast, Nat.reduceAdd, Nat.reduceLeDiff, Nat.reduceBEq, decide_true]
        refine ⟨⟨j, ?_⟩, hb.trans (hb1.mono hb.size)⟩
        have hat' : hasP s p = decide (x.1 ≤ p) := by rw [hat]
        have hdd : decide ((if p < x.1 then (1 : Int) else 0) = 0) = decide (x.1 ≤ p) := by rw [decide_eq_decide]; split <;> omega
        rw [hat', if_neg hx2, hdd]
      · refine ⟨⟨j, ?_⟩, hb⟩
        rw [hat, List.getElem?_eq_none (by omega)]

theorem has_c (s : List Rg) (hs : s.length < 1000000000) (hr : setRight (-2) s = true) (p : Int) (X : Nat → Prop) (v : Value) (w : World) (hv : Sl X 2 (En encR) w v s) :
    Fun Tryz.prog 71 [v, .int .i64 p] w fun r w' => r = .bool (hasP s p) ∧ Below w.heap.size w w' := by
  refine fun_of_vc Tryz.func71 rfl (by kernel_rfl) [4] rfl ?_
  simp -dsimp (maxSteps := 4000000) only [push_cast, fr0, Tryz.ntmps71, List.length_cons, List.length_nil, Nat.reduceAdd, Nat.reduceSub, Nat.reduceBEq, List.replicate_succ, List.replicate_zero]
  refine callK_of (search_c s hs hr p X v w hv) ?_
  rintro _ w1 ⟨⟨i, rfl⟩, hb⟩
  simp -dsimp only [push_cast, Nat.reduceAdd, Nat.reduceLeDiff, Nat.reduceBEq, decide_true]
  exact hb
end Go.Proofs.YtiofleijieepgaaGreatDoor
end
section
namespace Go.Proofs.YtiofleijieepgaaGreatDoor
open Go.Vc Go.Proofs Go.RowKit Cae
set_option maxRecDepth 100000
set_option linter.unusedSimpArgs false
set_option linter.unusedVariables false
attribute [local irreducible] wpL callK valK unitK runK Fun Sl Vc.Own vc vcOps opK pureK
set_option maxHeartbeats 4000000

/-- Two lists of places, apart, in blocks of D. -/
def Two (D : Nat → Prop) (w : World) (pA pB n : Nat) (q nx : List Nat) : Prop :=
  ∃ FA FB, Th w pA n q FA ∧ Th w pB n nx FB ∧ (∀ j, FA j → ¬ FB j) ∧ (∀ j, FA j → D j ∧ j < w.heap.size) ∧ (∀ j, FB j → D j ∧ j < w.heap.size)

theorem Two.swap {D : Nat → Prop} {w : World} {pA pB n : Nat} {q nx : List Nat} (h : Two D w pA pB n q nx) : Two D w pB pA n nx q := by
  obtain ⟨FA, FB, h1, h2, h3, h4, h5⟩ := h
  exact ⟨FB, FA, h2, h1, fun j hb ha => h3 j ha hb, h5, h4⟩
theorem Two.kept {D X : Nat → Prop} {w w' : World} {pA pB n : Nat} {q nx : List Nat} (h : Two D w pA pB n q nx) (hk : Kept X w w') (hX : ∀ j, D j → j < w.heap.size → ¬ X j) : Two D w' pA pB n q nx := by
  obtain ⟨FA, FB, h1, h2, h3, h4, h5⟩ := h
  have hs := hk.size
  exact ⟨FA, FB, h1.kept hk (fun j hj => hX j (h4 j hj).1 (h4 j hj).2), h2.kept hk (fun j hj => hX j (h5 j hj).1 (h5 j hj).2), h3, fun j hj => ⟨(h4 j hj).1, by have := (h4 j hj).2; omega⟩, fun j hj => ⟨(h5 j hj).1, by have := (h5 j hj).2; omega⟩⟩
theorem Two.narrow {D D' : Nat → Prop} {w : World} {pA pB n : Nat} {q nx : List Nat} (h : Two D w pA pB n q nx) (hD : ∀ j, D j → j < w.heap.size → D' j) : Two D' w pA pB n q nx := by
  obtain ⟨FA, FB, h1, h2, h3, h4, h5⟩ := h
  exact ⟨FA, FB, h1, h2, h3, fun j hj => ⟨hD j (h4 j hj).1 (h4 j hj).2, (h4 j hj).2⟩, fun j hj => ⟨hD j (h5 j hj).1 (h5 j hj).2, (h5 j hj).2⟩⟩
theorem Two.places {D : Nat → Prop} {w : World} {pA pB n : Nat} {q nx : List Nat} (h : Two D w pA pB n q nx) : Places n q ∧ Places n nx := by
  obtain ⟨FA, FB, ⟨_, _, _, _, _, _, _, _, _, h1⟩, ⟨_, _, _, _, _, _, _, _, _, h2⟩, _⟩ := h
  exact ⟨h1, h2⟩
/-- The list's slice, as it is read. -/
theorem Two.read {D : Nat → Prop} {w : World} {pA pB n : Nat} {q nx : List Nat} (h : Two D w pA pB n q nx) : ∃ a c, w.cell? ⟨pA, 0, none⟩ = some (.slice a q.length c) ∧ Sl (fun _ => False) 1 (En encN) w (.slice a q.length c) q := by
  obtain ⟨FA, FB, ⟨lv, sb, hp, hl, _⟩, _⟩ := h
  obtain ⟨a, c, rfl⟩ := hl.slice
  exact ⟨a, c, hp.cell rfl, hl.sl.weaken (fun _ h => h.elim)⟩

theorem twoAdd_c {D : Nat → Prop} {w : World} {pA pB n : Nat} {q nx : List Nat} (h : Two D w pA pB n q nx) {k : Nat} (hk : k < n) (hn : n < 1000000) :
    Fun Tryz.prog 70 [.pointer (some ⟨pA, 0, none⟩), .int .i64 k] w fun _ w' => Two (fun j => D j ∨ w.heap.size ≤ j) w' pA pB n (addQ q k) nx ∧ Kept D w w' := by
  obtain ⟨FA, FB, h1, h2, h3, h4, h5⟩ := h
  refine (add_c pA n q FA k hk hn w h1).mono ?_
  rintro _ w' ⟨hk', hT⟩
  have hs := hk'.size
  refine ⟨⟨fun j => (FA j ∨ w.heap.size ≤ j) ∧ j < w'.heap.size, FB, ?_, h2.kept hk' (fun j hj hh => h3 j hh hj), fun j ⟨hj, _⟩ hb => ?_, fun j ⟨hj, hl⟩ => ⟨?_, hl⟩, fun j hj => ⟨.inl (h5 j hj).1, by have := (h5 j hj).2; omega⟩⟩, hk'.weaken (fun i _ hi => (h4 i hi).1)⟩
  · obtain ⟨lv, sb, g1, g2, g3, g4, g5, g6, g7, g8⟩ := hT
    exact ⟨lv, sb, g1, g2, g3, g4, fun g hg => ⟨(g5 g hg).1, (g5 g hg).2.1, (g5 g hg).2.2, (g2.block g hg).2⟩, ⟨g6, g1.lt⟩, ⟨g7, g3.lt⟩, g8⟩
  · rcases hj with hj | hj
    · exact h3 j hj hb
    · have := (h5 j hb).2; omega
  · rcases hj with hj | hj
    · exact .inl (h4 j hj).1
    · exact .inr hj

theorem twoClear_c {D : Nat → Prop} {w : World} {pA pB n : Nat} {q nx : List Nat} (h : Two D w pA pB n q nx) (hn : n < 1000000) :
    Fun Tryz.prog 72 [.pointer (some ⟨pA, 0, none⟩)] w fun _ w' => Two D w' pA pB n [] nx ∧ Kept D w w' := by
  obtain ⟨FA, FB, h1, h2, h3, h4, h5⟩ := h
  refine (clear_c pA n q FA hn w h1).mono ?_
  rintro _ w' ⟨hk', hT⟩
  have hs := hk'.size
  exact ⟨⟨FA, FB, hT, h2.kept hk' (fun j hj hh => h3 j hh hj), h3, fun j hj => ⟨(h4 j hj).1, by have := (h4 j hj).2; omega⟩, fun j hj => ⟨(h5 j hj).1, by have := (h5 j hj).2; omega⟩⟩, hk'.weaken (fun i _ hi => (h4 i hi).1)⟩

theorem makeK {P : Program} {bt e : TypeId} {bytes : Nat} {z : Value} {n : Nat} {t : Fr} {w : World} {K : VK} {Q : EP} {p} (hE : elI P bt = some (e, 1, bytes)) (hz : (P.info? e).bind (·.zero) = some z) (hz1 : oneCell z = true) (hb : bytes * n ≤ 281474976710656) (hn : n ≤ 140737488355328)
    (kk : ∀ w', New w w' e (List.replicate n z) → K (.slice (some ⟨w.heap.size, 0, none⟩) n n) w') : valK P (Instr.makeSlice bt (.int .i64 n) (.int .i64 n)) t w K Q p := by
  obtain ⟨hu, i, z', hi, hz', hk, rfl, hzs, _, _⟩ := elI_spec hE
  rw [hi] at hz
  simp only [Option.bind_some] at hz
  rw [hz'] at hz
  cases hz
  have := run_make (P := P) w bt e i z hu hi hz' .i64 .i64 n n (by omega) (Int.le_refl _) (by rw [← Int.natCast_mul]; omega) (by omega)
  refine valK_of this ?_
  simp only [Int.toNat_natCast]
  refine kk _ ⟨?_⟩
  congr 2
  have hzc : z.cells = #[z] := by cases z <;> simp_all [oneCell, Value.cells]
  rw [hzc, hk]
  apply Array.ext'
  simp only [madeCells, Array.toList_map, Array.toList_range]
  apply List.ext_getElem?
  intro j
  simp only [List.getElem?_map, List.getElem?_replicate, Nat.mul_one]
  by_cases hj : j < n
  · simp [hj, Nat.mod_one]
  · simp [hj]
end Go.Proofs.YtiofleijieepgaaGreatDoor
end
section
namespace Go.Proofs.YtiofleijieepgaaGreatDoor
open Go.Vc Go.Proofs Go.RowKit Cae
set_option maxRecDepth 100000
set_option linter.unusedSimpArgs false
set_option linter.unusedVariables false
attribute [local irreducible] wpL callK valK unitK runK Fun Sl Vc.Own vc vcOps opK pureK
set_option maxHeartbeats 8000000


/-- What Match hands back. -/
def MatchV (c : CodeP) (ps : List Int) : Value :=
  if codeRight c then .tuple #[.bool (vmatch c ps).1, .int .i64 (vmatch c ps).2, .nilIface] else .tuple #[.bool false, .int .i64 0, .iface 47 (.int .i64 1)]

theorem match_c (c : CodeP) (ps : List Int) (hl : SetsLen c) (hi : c.ins.length < 1000000000) (hs : c.sets.length < 1000000000) (hps : ps.length < 1000000000) (X Xp : Nat → Prop) (v pv : Value) (w : World) (hv : CodeV X w v c) (hpv : Sl Xp 1 (En encI) w pv ps) :
    Fun Tryz.prog 39 [v, pv] w fun r w' => r = MatchV c ps ∧ Below w.heap.size w w' := by
  have hv0 := hv
  obtain ⟨sv, iv, rfl, hsv, hiv⟩ := hv0
  obtain ⟨a1, c1, rfl, hc1⟩ := hsv.shape
  obtain ⟨a2, c2, rfl, hc2⟩ := hiv.shape
  obtain ⟨a3, c3, rfl, hc3⟩ := hpv.shape
  refine fun_of_vc Tryz.func39 rfl (by kernel_rfl) [4, 5, 6] rfl ?_
  simp -dsimp (maxSteps := 4000000) only [push_cast, fr0, Tryz.ntmps39, List.length_cons, List.length_nil, Nat.reduceAdd, Nat.reduceSub, Nat.reduceBEq, List.replicate_succ, List.replicate_zero]
  refine boxK_of ?_
  intro w1 hw1
  have d1 : cellsAt w1 ⟨w.heap.size, 0, none⟩ 0 2 = some [.slice a1 c.sets.length c1, .slice a2 c.ins.length c2] := hw1.blk.cellsAt
  simp -dsimp only [push_cast, Nat.reduceAdd, Nat.reduceLeDiff, Nat.reduceBEq, decide_true, d1]
  refine callK_of (Right_c c hl hi hs X _ w1 (hv.below hw1.below)) ?_
  rintro _ w2 ⟨rfl, hb2⟩
  have hB2 : Below w.heap.size w w2 := hw1.below.trans (hb2.mono (by have := hw1.size; omega))
  have hsz1 := hw1.size
  cases hR : codeRight c with
  | false =>
    simp -dsimp only [push_cast, Nat.reduceAdd, Nat.reduceLeDiff, Nat.reduceBEq, decide_true]
    refine ⟨?_, hB2⟩
    unfold MatchV; rw [hR]; rfl
  | true =>
    have hc := CR.of hR
    have hn1 := hc.one
    have hn2 := hc.many
    have hbox : Blk w2 w.heap.size 43 [.slice a1 c.sets.length c1, .slice a2 c.ins.length c2] := hw1.blk.below hb2 hw1.blk.lt
    have e1 : w2.cell? ⟨w.heap.size, 1, none⟩ = some (.slice a2 c.ins.length c2) := hbox.cell rfl
    simp -dsimp only [push_cast, Nat.reduceAdd, Nat.reduceLeDiff, Nat.reduceBEq, decide_true, e1]
    have hseen : List.replicate c.ins.length (Value.bool false) = seenV c.ins.length [] := by
      unfold seenV
      apply List.ext_getElem?
      intro j
      simp only [List.getElem?_map, List.getElem?_replicate]
      by_cases hj : j < c.ins.length
      · simp [hj]
      · simp [hj]
    refine wpL_cut [8, 9, 22, 23, 24, 25, 26, 27, 28, 29] (fun z wx => ∃ pA pB : Nat, z 8 = .pointer (some ⟨pA, 0, none⟩) ∧ z 9 = .pointer (some ⟨pB, 0, none⟩) ∧ Two (fun j => w2.heap.size ≤ j) wx pA pB c.ins.length [] [] ∧ Kept (fun j => w2.heap.size ≤ j) w2 wx) ?_ ?_
    · refine wpL_tree (.one 0 (.one 4 (.two 1 (.one 2 (.two 3 (.one 5 (.one 6 (.one 7 (.one 8 (.one 9 .done))))) 5 (.one 6 (.two 3 (.one 7 (.one 8 (.one 9 .done))) 7 (.one 3 (.one 8 (.one 9 .done))))))) 5 (.one 6 (.two 1 (.one 2 (.two 3 (.one 7 (.one 8 (.one 9 .done))) 7 (.one 3 (.one 8 (.one 9 .done))))) 7 (.one 1 (.one 2 (.one 3 (.one 8 (.one 9 .done)))))))))) (fun _ => True) mixed (by kernel_rfl) trivial ?_
      simp -dsimp only [push_cast, Nat.reduceAdd, Nat.reduceLeDiff, Nat.reduceBEq, decide_true]
      constructor
      · refine makeK (z := .bool false) elI_113 (by kernel_rfl) rfl (by omega) (by omega) ?_
        intro y1 n1
        refine ⟨trivial, ?_⟩
        simp -dsimp only [push_cast, Nat.reduceAdd, Nat.reduceLeDiff, Nat.reduceBEq, decide_true]
        constructor
        · refine boxK_of ?_
          intro y2 n2
          refine ⟨trivial, ?_⟩
          simp -dsimp only [push_cast, Nat.reduceAdd, Nat.reduceLeDiff, Nat.reduceBEq, decide_true]
          refine makeK (z := .bool false) elI_113 (by kernel_rfl) rfl (by omega) (by omega) ?_
          intro y3 n3
          refine ⟨trivial, ?_⟩
          simp -dsimp only [push_cast, Nat.reduceAdd, Nat.reduceLeDiff, Nat.reduceBEq, decide_true]
          refine boxK_of ?_
          intro y4 n4
          refine ⟨trivial, ?_⟩
          simp -dsimp only [push_cast, Nat.reduceAdd, Nat.reduceLeDiff, Nat.reduceBEq, decide_true]
          have s1 := n1.size
          have s2 := n2.size
          have s3 := n3.size
          have s4 := n4.size
          have s0 : w2.drew.heap.size = w2.heap.size := rfl
          have b3 : Below y3.heap.size y3 y4 := n4.below
          have b2 : Below y2.heap.size y2 y4 := n3.below.trans (b3.mono (by omega))
          have b1 : Below y1.heap.size y1 y4 := n2.below.trans (b2.mono (by omega))
          have b4 : Below y4.heap.size y4 y4 := Below.refl _ _
          refine ⟨y1.heap.size, y3.heap.size, rfl, rfl, ⟨fun j => j = w2.drew.heap.size ∨ j = y1.heap.size, fun j => j = y2.heap.size ∨ j = y3.heap.size, ⟨.slice none 0 0, w2.drew.heap.size, (n2.blk.below b2 n2.blk.lt), Vc.Own.nil (enc := encN) _ _ (fun _ => rfl) _, by rw [← hseen]; exact (n1.blk.below b1 n1.blk.lt), by omega, fun g h => by simp [Value.ownBlock] at h, .inr rfl, .inl rfl, Places.nil _⟩, ⟨.slice none 0 0, y2.heap.size, (n4.blk.below b4 n4.blk.lt), Vc.Own.nil (enc := encN) _ _ (fun _ => rfl) _, by rw [← hseen]; exact (n3.blk.below b3 n3.blk.lt), by omega, fun g h => by simp [Value.ownBlock] at h, .inr rfl, .inl rfl, Places.nil _⟩, fun j h1 h2 => by omega, fun j h => by omega, fun j h => by omega⟩, Kept.of_below ((Below.refl w2.heap.size w2).drew.trans (n1.below.trans (b1.mono (by omega)))) (fun i h _ => h)⟩
        · refine makeK (z := .bool false) elI_113 (by kernel_rfl) rfl (by omega) (by omega) ?_
          intro y2 n2
          refine ⟨trivial, ?_⟩
          simp -dsimp only [push_cast, Nat.reduceAdd, Nat.reduceLeDiff, Nat.reduceBEq, decide_true]
          constructor
          · refine boxK_of ?_
            intro y3 n3
            refine ⟨trivial, ?_⟩
            simp -dsimp only [push_cast, Nat.reduceAdd, Nat.reduceLeDiff, Nat.reduceBEq, decide_true]
            refine boxK_of ?_
            intro y4 n4
            refine ⟨trivial, ?_⟩
            simp -dsimp only [push_cast, Nat.reduceAdd, Nat.reduceLeDiff, Nat.reduceBEq, decide_true]
            have s1 := n1.size
            have s2 := n2.size
            have s3 := n3.size
            have s4 := n4.size
            have s0 : w2.drew.heap.size = w2.heap.size := rfl
            have b3 : Below y3.heap.size y3 y4 := n4.below
            have b2 : Below y2.heap.size y2 y4 := n3.below.trans (b3.mono (by omega))
            have b1 : Below y1.heap.size y1 y4 := n2.below.trans (b2.mono (by omega))
            have b4 : Below y4.heap.size y4 y4 := Below.refl _ _
            refine ⟨y2.heap.size, y3.heap.size, rfl, rfl, ⟨fun j => j = w2.drew.heap.size ∨ j = y2.heap.size, fun j => j = y1.heap.size ∨ j = y3.heap.size, ⟨.slice none 0 0, w2.drew.heap.size, (n3.blk.below b3 n3.blk.lt), Vc.Own.nil (enc := encN) _ _ (fun _ => rfl) _, by rw [← hseen]; exact (n1.blk.below b1 n1.blk.lt), by omega, fun g h => by simp [Value.ownBlock] at h, .inr rfl, .inl rfl, Places.nil _⟩, ⟨.slice none 0 0, y1.heap.size, (n4.blk.below b4 n4.blk.lt), Vc.Own.nil (enc := encN) _ _ (fun _ => rfl) _, by rw [← hseen]; exact (n2.blk.below b2 n2.blk.lt), by omega, fun g h => by simp [Value.ownBlock] at h, .inr rfl, .inl rfl, Places.nil _⟩, fun j h1 h2 => by omega, fun j h => by omega, fun j h => by omega⟩, Kept.of_below ((Below.refl w2.heap.size w2).drew.trans (n1.below.trans (b1.mono (by omega)))) (fun i h _ => h)⟩
          · refine boxK_of ?_
            intro y3 n3
            refine ⟨trivial, ?_⟩
            simp -dsimp only [push_cast, Nat.reduceAdd, Nat.reduceLeDiff, Nat.reduceBEq, decide_true]
            refine boxK_of ?_
            intro y4 n4
            refine ⟨trivial, ?_⟩
            simp -dsimp only [push_cast, Nat.reduceAdd, Nat.reduceLeDiff, Nat.reduceBEq, decide_true]
            have s1 := n1.size
            have s2 := n2.size
            have s3 := n3.size
            have s4 := n4.size
            have s0 : w2.drew.heap.size = w2.heap.size := rfl
            have b3 : Below y3.heap.size y3 y4 := n4.below
            have b2 : Below y2.heap.size y2 y4 := n3.below.trans (b3.mono (by omega))
            have b1 : Below y1.heap.size y1 y4 := n2.below.trans (b2.mono (by omega))
            have b4 : Below y4.heap.size y4 y4 := Below.refl _ _
            refine ⟨y3.heap.size, y2.heap.size, rfl, rfl, ⟨fun j => j = w2.drew.heap.size ∨ j = y3.heap.size, fun j => j = y1.heap.size ∨ j = y2.heap.size, ⟨.slice none 0 0, w2.drew.heap.size, (n4.blk.below b4 n4.blk.lt), Vc.Own.nil (enc := encN) _ _ (fun _ => rfl) _, by rw [← hseen]; exact (n1.blk.below b1 n1.blk.lt), by omega, fun g h => by simp [Value.ownBlock] at h, .inr rfl, .inl rfl, Places.nil _⟩, ⟨.slice none 0 0, y1.heap.size, (n3.blk.below b3 n3.blk.lt), Vc.Own.nil (enc := encN) _ _ (fun _ => rfl) _, by rw [← hseen]; exact (n2.blk.below b2 n2.blk.lt), by omega, fun g h => by simp [Value.ownBlock] at h, .inr rfl, .inl rfl, Places.nil _⟩, fun j h1 h2 => by omega, fun j h => by omega, fun j h => by omega⟩, Kept.of_below ((Below.refl w2.heap.size w2).drew.trans (n1.below.trans (b1.mono (by omega)))) (fun i h _ => h)⟩
      · refine makeK (z := .bool false) elI_113 (by kernel_rfl) rfl (by omega) (by omega) ?_
        intro y1 n1
        refine ⟨trivial, ?_⟩
        simp -dsimp only [push_cast, Nat.reduceAdd, Nat.reduceLeDiff, Nat.reduceBEq, decide_true]
        constructor
        · refine makeK (z := .bool false) elI_113 (by kernel_rfl) rfl (by omega) (by omega) ?_
          intro y2 n2
          refine ⟨trivial, ?_⟩
          simp -dsimp only [push_cast, Nat.reduceAdd, Nat.reduceLeDiff, Nat.reduceBEq, decide_true]
          constructor
          · refine boxK_of ?_
            intro y3 n3
            refine ⟨trivial, ?_⟩
            simp -dsimp only [push_cast, Nat.reduceAdd, Nat.reduceLeDiff, Nat.reduceBEq, decide_true]
            refine boxK_of ?_
            intro y4 n4
            refine ⟨trivial, ?_⟩
            simp -dsimp only [push_cast, Nat.reduceAdd, Nat.reduceLeDiff, Nat.reduceBEq, decide_true]
            have s1 := n1.size
            have s2 := n2.size
            have s3 := n3.size
            have s4 := n4.size
            have s0 : w2.drew.heap.size = w2.heap.size := rfl
            have b3 : Below y3.heap.size y3 y4 := n4.below
            have b2 : Below y2.heap.size y2 y4 := n3.below.trans (b3.mono (by omega))
            have b1 : Below y1.heap.size y1 y4 := n2.below.trans (b2.mono (by omega))
            have b4 : Below y4.heap.size y4 y4 := Below.refl _ _
            refine ⟨y2.heap.size, y3.heap.size, rfl, rfl, ⟨fun j => j = y1.heap.size ∨ j = y2.heap.size, fun j => j = w2.drew.heap.size ∨ j = y3.heap.size, ⟨.slice none 0 0, y1.heap.size, (n3.blk.below b3 n3.blk.lt), Vc.Own.nil (enc := encN) _ _ (fun _ => rfl) _, by rw [← hseen]; exact (n2.blk.below b2 n2.blk.lt), by omega, fun g h => by simp [Value.ownBlock] at h, .inr rfl, .inl rfl, Places.nil _⟩, ⟨.slice none 0 0, w2.drew.heap.size, (n4.blk.below b4 n4.blk.lt), Vc.Own.nil (enc := encN) _ _ (fun _ => rfl) _, by rw [← hseen]; exact (n1.blk.below b1 n1.blk.lt), by omega, fun g h => by simp [Value.ownBlock] at h, .inr rfl, .inl rfl, Places.nil _⟩, fun j h1 h2 => by omega, fun j h => by omega, fun j h => by omega⟩, Kept.of_below ((Below.refl w2.heap.size w2).drew.trans (n1.below.trans (b1.mono (by omega)))) (fun i h _ => h)⟩
          · refine boxK_of ?_
            intro y3 n3
            refine ⟨trivial, ?_⟩
            simp -dsimp only [push_cast, Nat.reduceAdd, Nat.reduceLeDiff, Nat.reduceBEq, decide_true]
            refine boxK_of ?_
            intro y4 n4
            refine ⟨trivial, ?_⟩
            simp -dsimp only [push_cast, Nat.reduceAdd, Nat.reduceLeDiff, Nat.reduceBEq, decide_true]
            have s1 := n1.size
            have s2 := n2.size
            have s3 := n3.size
            have s4 := n4.size
            have s0 : w2.drew.heap.size = w2.heap.size := rfl
            have b3 : Below y3.heap.size y3 y4 := n4.below
            have b2 : Below y2.heap.size y2 y4 := n3.below.trans (b3.mono (by omega))
            have b1 : Below y1.heap.size y1 y4 := n2.below.trans (b2.mono (by omega))
            have b4 : Below y4.heap.size y4 y4 := Below.refl _ _
            refine ⟨y3.heap.size, y2.heap.size, rfl, rfl, ⟨fun j => j = y1.heap.size ∨ j = y3.heap.size, fun j => j = w2.drew.heap.size ∨ j = y2.heap.size, ⟨.slice none 0 0, y1.heap.size, (n4.blk.below b4 n4.blk.lt), Vc.Own.nil (enc := encN) _ _ (fun _ => rfl) _, by rw [← hseen]; exact (n2.blk.below b2 n2.blk.lt), by omega, fun g h => by simp [Value.ownBlock] at h, .inr rfl, .inl rfl, Places.nil _⟩, ⟨.slice none 0 0, w2.drew.heap.size, (n3.blk.below b3 n3.blk.lt), Vc.Own.nil (enc := encN) _ _ (fun _ => rfl) _, by rw [← hseen]; exact (n1.blk.below b1 n1.blk.lt), by omega, fun g h => by simp [Value.ownBlock] at h, .inr rfl, .inl rfl, Places.nil _⟩, fun j h1 h2 => by omega, fun j h => by omega, fun j h => by omega⟩, Kept.of_below ((Below.refl w2.heap.size w2).drew.trans (n1.below.trans (b1.mono (by omega)))) (fun i h _ => h)⟩
        · refine boxK_of ?_
          intro y2 n2
          refine ⟨trivial, ?_⟩
          simp -dsimp only [push_cast, Nat.reduceAdd, Nat.reduceLeDiff, Nat.reduceBEq, decide_true]
          refine makeK (z := .bool false) elI_113 (by kernel_rfl) rfl (by omega) (by omega) ?_
          intro y3 n3
          refine ⟨trivial, ?_⟩
          simp -dsimp only [push_cast, Nat.reduceAdd, Nat.reduceLeDiff, Nat.reduceBEq, decide_true]
          refine boxK_of ?_
          intro y4 n4
          refine ⟨trivial, ?_⟩
          simp -dsimp only [push_cast, Nat.reduceAdd, Nat.reduceLeDiff, Nat.reduceBEq, decide_true]
          have s1 := n1.size
          have s2 := n2.size
          have s3 := n3.size
          have s4 := n4.size
          have s0 : w2.drew.heap.size = w2.heap.size := rfl
          have b3 : Below y3.heap.size y3 y4 := n4.below
          have b2 : Below y2.heap.size y2 y4 := n3.below.trans (b3.mono (by omega))
          have b1 : Below y1.heap.size y1 y4 := n2.below.trans (b2.mono (by omega))
          have b4 : Below y4.heap.size y4 y4 := Below.refl _ _
          refine ⟨y3.heap.size, y1.heap.size, rfl, rfl, ⟨fun j => j = y2.heap.size ∨ j = y3.heap.size, fun j => j = w2.drew.heap.size ∨ j = y1.heap.size, ⟨.slice none 0 0, y2.heap.size, (n4.blk.below b4 n4.blk.lt), Vc.Own.nil (enc := encN) _ _ (fun _ => rfl) _, by rw [← hseen]; exact (n3.blk.below b3 n3.blk.lt), by omega, fun g h => by simp [Value.ownBlock] at h, .inr rfl, .inl rfl, Places.nil _⟩, ⟨.slice none 0 0, w2.drew.heap.size, (n2.blk.below b2 n2.blk.lt), Vc.Own.nil (enc := encN) _ _ (fun _ => rfl) _, by rw [← hseen]; exact (n1.blk.below b1 n1.blk.lt), by omega, fun g h => by simp [Value.ownBlock] at h, .inr rfl, .inl rfl, Places.nil _⟩, fun j h1 h2 => by omega, fun j h => by omega, fun j h => by omega⟩, Kept.of_below ((Below.refl w2.heap.size w2).drew.trans (n1.below.trans (b1.mono (by omega)))) (fun i h _ => h)⟩
    intro z w6 hJ
    obtain ⟨pA0, pB0, h8, h9, hT, k26⟩ := hJ
    simp -dsimp only [push_cast, Nat.reduceAdd, Nat.reduceLeDiff, Nat.reduceBEq, decide_true, h8, h9]
    refine callK_of (twoAdd_c hT (k := 0) (by omega) (by omega)) ?_
    rintro _ w7 ⟨hT7, k67⟩
    have k27 : Kept (fun j => w2.heap.size ≤ j) w2 w7 := k26.trans k67 (fun _ _ h => h)
    have s26 := k26.size
    have hT7 : Two (fun j => w2.heap.size ≤ j) w7 pA0 pB0 c.ins.length [0] [] := hT7.narrow (fun j h _ => by omega)
    clear hT k26 k67 d1 hseen
    simp -dsimp only [push_cast, Nat.reduceAdd, Nat.reduceLeDiff, Nat.reduceBEq, decide_true]
    refine wpL_loop [4, 5, 6, 8, 9, 10, 11, 12, 13, 14, 32, 33, 34, 35, 36, 37, 38, 39, 40, 41, 42, 43, 44, 45, 46, 47, 48, 49, 50, 51, 52, 53, 54, 55, 56, 57, 58, 59, 60, 61, 62, 63, 64, 65, 66, 67, 68, 69, 70, 71, 72, 73, 74, 75, 76, 77, 78, 79, 80, 81, 82, 83, 84, 85, 86, 87, 88, 89, 90, 91, 92, 93, 94, 95, 96, 97, 98, 99, 100, 101, 102, 103, 104, 105, 106, 107, 108, 109, 110, 111, 112, 113, 114, 115, 116, 117, 118, 119, 120, 121, 122, 123, 124, 125] (fun z wx => ∃ (i st pA pB : Nat) (q : List Nat), z 11 = .int .i64 i ∧ z 10 = .int .i64 st ∧ z 8 = .pointer (some ⟨pA, 0, none⟩) ∧ z 9 = .pointer (some ⟨pB, 0, none⟩) ∧ i ≤ ps.length ∧ st ≤ i * 2001 ∧
      outer c (ps.drop i) q st = vmatch c ps ∧ Two (fun j => w2.heap.size ≤ j) wx pA pB c.ins.length q [] ∧ Kept (fun j => w2.heap.size ≤ j) w2 wx) (fun z _ => ps.length - (intOf (z 11)).toNat) ?_ ?_
    · exact ⟨0, 0, pA0, pB0, [0], rfl, rfl, rfl, rfl, Nat.zero_le _, Nat.le_refl _, rfl, hT7, k27⟩
    · intro z wx hI
      obtain ⟨i, st0, pA, pB, q, h11, h10, h8, h9, hip, hst, hout, hT, hk⟩ := hI
      simp -dsimp only [push_cast, Nat.reduceAdd, Nat.reduceLeDiff, Nat.reduceBEq, decide_true, h11, h10, h8, h9]
      rw [outer_eq c ps i q st0 hip] at hout
      generalize hR0 : inner c ps[i]? (c.ins.length + 1) q 0 [] st0 = R0 at hout
      refine wpL_loop [4, 5, 6, 10, 12, 13, 14, 34, 35, 36, 37, 38, 39, 40, 41, 42, 43, 44, 45, 46, 47, 48, 49, 50, 51, 52, 53, 54, 55, 56, 57, 58, 59, 60, 61, 62, 63, 64, 65, 66, 67, 68, 69, 70, 71, 72, 73, 74, 75, 76, 77, 78, 79, 80, 81, 82, 83, 84, 85, 86, 87, 88, 89, 90, 91, 92, 93, 94, 95, 96, 97, 98, 99, 100, 101, 102, 103, 104, 105, 106, 107, 108] (fun z' wy => ∃ (k st : Nat) (q' nx : List Nat), z' 12 = .int .i64 k ∧ z' 10 = .int .i64 st ∧ k ≤ q'.length ∧ st ≤ st0 + k ∧ inner c ps[i]? (c.ins.length + 1 - k) q' k nx st = R0 ∧
        Two (fun j => w2.heap.size ≤ j) wy pA pB c.ins.length q' nx ∧ Kept (fun j => w2.heap.size ≤ j) w2 wy) (fun z' _ => c.ins.length + 1 - (intOf (z' 12)).toNat) ?_ ?_
      · exact ⟨0, st0, q, [], rfl, rfl, Nat.zero_le _, Nat.le_refl _, hR0, hT, hk⟩
      · intro z' wy hI
        obtain ⟨k, st, q', nx, h12, h10, hkq, hstk, hin, hT, hk⟩ := hI
        obtain ⟨al, cl, cA, hqs⟩ := hT.read
        have hP := hT.places
        have hql := hP.1.len
        have hboxy := hbox.kept hk (by have := hbox.lt; show ¬ w2.heap.size ≤ w.heap.size; omega)
        have b0 : wy.cell? ⟨w.heap.size, 0, none⟩ = some (.slice a1 c.sets.length c1) := hboxy.cell rfl
        have b1 : wy.cell? ⟨w.heap.size, 1, none⟩ = some (.slice a2 c.ins.length c2) := hboxy.cell rfl
        simp -dsimp only [push_cast, Nat.reduceAdd, Nat.reduceLeDiff, Nat.reduceBEq, decide_true, h12, h10, cA, h8, h9]
        refine ⟨fun hlt => ?_, fun hge => ?_⟩
        · have hBy : Below w.heap.size w wy := hB2.trans (hk.below hB2.size (fun _ h => by have := hB2.size; omega))
          have hex : ∃ (at_ : Nat) (x : I3) (bq oq bi oi : Nat), q'[k]? = some at_ ∧ at_ < c.ins.length ∧ c.ins[at_]? = some x ∧ al = some ⟨bq, oq, none⟩ ∧ a2 = some ⟨bi, oi, none⟩ ∧ wy.cell? ⟨bq, oq + k, none⟩ = some (.int .i64 at_) ∧
              cellsAt wy ⟨bi, oi + at_ * 3, none⟩ 0 3 = some [.int .i64 x.op, .int .i64 x.a, .int .i64 x.b] := by
            obtain ⟨at_, hat, hatm, _, _⟩ := lt_get (l := q') (i := k) (by omega)
            have hatn := hP.1.2 at_ hatm
            obtain ⟨bq, oq, hal, _, hcellq⟩ := hqs.get hat
            obtain ⟨x, hx, hxm, _, _⟩ := lt_get (l := c.ins) (i := at_) hatn
            obtain ⟨bi, oi, hai, _, hcelli⟩ := (hiv.below hBy).get hx
            exact ⟨at_, x, bq, oq, bi, oi, hat, hatn, hx, hal, hai, by simpa using hcellq 0 _ rfl, cellsAt_of (encIn x) 0 (fun j u hu => by simpa using hcelli j u hu)⟩
          refine Exists.elim hex fun at_ hex => Exists.elim hex fun x hex => Exists.elim hex fun bq hex => Exists.elim hex fun oq hex => Exists.elim hex fun bi hex => Exists.elim hex fun oi hex => ?_
          have hat := hex.1
          have hatn := hex.2.1
          have hx := hex.2.2.1
          have hal := hex.2.2.2.1
          have hai := hex.2.2.2.2.1
          have cq := hex.2.2.2.2.2.1
          have ci := hex.2.2.2.2.2.2
          clear hex
          simp -dsimp only [push_cast, Nat.reduceAdd, Nat.reduceLeDiff, Nat.reduceBEq, decide_true, hal, cq, b1, indexAddrK_at hai, ci]
          obtain ⟨f, hf⟩ : ∃ f, c.ins.length + 1 - k = f + 1 := ⟨c.ins.length - k, by omega⟩
          have hf' : c.ins.length + 1 - (k + 1) = f := by omega
          rw [hf] at hin
          have hcase := insRight_cases (hc.ins at_ x hx)
          have hnext := hc.next at_ x hx
          refine ⟨⟨by omega, by omega⟩, ⟨by omega, by omega⟩, ⟨by omega, by omega⟩, ?_⟩
          refine allocK (z := [.int .i64 0, .int .i64 0, .int .i64 0]) (by kernel_rfl) ?_
          intro wz0 hwz0
          simp -dsimp only [push_cast, Nat.reduceAdd, Nat.reduceLeDiff, Nat.reduceBEq, decide_true]
          refine storeAgg (n := 3) (by kernel_rfl) hwz0.blk rfl (by simp) (by simp [Value.oneCell']) ?_
          intro wz hwz
          have hszz : wz.heap.size = wy.heap.size + 1 := by rw [hwz.size, hwz0.size]
          have kz : Kept (fun j => j = wy.heap.size) wy wz := (Kept.new hwz0).trans hwz.kept (fun _ _ h => h)
          have o0 : wz.cell? ⟨wy.heap.size, 0, none⟩ = some (.int .i64 x.op) := hwz.blk.cell rfl
          have hBx : Blk wz wy.heap.size 89 [.int .i64 x.op, .int .i64 x.a, .int .i64 x.b] := hwz.blk
          have hTz : Two (fun j => w2.heap.size ≤ j ∧ j < wy.heap.size) wz pA pB c.ins.length q' nx := (hT.narrow (fun j h hl => ⟨h, hl⟩)).kept kz (fun j h _ hh => by omega)
          have hkz : Kept (fun j => w2.heap.size ≤ j) w2 wz := hk.trans kz (fun i hi h => by subst h; exact hk.size)
          have sy := hk.size
          clear hwz hwz0 hT kz
          simp -dsimp only [push_cast, Nat.reduceAdd, Nat.reduceLeDiff, Nat.reduceBEq, decide_true, o0]
          refine ⟨fun h5 => ?_, fun h5 => ⟨fun h2 => ?_, fun h2 => ⟨fun h3 => ?_, fun h3 => ⟨fun h4 => ?_, fun h4 => ?_⟩⟩⟩⟩
          · rw [inner_yes hat hx h5] at hin
            subst hin
            dsimp only at hout
            unfold MatchV
            rw [hR, ← hout]
            exact ⟨rfl, hB2.trans (hkz.below hB2.size (fun _ h => by have := hB2.size; omega))⟩
          · rw [inner_step hat hx h5] at hin
            have hr : 0 ≤ x.a ∧ x.a < c.ins.length ∧ 0 ≤ x.b ∧ x.b < c.ins.length := by omega
            have ea : x.a = (x.a.toNat : Int) := by omega
            have eb : x.b = (x.b.toNat : Int) := by omega
            have o1 : wz.cell? ⟨wy.heap.size, 1, none⟩ = some (.int .i64 (x.a.toNat : Int)) := by rw [← ea]; exact hBx.cell rfl
            simp -dsimp only [push_cast, Nat.reduceAdd, Nat.reduceLeDiff, Nat.reduceBEq, decide_true, o1]
            refine callK_of (twoAdd_c hTz (k := x.a.toNat) (by omega) (by omega)) ?_
            rintro _ w5 ⟨hT5, hk5⟩
            have hBx5 := hBx.kept hk5 (by omega)
            have o2 : w5.cell? ⟨wy.heap.size, 2, none⟩ = some (.int .i64 (x.b.toNat : Int)) := by rw [← eb]; exact hBx5.cell rfl
            simp -dsimp only [push_cast, Nat.reduceAdd, Nat.reduceLeDiff, Nat.reduceBEq, decide_true, o2]
            refine callK_of (twoAdd_c hT5 (k := x.b.toNat) (by omega) (by omega)) ?_
            rintro _ w6 ⟨hT6, hk6⟩
            have e1x : (exec1 c ps[i]? x at_ q' nx) = (addQ (addQ q' x.a.toNat) x.b.toNat, nx) := by unfold exec1; rw [if_pos h2]
            rw [e1x] at hin
            have sz5 := hk5.size
            have hTf := hT6.narrow (D' := fun j => w2.heap.size ≤ j) (fun j h _ => by omega)
            have hkf : Kept (fun j => w2.heap.size ≤ j) w2 w6 := (hkz.trans hk5 (fun _ _ h => h.1)).trans hk6 (fun i hi h => by omega)
            have hlen : q'.length ≤ (addQ (addQ q' x.a.toNat) x.b.toNat).length := Nat.le_trans (addQ_len _ _) (addQ_len _ _)
            simp -dsimp only [push_cast, Nat.reduceAdd, Nat.reduceLeDiff, Nat.reduceBEq, decide_true]
            refine ⟨⟨by omega, by omega⟩, ⟨k + 1, st + 1, _, _, by simp, by simp, by omega, by omega, ?_, hTf, hkf⟩, by rw [h12]; simp only [intOf]; omega⟩
            rw [hf']; exact hin
          · rw [inner_step hat hx h5] at hin
            have hr : 0 ≤ x.a ∧ x.a < c.ins.length := by omega
            have ea : x.a = (x.a.toNat : Int) := by omega
            have o1 : wz.cell? ⟨wy.heap.size, 1, none⟩ = some (.int .i64 (x.a.toNat : Int)) := by rw [← ea]; exact hBx.cell rfl
            simp -dsimp only [push_cast, Nat.reduceAdd, Nat.reduceLeDiff, Nat.reduceBEq, decide_true, o1]
            refine callK_of (twoAdd_c hTz (k := x.a.toNat) (by omega) (by omega)) ?_
            rintro _ w6 ⟨hT5, hk5⟩
            have e1x : (exec1 c ps[i]? x at_ q' nx) = (addQ q' x.a.toNat, nx) := by unfold exec1; rw [if_neg h2, if_pos h3]
            rw [e1x] at hin
            have hTf := hT5.narrow (D' := fun j => w2.heap.size ≤ j) (fun j h _ => by omega)
            have hkf : Kept (fun j => w2.heap.size ≤ j) w2 w6 := (hkz.trans hk5 (fun _ _ h => h.1))
            have hlen : q'.length ≤ (addQ q' x.a.toNat).length := addQ_len _ _
            simp -dsimp only [push_cast, Nat.reduceAdd, Nat.reduceLeDiff, Nat.reduceBEq, decide_true]
            refine ⟨⟨by omega, by omega⟩, ⟨k + 1, st + 1, _, _, by simp, by simp, by omega, by omega, ?_, hTf, hkf⟩, by rw [h12]; simp only [intOf]; omega⟩
            rw [hf']; exact hin
          · rw [inner_step hat hx h5] at hin
            have hnx := hnext (.inr h4)
            refine ⟨fun hend => ⟨⟨by omega, by omega⟩, ?_⟩, fun hend => ?_⟩
            · refine callK_of (twoAdd_c hTz (k := at_ + 1) (by omega) (by omega)) ?_
              rintro _ w6 ⟨hT5, hk5⟩
              have e1x : (exec1 c ps[i]? x at_ q' nx) = (addQ q' (at_ + 1), nx) := by unfold exec1; rw [if_neg h2, if_neg h3, if_pos h4, List.getElem?_eq_none (by omega)]; rfl
              rw [e1x] at hin
              have hTf := hT5.narrow (D' := fun j => w2.heap.size ≤ j) (fun j h _ => by omega)
              have hkf : Kept (fun j => w2.heap.size ≤ j) w2 w6 := (hkz.trans hk5 (fun _ _ h => h.1))
              have hlen : q'.length ≤ (addQ q' (at_ + 1)).length := addQ_len _ _
              simp -dsimp only [push_cast, Nat.reduceAdd, Nat.reduceLeDiff, Nat.reduceBEq, decide_true]
              refine ⟨⟨by omega, by omega⟩, ⟨k + 1, st + 1, _, _, by simp, by simp, by omega, by omega, ?_, hTf, hkf⟩, by rw [h12]; simp only [intOf]; omega⟩
              rw [hf']; exact hin
            · have e1x : (exec1 c ps[i]? x at_ q' nx) = (q', nx) := by unfold exec1; rw [if_neg h2, if_neg h3, if_pos h4, List.getElem?_eq_getElem (show i < ps.length by omega)]; rfl
              rw [e1x] at hin
              have hTf := hTz.narrow (D' := fun j => w2.heap.size ≤ j) (fun j h _ => h.1)
              have hkf := hkz
              have hlen : q'.length ≤ q'.length := Nat.le_refl _
              refine ⟨⟨by omega, by omega⟩, ⟨k + 1, st + 1, _, _, by simp, by simp, by omega, by omega, ?_, hTf, hkf⟩, by rw [h12]; simp only [intOf]; omega⟩
              rw [hf']; exact hin
          · rw [inner_step hat hx h5] at hin
            have hop : x.op = 1 ∧ 0 ≤ x.a ∧ x.a < c.sets.length := by omega
            refine wpL_draw (fun w' => Kept (fun _ => False) wz w') mixed (by kernel_rfl) (Kept.refl _ _).drew ?_
            have sxn := hnext (.inl hop.1)
            have ea : x.a = (x.a.toNat : Int) := by omega
            have lB : ∀ w', Kept (fun _ => False) wz w' → w'.cell? ⟨w.heap.size, 0, none⟩ = some (.slice a1 c.sets.length c1) := fun w' hk' => hk'.cell ((hbox.kept hkz (by have := hbox.lt; show ¬ w2.heap.size ≤ w.heap.size; omega)).cell rfl) id
            have lX : ∀ w', Kept (fun _ => False) wz w' → w'.cell? ⟨wy.heap.size, 1, none⟩ = some (.int .i64 (x.a.toNat : Int)) := fun w' hk' => hk'.cell (by rw [← ea]; exact hBx.cell rfl) id
            have kd : Kept (fun _ => False) wz wz.drew := (Kept.refl _ _).drew
            have d1 := lB _ kd
            have d2 := lX _ kd
            simp -dsimp only [push_cast, Nat.reduceAdd, Nat.reduceLeDiff, Nat.reduceBEq, decide_true, d1, d2]
            refine ⟨fun hin_i => ⟨fun w'' hC => by rw [lB w'' hC]; exact rfl, fun w'' hC => by rw [lX w'' hC]; exact rfl, ?_⟩, fun hout_i => ?_⟩
            · have hBz : Below w.heap.size w wz := hB2.trans (hkz.below hB2.size (fun _ h => by have := hB2.size; omega))
              have hex : ∃ (s : List Rg) (u : Value) (bs os : Nat) (p : Int) (bp op : Nat), c.sets[x.a.toNat]? = some s ∧ a1 = some ⟨bs, os, none⟩ ∧ wz.drew.cell? ⟨bs, os + x.a.toNat, none⟩ = some u ∧ Sl X 2 (En encR) wz.drew u s ∧ ps[i]? = some p ∧ a3 = some ⟨bp, op, none⟩ ∧ wz.drew.cell? ⟨bp, op + i, none⟩ = some (.int .i64 p) := by
                obtain ⟨s, hs1, _, _, _⟩ := lt_get (l := c.sets) (i := x.a.toNat) (by omega)
                obtain ⟨p, hp1, _, _, _⟩ := lt_get (l := ps) (i := i) (by omega)
                have hsz : Sl X 1 (SetR X wz) wz (.slice a1 c.sets.length c1) c.sets := hsv.below hBz
                obtain ⟨bs, os, cs, ha1, _, _, hcs, u, rfl, hu⟩ := hsz.getR hs1
                obtain ⟨bp, op, ha3, _, hcp⟩ := (hpv.below hBz).get hp1
                exact ⟨s, u, bs, os, p, bp, op, hs1, ha1, by simpa using hcs 0 u rfl, hu.below (Below.refl _ _).drew, hp1, ha3, by simpa using hcp 0 _ rfl⟩
              refine Exists.elim hex fun s hex => Exists.elim hex fun u hex => Exists.elim hex fun bs hex => Exists.elim hex fun os hex => Exists.elim hex fun p hex => Exists.elim hex fun bp hex => Exists.elim hex fun op hex => ?_
              have hs1 := hex.1
              have ha1 := hex.2.1
              have cu := hex.2.2.1
              have hu := hex.2.2.2.1
              have hp1 := hex.2.2.2.2.1
              have ha3 := hex.2.2.2.2.2.1
              have cp := hex.2.2.2.2.2.2
              clear hex
              have hsm := List.mem_of_getElem? hs1
              have lU : ∀ w', Kept (fun _ => False) wz w' → w'.cell? ⟨bs, os + x.a.toNat, none⟩ = some u := fun w' hk' => hk'.cell (show wz.cell? _ = _ from cu) id
              have lP : ∀ w', Kept (fun _ => False) wz w' → w'.cell? ⟨bp, op + i, none⟩ = some (.int .i64 p) := fun w' hk' => hk'.cell (show wz.cell? _ = _ from cp) id
              simp -dsimp only [push_cast, Nat.reduceAdd, Nat.reduceLeDiff, Nat.reduceBEq, decide_true, indexAddrK_at ha1, indexAddrK_at ha3, cu, cp]
              refine ⟨⟨by omega, by omega⟩, fun w'' hC => by rw [lU w'' hC]; exact rfl, ⟨by omega, by omega⟩, fun w'' hC => by rw [lP w'' hC]; exact rfl, ?_⟩
              refine callK_of (has_c s (hl s hsm) (hc.set s hsm) p X u wz.drew hu) ?_
              rintro _ w6 ⟨rfl, hb6⟩
              have k6 : Kept (fun _ => False) wz w6 := kd.trans (Kept.of_below hb6 (X := fun _ => False) (fun j h1 h2 => absurd h2 (by have : wz.drew.heap.size = wz.heap.size := rfl; omega))) (fun _ _ => id)
              have hT6 := hTz.kept k6 (fun _ _ _ => id)
              have hk6 := hkz.trans k6 (fun _ _ h => h.elim)
              have hgs : c.sets.getD x.a.toNat [] = s := by rw [List.getD_eq_getElem?_getD, hs1]; rfl
              refine ⟨k6, ?_⟩
              cases hH : hasP s p with
              | true =>
                simp -dsimp only [push_cast, Nat.reduceAdd, Nat.reduceLeDiff, Nat.reduceBEq, decide_true]
                refine ⟨⟨by omega, by omega⟩, ?_⟩
                refine callK_of (twoAdd_c hT6.swap (k := at_ + 1) (by omega) (by omega)) ?_
                rintro _ w7 ⟨hT7, hk7⟩
                have e1x : (exec1 c ps[i]? x at_ q' nx) = (q', addQ nx (at_ + 1)) := by unfold exec1; rw [if_neg h2, if_neg h3, if_neg h4, hp1]; dsimp only; rw [hgs, hH, if_pos rfl]
                rw [e1x] at hin
                have sz6 := k6.size
                have hTf := hT7.swap.narrow (D' := fun j => w2.heap.size ≤ j) (fun j h _ => by omega)
                have hkf : Kept (fun j => w2.heap.size ≤ j) w2 w7 := hk6.trans hk7 (fun _ _ h => h.1)
                have hlen : q'.length ≤ q'.length := Nat.le_refl _
                simp -dsimp only [push_cast, Nat.reduceAdd, Nat.reduceLeDiff, Nat.reduceBEq, decide_true]
                refine ⟨⟨by omega, by omega⟩, ⟨k + 1, st + 1, _, _, by simp, by simp, by omega, by omega, ?_, hTf, hkf⟩, by rw [h12]; simp only [intOf]; omega⟩
                rw [hf']; exact hin
              | false =>
                simp -dsimp only [push_cast, Nat.reduceAdd, Nat.reduceLeDiff, Nat.reduceBEq, decide_true]
                have e1x : (exec1 c ps[i]? x at_ q' nx) = (q', nx) := by unfold exec1; rw [if_neg h2, if_neg h3, if_neg h4, hp1]; dsimp only; rw [hgs, hH]; rfl
                rw [e1x] at hin
                have hTf := hT6.narrow (D' := fun j => w2.heap.size ≤ j) (fun j h _ => h.1)
                have hkf := hk6
                have hlen : q'.length ≤ q'.length := Nat.le_refl _
                refine ⟨⟨by omega, by omega⟩, ⟨k + 1, st + 1, _, _, by simp, by simp, by omega, by omega, ?_, hTf, hkf⟩, by rw [h12]; simp only [intOf]; omega⟩
                rw [hf']; exact hin
            · have e1x : (exec1 c ps[i]? x at_ q' nx) = (q', nx) := by unfold exec1; rw [if_neg h2, if_neg h3, if_neg h4, List.getElem?_eq_none (by omega)]
              rw [e1x] at hin
              have hTf := (hTz.kept kd (fun _ _ _ => id)).narrow (D' := fun j => w2.heap.size ≤ j) (fun j h _ => h.1)
              have hkf := hkz.trans kd (fun _ _ h => h.elim)
              have hlen : q'.length ≤ q'.length := Nat.le_refl _
              refine ⟨⟨by omega, by omega⟩, ⟨k + 1, st + 1, _, _, by simp, by simp, by omega, by omega, ?_, hTf, hkf⟩, by rw [h12]; simp only [intOf]; omega⟩
              rw [hf']; exact hin
        · have hn : q'[k]? = none := List.getElem?_eq_none (by omega)
          obtain ⟨f, hf⟩ : ∃ f, c.ins.length + 1 - k = f + 1 := ⟨c.ins.length - k, by omega⟩
          rw [hf, inner_end hn] at hin
          subst hin
          dsimp only at hout
          have hBy : Below w.heap.size w wy := hB2.trans (hk.below hB2.size (fun _ h => by have := hB2.size; omega))
          have hnil : (ps.length ≤ i ∨ nx = []) → Value.tuple #[.bool false, .int .i64 st, .nilIface] = MatchV c ps := fun h => by
            rw [if_pos h] at hout
            unfold MatchV
            rw [hR, ← hout]
            rfl
          refine ⟨fun hlt_i => ?_, fun hge_i => ⟨hnil (.inl (by omega)), hBy⟩⟩
          refine Exists.elim hT.swap.read fun an hrd => Exists.elim hrd fun cn hrd => ?_
          have cB := hrd.1
          clear hrd
          simp -dsimp only [push_cast, Nat.reduceAdd, Nat.reduceLeDiff, Nat.reduceBEq, decide_true, cB]
          refine ⟨fun h0 => ⟨hnil (.inr (List.eq_nil_of_length_eq_zero (by omega))), hBy⟩, fun h0 => ?_⟩
          have hnx : ¬ (ps.length ≤ i ∨ nx = []) := by
            rintro (h | h)
            · omega
            · subst h; exact h0 rfl
          rw [if_neg hnx] at hout
          refine callK_of (twoClear_c hT (by omega)) ?_
          rintro _ w7 ⟨hT7, hk7⟩
          simp -dsimp only [push_cast, Nat.reduceAdd, Nat.reduceLeDiff, Nat.reduceBEq, decide_true]
          exact ⟨⟨by omega, by omega⟩, ⟨i + 1, st, pB, pA, nx, rfl, rfl, rfl, rfl, by omega, by omega, hout, hT7.swap, hk.trans hk7 (fun _ _ h => h)⟩, by rw [h11]; simp only [intOf]; omega⟩
end Go.Proofs.YtiofleijieepgaaGreatDoor
end
