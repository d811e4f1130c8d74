import Derived.Test.YtieaebjkbhaoaaaGreatDoorVq
set_option linter.unusedSimpArgs false
set_option linter.unusedVariables false
namespace Go.Vc
open Go.RowKit
/-! Regions that draw, whose last operation waits for all others: the class of worlds need not hold behind it. -/
section
variable {P : Program} {ops : Array Oper} {C : World → Prop}

def wpMixGN (P : Program) (ops : Array Oper) (C : World → Prop) (m : Nat) (R : Act → World → Prop) : Nat → Array Bool → Act → World → Prop
  | 0, listed, a, w => (∀ j ∈ Region.ready .any ops listed, j = m) ∧ wpMixN P .any ops (fun _ => True) R 1 listed a w
  | n + 1, listed, a, w => (Region.ready .any ops listed = [] → R a w) ∧ ∀ i ∈ Region.ready .any ops listed, mixOpN P ops C i (wpMixGN P ops C m R n (listed.setIfInBounds i true)) a w

theorem wpAny_of_mixGN {m : Nat} {R : Act → World → Prop} {Q : Exit → Act → World → Prop} (hq : ∀ a w, R a w → Q .normal a w) : ∀ (n : Nat) (listed : Array Bool) (a : Act) (w : World), C w →
    wpMixGN P ops C m R n listed a w → wpAny P .any ops Q (n + 1) listed a w
  | 0, listed, a, w, _, h => wpAny_of_mixN (C := fun _ => True) hq 1 listed a w trivial h.2
  | fuel + 1, listed, a, w, hC, h => ⟨fun h0 => hq _ _ (h.1 h0), fun i hi => by
      have h1 := h.2 i hi
      unfold mixOpN at h1
      unfold wpOp
      split
      · rename_i ho; simp only [ho] at h1; exact wpAny_of_mixGN hq fuel _ _ _ hC h1
      · rename_i o ho
        simp only [ho] at h1
        split
        · rename_i hw
          simp only [hw, if_true] at h1
          refine .inl ?_
          split at h1
          · exact Oper.wp_mono (fun a' w' hh => wpAny_of_mixGN hq fuel _ _ _ hh.1 hh.2) (upon_of_resA h1)
          · obtain ⟨v, hv, hk⟩ := h1
            unfold Oper.wp
            rw [hv w hC]
            exact wpAny_of_mixGN hq fuel _ _ _ hC hk
        · rename_i hw
          simp only [hw] at h1
          exact wpAny_of_mixGN hq fuel _ _ _ hC h1⟩

theorem wpMixG_firstN {m : Nat} {R : Act → World → Prop} {i : Nat} {oi : Oper} (hi : ops[i]? = some oi) (him : i ≠ m) (hm : ((Region.before ops).getD m 0).testBit i = true) (hsel : ∀ (j : Nat) (o : Oper) cs b, ops[j]? = some o → o.op ≠ .select cs b) :
    ∀ (fuel : Nat) (listed : Array Bool) (a : Act) (w : World), C w → Shut ops listed →
      (∀ j oj, ops[j]? = some oj → j ≠ i → listed.getD j true = false → ((Region.before ops).getD j 0).testBit i = false → oi.apart ops oj = true ∧ (chainN P oi && chainN P oj) = false) →
      i ∈ Region.ready .any ops listed → mixOpN P ops C i (wpMixGN P ops C m R fuel (listed.setIfInBounds i true)) a w → wpMixGN P ops C m R (fuel + 1) listed a w := by
  have hun : ∀ listed : Array Bool, i ∈ Region.ready .any ops listed → listed.getD i false = false := fun listed hr => by
    have h0 := (mem_ready.1 hr).1
    rcases Nat.lt_or_ge i listed.size with h' | h'
    · simp [h'] at h0 ⊢; exact h0
    · simp [Array.getElem?_eq_none h']
  intro fuel
  induction fuel with
  | zero =>
    intro listed a w hC hS _ hr H
    refine ⟨fun h => (by rw [h] at hr; cases hr), fun j hj => ?_⟩
    by_cases hji : j = i
    · subst hji; exact H
    · have := ready_mono hj hji
      obtain ⟨_, _, _, hh⟩ := mixOp_someN hC H
      have hjm := hh.1 j this
      subst hjm
      obtain ⟨_, oj, hoj, hall⟩ := mem_ready.1 hj
      have := hS.before j i oj hoj hall hm
      rw [hun listed hr] at this
      cases this
  | succ fuel ih =>
    intro listed a w hC hS hfree hr H
    refine ⟨fun h => (by rw [h] at hr; cases hr), fun j hj => ?_⟩
    by_cases hji : j = i
    · subst hji; exact H
    · have h1 : mixOpN P ops C i (mixOpN P ops C j (wpMixGN P ops C m R fuel ((listed.setIfInBounds i true).setIfInBounds j true))) a w :=
        mixOp_monoN hC (fun a' w' _ hh => hh.2 j (ready_mono hj hji)) H
      obtain ⟨hjun, oj, hoj, hall⟩ := mem_ready.1 hj
      have hiun := hun listed hr
      have hnot : ((Region.before ops).getD j 0).testBit i = false := by
        cases hb : ((Region.before ops).getD j 0).testBit i with
        | false => rfl
        | true => have := hS.before j i oj hoj hall hb; rw [hiun] at this; cases this
      obtain ⟨hap, hch⟩ := hfree j oj hoj hji hjun hnot
      have h2 := mixOp_swapN hi hoj hap hch (fun cs b => hsel i oi cs b hi) (fun cs b => hsel j oj cs b hoj) h1
      refine mixOp_monoN hC (fun a' w' hC' h3 => ih (listed.setIfInBounds j true) a' w' hC' (hS.set hj) ?_ (ready_mono hr (Ne.symm hji)) ?_) h2
      · intro k ok hk hki hun hno
        refine hfree k ok hk hki ?_ hno
        by_cases hjk : j = k
        · subst hjk; exact hjun
        · rw [getD_set_ne true hjk] at hun; exact hun
      · rw [Array.setIfInBounds_comm _ _ hji]
        exact h3

def lastFromN (P : Program) (ops : Array Oper) (bf : Array Nat) (m : Nat) : Nat → Nat → Array Bool → Bool
  | 0, _, listed => (Region.ready .any ops listed).contains m && (Region.ready .any ops listed).all (· == m) && (Region.ready .any ops (listed.setIfInBounds m true)).isEmpty
  | fuel + 1, k, listed => (Region.ready .any ops listed).contains k && mixFreeN P ops bf listed k && (bf.getD m 0).testBit k && lastFromN P ops bf m fuel (k + 1) (listed.setIfInBounds k true)

def lastBN (P : Program) (ops : Array Oper) : Bool := Region.noSelect ops && lastFromN P ops (Region.before ops) (ops.size - 1) (ops.size - 1) 0 (Array.replicate ops.size false)

def wpLexLN (P : Program) (ops : Array Oper) (C : World → Prop) (m : Nat) (R : Act → World → Prop) : List Nat → Act → World → Prop
  | [], a, w => mixOpN P ops (fun _ => True) m R a w
  | i :: r, a, w => mixOpN P ops C i (wpLexLN P ops C m R r) a w

theorem wpMixG_lexN {m : Nat} {R : Act → World → Prop} (hs : Region.noSelect ops = true) : ∀ (n k : Nat) (listed : Array Bool) (a : Act) (w : World), k + n = m → m < ops.size → C w → Shut ops listed →
    lastFromN P ops (Region.before ops) m n k listed = true → wpLexLN P ops C m R (List.range' k n) a w → wpMixGN P ops C m R n listed a w
  | 0, _, listed, a, w, _, _, _, _, hB, h => by
    simp only [lastFromN, Bool.and_eq_true, List.all_eq_true, beq_iff_eq, List.isEmpty_iff] at hB
    obtain ⟨⟨h1, h2⟩, h3⟩ := hB
    refine ⟨h2, ⟨fun h0 => ?_, fun i hi => ?_⟩⟩
    · rw [h0] at h1; simp at h1
    · rw [h2 i hi]
      exact mixOp_monoN trivial (fun a' w' _ hh => ⟨h3, hh⟩) h
  | n + 1, k, listed, a, w, hk, hlt, hC, hS, hB, h => by
    simp only [lastFromN, Bool.and_eq_true] at hB
    obtain ⟨⟨⟨hr, hf⟩, hm⟩, hB'⟩ := hB
    have hlt' : k < ops.size := by omega
    have hr' : k ∈ Region.ready .any ops listed := by simpa using hr
    refine wpMixG_firstN (i := k) (oi := ops[k]) (by simp [hlt']) (by omega) hm (Region.noSelect_spec hs) n listed a w hC hS (mixFree_specN (by simp [hlt']) hf) hr' ?_
    simp only [List.range'_succ, wpLexLN] at h
    exact mixOp_monoN hC (fun a' w' hC' hh => wpMixG_lexN hs n (k + 1) _ a' w' (by omega) hlt hC' (hS.set hr') hB' hh) h
end

section
variable {P : Program}
def vcMixLN (P : Program) (ops : List Oper) (C : World → Prop) (R : Fr → World → Prop) : (l : List Oper) → Fr → World → Ph (ops, C, R, l) → Prop
  | [], _, _, _ => False
  | [o], t, w, _ => match o.guard with
    | none => mixKN P o t w (fun _ => True) (fun v w' => R (put t o.dst v) w') .mk
    | some _ => False
  | o :: o' :: r, t, w, _ => match o.guard with
    | none => mixKN P o t w C (fun v w' => vcMixLN P ops C R (o' :: r) (put t o.dst v) w' .mk) .mk
    | some (j, want) => guardK (slotOf ops j) want t (fun t' => mixKN P o t' w C (fun v w' => vcMixLN P ops C R (o' :: r) (put t' o.dst v) w' .mk) .mk) (fun t' => vcMixLN P ops C R (o' :: r) (put t' o.dst undef) w .mk) .mk

theorem wpLexL_of_vcMixLN {ops : List Oper} {C : World → Prop} {R : Fr → World → Prop} {N : Act → World → Prop} (hn : ∀ t w, R t w → N ⟨t.toArray, []⟩ w) : ∀ (l : List Oper) (k m : Nat) (t : Fr) (w : World), (∀ j, l[j]? = ops[k + j]?) → k + l.length = m + 1 →
    vcMixLN P ops C R l t w .mk → wpLexLN P ops.toArray C m N (List.range' k (l.length - 1)) ⟨t.toArray, []⟩ w
  | [], _, _, _, _, _, _, h => h.elim
  | [o], k, m, t, w, hl, hm, h => by
    have hkm : k = m := by simpa using hm
    subst hkm
    have h0 : ops[k]? = some o := by simpa using (hl 0).symm
    simp only [vcMixLN] at h
    simp only [List.length_cons, List.length_nil, Nat.zero_add, Nat.sub_self, List.range'_zero, wpLexLN]
    split at h
    · rename_i hg
      exact mixOp_of_mixKN h0 (by simp [Region.wanted, hg]) (fun v w' hk => hn _ _ hk) h
    · exact h.elim
  | o :: o' :: r, k, m, t, w, hl, hm, h => by
    have h0 : ops[k]? = some o := by simpa using (hl 0).symm
    have ih := fun t w => wpLexL_of_vcMixLN (C := C) hn (o' :: r) (k + 1) m t w (fun j => by have := hl (j + 1); simpa [Nat.add_assoc, Nat.add_comm 1 j] using this) (by simp only [List.length_cons] at hm ⊢; omega)
    have hlen : (o :: o' :: r).length - 1 = ((o' :: r).length - 1) + 1 := by simp
    rw [hlen, List.range'_succ]
    simp only [wpLexLN]
    simp only [vcMixLN] at h
    split at h
    · rename_i hg
      exact mixOp_of_mixKN h0 (by simp [Region.wanted, hg]) (fun v w' hk => ih _ _ hk) h
    · rename_i j want hg
      rcases guard_cases hg h with ⟨hw, hh⟩ | ⟨hw, hh⟩
      · exact mixOp_of_mixKN h0 hw (fun v w' hk => ih _ _ hk) hh
      · exact mixOp_skipN h0 hw (ih _ _ hh)

/-- A region that draws its order, whose last operation waits for all others. -/
theorem wpL_lastN {id : Nat} {l : List Oper} {t : Fr} {w : World} {Q : EP} {p} (C : World → Prop) (hm : P.follows .mixedOrders = true) (hB : lastBN P l.toArray = true) (hl : l ≠ []) (hC : C w.drew)
    (h : vcMixLN P l C (Q .normal) l t w.drew .mk) : wpL P (.region id l.toArray true) Q t w p := by
  unfold wpL
  simp only [lastBN, Bool.and_eq_true] at hB
  have hpos : 0 < l.length := List.length_pos_iff.2 hl
  have hsz : l.toArray.size = (l.length - 1) + 1 := by simp; omega
  refine wp_region_any hm ?_
  have hG : wpMixGN P l.toArray C (l.length - 1) (fun a w => lift Q .normal a w) (l.length - 1) (Array.replicate l.toArray.size false) ⟨t.toArray, []⟩ w.drew := by
    refine wpMixG_lexN hB.1 _ 0 _ _ _ (by simp) (by simp; omega) hC (fun j o _ hl => by simp [Array.getElem?_replicate] at hl; split at hl <;> simp at hl) (by simpa using hB.2) ?_
    exact wpLexL_of_vcMixLN (P := P) (ops := l) (C := C) (R := Q .normal) (N := fun a w => lift Q .normal a w) (fun t w hk => ⟨rfl, by simpa using hk⟩) l 0 (l.length - 1) t w.drew (fun j => by simp) (by omega) h
  have := wpAny_of_mixGN (C := C) (R := fun a w => lift Q .normal a w) (Q := fun e a w => lift Q e a w) (fun _ _ h => h) _ _ _ _ hC hG
  rw [← hsz] at this
  exact this

variable {t : Fr} {w : World} {C : World → Prop} {K : VK} {R : Fr → World → Prop}
theorem vcMixL_oneN (ops) (d op ty pos af) (p) : vcMixLN P ops C R [⟨d, op, ty, pos, af, none⟩] t w p = mixKN P ⟨d, op, ty, pos, af, none⟩ t w (fun _ => True) (fun v w' => R (put t d v) w') .mk := (rfl)
theorem vcMixL_plainN (ops) (d op ty pos af o' r) (p) : vcMixLN P ops C R (⟨d, op, ty, pos, af, none⟩ :: o' :: r) t w p = mixKN P ⟨d, op, ty, pos, af, none⟩ t w C (fun v w' => vcMixLN P ops C R (o' :: r) (put t d v) w' .mk) .mk := (rfl)
theorem vcMixL_guardN (ops) (d op ty pos af j want o' r) (p) : vcMixLN P ops C R (⟨d, op, ty, pos, af, some (j, want)⟩ :: o' :: r) t w p =
    guardK (slotOf ops j) want t (fun t' => mixKN P ⟨d, op, ty, pos, af, some (j, want)⟩ t' w C (fun v w' => vcMixLN P ops C R (o' :: r) (put t' d v) w' .mk) .mk) (fun t' => vcMixLN P ops C R (o' :: r) (put t' d undef) w .mk) .mk := (rfl)
end
attribute [push_cast] vcMixL_oneN vcMixL_plainN vcMixL_guardN
attribute [irreducible] vcMixLN
end Go.Vc
