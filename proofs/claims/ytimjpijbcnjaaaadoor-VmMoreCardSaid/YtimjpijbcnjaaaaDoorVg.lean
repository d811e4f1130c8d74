import Derived.Test.YtimjpijbcnjaaaaDoorVf
set_option linter.unusedSimpArgs false
set_option linter.unusedVariables false
namespace Go.Vc
open Go.RowKit

/-! Regions that draw, where what makes memory may change places: every order is walked. -/
inductive Ord where
  | done
  | one (k : Nat) (r : Ord)
  | two (k : Nat) (r : Ord) (k' : Nat) (r' : Ord)

def ordB (P : Program) (ops : Array Oper) (bf : Array Nat) : Nat → Ord → Array Bool → Bool
  | _, .done, listed => (Region.ready .any ops listed).isEmpty
  | n + 1, .one k r, listed => (Region.ready .any ops listed).contains k && mixFree P ops bf listed k && ordB P ops bf n r (listed.setIfInBounds k true)
  | n + 1, .two k r k' r', listed => (Region.ready .any ops listed).contains k && (Region.ready .any ops listed).all (fun i => i == k || i == k') && ordB P ops bf n r (listed.setIfInBounds k true) && ordB P ops bf n r' (listed.setIfInBounds k' true)
  | _, _, _ => false

def mixT (P : Program) (ops : Array Oper) (o : Ord) : Bool := Region.noSelect ops && ordB P ops (Region.before ops) ops.size o (Array.replicate ops.size false)

/-- The orders that are to be walked. -/
def ordOf (P : Program) (ops : Array Oper) : Nat → Array Bool → Ord
  | 0, _ => .done
  | n + 1, listed =>
    let rd := Region.ready .any ops listed
    match rd.find? (fun k => mixFree P ops (Region.before ops) listed k) with
    | some k => .one k (ordOf P ops n (listed.setIfInBounds k true))
    | none => match rd with
      | [k, k'] => .two k (ordOf P ops n (listed.setIfInBounds k true)) k' (ordOf P ops n (listed.setIfInBounds k' true))
      | _ => .done

section
variable {P : Program} {ops : Array Oper} {C : World → Prop}
def wpTree (P : Program) (ops : Array Oper) (C : World → Prop) (R : Act → World → Prop) : Ord → Act → World → Prop
  | .done, a, w => R a w
  | .one k r, a, w => mixOp P ops C k (wpTree P ops C R r) a w
  | .two k r k' r', a, w => mixOp P ops C k (wpTree P ops C R r) a w ∧ mixOp P ops C k' (wpTree P ops C R r') a w

theorem wpMix_tree {R : Act → World → Prop} (hs : Region.noSelect ops = true) : ∀ (o : Ord) (n : Nat) (listed : Array Bool) (a : Act) (w : World), C w → Shut ops listed →
    ordB P ops (Region.before ops) n o listed = true → wpTree P ops C R o a w → wpMix P .any ops C R n listed a w
  | .done, 0, listed, a, w, _, _, hB, h => ⟨by simpa [ordB] using hB, h⟩
  | .done, n + 1, listed, a, w, _, _, hB, h => ⟨fun _ => h, fun i hi => by
      have : Region.ready .any ops listed = [] := by simpa [ordB] using hB
      rw [this] at hi; cases hi⟩
  | .one k r, 0, _, _, _, _, _, hB, _ => by simp [ordB] at hB
  | .two .., 0, _, _, _, _, _, hB, _ => by simp [ordB] at hB
  | .one k r, n + 1, listed, a, w, hC, hS, hB, h => by
    simp only [ordB, Bool.and_eq_true] at hB
    obtain ⟨⟨hr, hf⟩, hB'⟩ := hB
    have hr' : k ∈ Region.ready .any ops listed := by simpa using hr
    obtain ⟨_, ok, hok, _⟩ := mem_ready.1 hr'
    refine wpMix_first (i := k) (oi := ok) hok (Region.noSelect_spec hs) n listed a w hC hS (mixFree_spec hok hf) hr' ?_
    exact mixOp_mono hC (fun a' w' hC' hh => wpMix_tree hs r n _ a' w' hC' (hS.set hr') hB' hh) h
  | .two k r k' r', n + 1, listed, a, w, hC, hS, hB, h => by
    simp only [ordB, Bool.and_eq_true, List.all_eq_true, Bool.or_eq_true, beq_iff_eq] at hB
    obtain ⟨⟨⟨hr, hall⟩, hB1⟩, hB2⟩ := hB
    have hr' : k ∈ Region.ready .any ops listed := by simpa using hr
    refine ⟨fun h0 => (by rw [h0] at hr'; cases hr'), fun i hi => ?_⟩
    rcases hall i hi with rfl | rfl
    · exact mixOp_mono hC (fun a' w' hC' hh => wpMix_tree hs r n _ a' w' hC' (hS.set hi) hB1 hh) h.1
    · exact mixOp_mono hC (fun a' w' hC' hh => wpMix_tree hs r' n _ a' w' hC' (hS.set hi) hB2 hh) h.2
end

section
variable {P : Program}
/-- One step of such an order. -/
def stepK (P : Program) (ops : List Oper) (C : World → Prop) (o : Option Oper) (K : Fr → World → Prop) (t : Fr) (w : World) (_ : Ph (ops, C, K)) : Prop := match o with
  | none => False
  | some o => match o.guard with
    | none => mixK P o t w C (fun v w' => K (put t o.dst v) w') .mk
    | some (j, want) => guardK (slotOf ops j) want t (fun t' => mixK P o t' w C (fun v w' => K (put t' o.dst v) w') .mk) (fun t' => K (put t' o.dst undef) w) .mk

def vcTree (P : Program) (ops : List Oper) (C : World → Prop) (R : Fr → World → Prop) : (o : Ord) → Fr → World → Ph (ops, C, R) → Prop
  | .done, t, w, _ => R t w
  | .one k r, t, w, _ => stepK P ops C ops[k]? (fun t w => vcTree P ops C R r t w .mk) t w .mk
  | .two k r k' r', t, w, _ => stepK P ops C ops[k]? (fun t w => vcTree P ops C R r t w .mk) t w .mk ∧ stepK P ops C ops[k']? (fun t w => vcTree P ops C R r' t w .mk) t w .mk

theorem mixOp_of_stepK {ops : List Oper} {C : World → Prop} {K : Fr → World → Prop} {N : Act → World → Prop} (hn : ∀ t w, K t w → N ⟨t.toArray, []⟩ w) {k : Nat} {t : Fr} {w : World} (h : stepK P ops C ops[k]? K t w .mk) : mixOp P ops.toArray C k N ⟨t.toArray, []⟩ w := by
  unfold stepK at h
  split at h
  · exact h.elim
  · rename_i o h0
    split at h
    · rename_i hg
      exact mixOp_of_mixK h0 (by simp [Region.wanted, hg]) (fun v w' hk => hn _ _ hk) h
    · rename_i j want hg
      rcases guard_cases hg h with ⟨hw, hh⟩ | ⟨hw, hh⟩
      · exact mixOp_of_mixK h0 hw (fun v w' hk => hn _ _ hk) hh
      · exact mixOp_skip h0 hw (hn _ _ hh)

theorem wpTree_of_vcTree {ops : List Oper} {C : World → Prop} {R : Fr → World → Prop} {N : Act → World → Prop} (hn : ∀ t w, R t w → N ⟨t.toArray, []⟩ w) : ∀ (o : Ord) (t : Fr) (w : World),
    vcTree P ops C R o t w .mk → wpTree P ops.toArray C N o ⟨t.toArray, []⟩ w
  | .done, t, w, h => hn t w h
  | .one k r, t, w, h => mixOp_of_stepK (fun t w => wpTree_of_vcTree hn r t w) h
  | .two k r k' r', t, w, h => ⟨mixOp_of_stepK (fun t w => wpTree_of_vcTree hn r t w) h.1, mixOp_of_stepK (fun t w => wpTree_of_vcTree hn r' t w) h.2⟩

/-- A region that draws its order, walked in the orders that matter. -/
theorem wpL_tree {id : Nat} {l : List Oper} {t : Fr} {w : World} {Q : EP} {p} (o : Ord) (C : World → Prop) (hm : P.follows .mixedOrders = true) (hB : mixT P l.toArray o = true) (hC : C w.drew)
    (h : vcTree P l C (Q .normal) o t w.drew .mk) : wpL P (.region id l.toArray true) Q t w p := by
  unfold wpL
  simp only [mixT, Bool.and_eq_true] at hB
  refine wp_region_any hm (wpAny_of_mix (C := C) (R := fun a w => lift Q .normal a w) (fun _ _ h => h) _ _ _ _ hC ?_)
  refine wpMix_tree hB.1 o _ _ _ _ hC (fun j o _ hl => by simp [Array.getElem?_replicate] at hl; split at hl <;> simp at hl) hB.2 ?_
  exact wpTree_of_vcTree (R := Q .normal) (fun t w hk => ⟨rfl, by simpa using hk⟩) o t w.drew h

/-- An element of a slice whose address is told beside. -/
theorem indexAddrK_at {a : Option Addr} {ad : Addr} (h : a = some ad) : ∀ (e size arr n c k i) (L : VP) (p), indexAddrK (some (e, size)) arr (.slice a n c) (.int k i) L p = ((0 ≤ i ∧ i < n) ∧ L (.pointer (some (ad.add (i.toNat * size))))) := by
  subst h; intro e size arr n c k i L p; cases arr <;> rfl

/-- What comes behind a piece of code is walked once. -/
theorem wpL_cut {c : Code} {t : Fr} {w : World} {Q : EP} {p} (M : List Nat) (J : (Nat → Value) → World → Prop) (h1 : wpL P c (fun e t' w' => e = .normal ∧ t' = ov t M (at_ t') ∧ J (at_ t') w') t w .mk)
    (h2 : ∀ z w', J z w' → Q .normal (ov t M z) w') : wpL P c Q t w p := by
  refine wpL_mono ?_ h1
  rintro e t' w' ⟨rfl, ht, hJ⟩
  rw [ht]
  exact h2 _ _ hJ

variable {t : Fr} {w : World} {C : World → Prop} {R K : Fr → World → Prop}
theorem vcTree_done (ops) (p) : vcTree P ops C R .done t w p = R t w := (rfl)
theorem vcTree_one (ops k r) (p) : vcTree P ops C R (.one k r) t w p = stepK P ops C ops[k]? (fun t w => vcTree P ops C R r t w .mk) t w .mk := (rfl)
theorem vcTree_two (ops k r k' r') (p) : vcTree P ops C R (.two k r k' r') t w p = (stepK P ops C ops[k]? (fun t w => vcTree P ops C R r t w .mk) t w .mk ∧ stepK P ops C ops[k']? (fun t w => vcTree P ops C R r' t w .mk) t w .mk) := (rfl)
theorem stepK_plain (ops) (d op ty pos af) (p) : stepK P ops C (some ⟨d, op, ty, pos, af, none⟩) K t w p = mixK P ⟨d, op, ty, pos, af, none⟩ t w C (fun v w' => K (put t d v) w') .mk := (rfl)
theorem stepK_guard (ops) (d op ty pos af j want) (p) : stepK P ops C (some ⟨d, op, ty, pos, af, some (j, want)⟩) K t w p =
    guardK (slotOf ops j) want t (fun t' => mixK P ⟨d, op, ty, pos, af, some (j, want)⟩ t' w C (fun v w' => K (put t' d v) w') .mk) (fun t' => K (put t' d undef) w) .mk := (rfl)
theorem opr_zero (x : Oper) (l : List Oper) : (x :: l)[0]? = some x := (rfl)
theorem opr_succ (x : Oper) (l : List Oper) (n : Nat) : (x :: l)[n + 1]? = l[n]? := (rfl)
end
attribute [push_cast] vcTree_done vcTree_one vcTree_two stepK_plain stepK_guard opr_zero opr_succ
attribute [irreducible] vcTree stepK
end Go.Vc
