import Derived.Test.YtieaebjkbhaoaaaGreatDoorPrul
set_option linter.unusedSimpArgs false
set_option linter.unusedVariables false
namespace Cae

/-! What is read hangs on what is taken alone, and on what kind and text the next token has. -/
def key (t : Tok) : Nat × List UInt8 := (t.kind, t.text)
def EqT (a b : List Tok) : Prop := a.map key = b.map key
def EqH (a b : List Tok) : Prop := key (hd a) = key (hd b)
def NoEnd (a : List Tok) : Prop := ∀ t ∈ a, t.kind ≠ 5
theorem EqT.refl (a : List Tok) : EqT a a := rfl
theorem EqT.len {a b : List Tok} (h : EqT a b) : a.length = b.length := by simpa [EqT] using congrArg List.length h
theorem EqT.split {a b c : List Tok} (h : EqT (a ++ b) c) : ∃ x y, c = x ++ y ∧ EqT a x ∧ EqT b y := by
  have h' : a.map key ++ b.map key = c.map key := by simpa [EqT] using h
  refine ⟨c.take a.length, c.drop a.length, (List.take_append_drop _ _).symm, ?_, ?_⟩
  · have := congrArg (List.take a.length) h'
    simpa [EqT, List.take_append, List.map_take] using this
  · have := congrArg (List.drop a.length) h'
    simpa [EqT, List.drop_append, List.map_drop] using this
theorem EqT.app {a b c d : List Tok} (h : EqT a b) (h' : EqT c d) : EqT (a ++ c) (b ++ d) := by
  unfold EqT at *; rw [List.map_append, List.map_append, h, h']
theorem EqT.eqH {a b : List Tok} (h : EqT a b) : EqH a b := by
  cases a with
  | nil => cases b with
    | nil => rfl
    | cons y b => simp [EqT] at h
  | cons x a => cases b with
    | nil => simp [EqT] at h
    | cons y b => simp only [EqT, List.map_cons, List.cons.injEq] at h; exact h.1
theorem EqH.app {a b c d : List Tok} (h : EqT a b) (h' : EqH c d) : EqH (a ++ c) (b ++ d) := by
  cases a with
  | nil => cases b with
    | nil => exact h'
    | cons y b => simp [EqT] at h
  | cons x a => cases b with
    | nil => simp [EqT] at h
    | cons y b => simp only [EqT, List.map_cons, List.cons.injEq] at h; exact h.1
theorem EqH.apps {a b : List Tok} (h : EqT a b) (hne : a ≠ []) (c d : List Tok) : EqH (a ++ c) (b ++ d) := by
  cases a with
  | nil => exact absurd rfl hne
  | cons x a => cases b with
    | nil => simp [EqT] at h
    | cons y b => simp only [EqT, List.map_cons, List.cons.injEq] at h; exact h.1

def Lo {α β : Type} (R : α → β → Prop) (p : Pa α) (p' : Pa β) : Prop := ∀ l x l', p l = .ok (x, l') → ∃ pre, NoEnd pre ∧ l = pre ++ l' ∧ ∀ pre2 l2, EqT pre pre2 → EqH l' l2 → ∃ x2, R x x2 ∧ p' (pre2 ++ l2) = .ok (x2, l2)
def LoS {α β : Type} (R : α → β → Prop) (p : Pa α) (p' : Pa β) : Prop := ∀ l x l', p l = .ok (x, l') → ∃ pre, pre ≠ [] ∧ NoEnd pre ∧ l = pre ++ l' ∧ ∀ pre2 l2, EqT pre pre2 → ∃ x2, R x x2 ∧ p' (pre2 ++ l2) = .ok (x2, l2)
section
variable {α β γ δ : Type} {R : α → β → Prop} {S : γ → δ → Prop} {p : Pa α} {p' : Pa β} {q : α → Pa γ} {q' : β → Pa δ}
theorem LoS.lo (h : LoS R p p') : Lo R p p' := fun l x l' e => by
  obtain ⟨pre, _, h1, h2, h3⟩ := h l x l' e
  exact ⟨pre, h1, h2, fun a b ha _ => h3 a b ha⟩
theorem Lo.pr {x : α} {y : β} (h : R x y) : Lo R (pr x) (pr y) := fun l x' l' e => by
  cases e
  refine ⟨[], by simp [NoEnd], rfl, fun pre2 l2 hp _ => ?_⟩
  have : pre2 = [] := List.length_eq_zero_iff.1 hp.len.symm
  subst this
  exact ⟨y, h, rfl⟩
theorem Lo.fail {e : Nat} : Lo R (pfail e) p' := fun l x l' h => by cases h
theorem LoS.fail {e : Nat} : LoS R (pfail e) p' := fun l x l' h => by cases h
theorem pb_ok {p : Pa α} {q : α → Pa γ} {l l' : List Tok} {y : γ} (h : pb p q l = .ok (y, l')) : ∃ x l1, p l = .ok (x, l1) ∧ q x l1 = .ok (y, l') := by
  unfold pb at h
  split at h
  · cases h
  · rename_i x l1 e; exact ⟨x, l1, e, h⟩
theorem pb_of {p : Pa α} {q : α → Pa γ} {l l1 : List Tok} {x : α} (h : p l = .ok (x, l1)) : pb p q l = q x l1 := by
  unfold pb; rw [h]
theorem Lo.pb (h : Lo R p p') (k : ∀ x y, R x y → Lo S (q x) (q' y)) : Lo S (pb p q) (pb p' q') := fun l z l' e => by
  obtain ⟨x, l1, e1, e2⟩ := pb_ok e
  obtain ⟨a, na, rfl, ha⟩ := h l x l1 e1
  obtain ⟨y0, hy0, _⟩ := ha a l1 (EqT.refl _) rfl
  obtain ⟨b, nb, rfl, _⟩ := k x y0 hy0 _ z l' e2
  refine ⟨a ++ b, fun t ht => (List.mem_append.1 ht).elim (na t) (nb t), by rw [List.append_assoc], fun pre2 l2 hp hh => ?_⟩
  obtain ⟨u, v, rfl, hu, hv⟩ := hp.split
  rw [List.append_assoc]
  obtain ⟨y, hy, ey⟩ := ha u (v ++ l2) hu (EqH.app hv hh)
  obtain ⟨b', nb', eb, hb⟩ := k x y hy _ z l' e2
  obtain rfl := List.append_cancel_right eb
  obtain ⟨z2, hz, ez⟩ := hb v l2 hv hh
  exact ⟨z2, hz, by rw [pb_of ey]; exact ez⟩
theorem LoS.pb (h : Lo R p p') (k : ∀ x y, R x y → LoS S (q x) (q' y)) : LoS S (pb p q) (pb p' q') := fun l z l' e => by
  obtain ⟨x, l1, e1, e2⟩ := pb_ok e
  obtain ⟨a, na, rfl, ha⟩ := h l x l1 e1
  obtain ⟨y0, hy0, _⟩ := ha a l1 (EqT.refl _) rfl
  obtain ⟨b, bne, nb, rfl, _⟩ := k x y0 hy0 _ z l' e2
  refine ⟨a ++ b, by simp [bne], fun t ht => (List.mem_append.1 ht).elim (na t) (nb t), by rw [List.append_assoc], fun pre2 l2 hp => ?_⟩
  obtain ⟨u, v, rfl, hu, hv⟩ := hp.split
  rw [List.append_assoc]
  obtain ⟨y, hy, ey⟩ := ha u (v ++ l2) hu (EqH.apps hv bne _ _)
  obtain ⟨b', _, nb', eb, hb⟩ := k x y hy _ z l' e2
  obtain rfl := List.append_cancel_right eb
  obtain ⟨z2, hz, ez⟩ := hb v l2 hv
  exact ⟨z2, hz, by rw [pb_of ey]; exact ez⟩
theorem LoS.map {f : α → γ} {f' : β → δ} (h : LoS R p p') (k : ∀ x y, R x y → S (f x) (f' y)) : LoS S (Cae.pb p fun x => Cae.pr (f x)) (Cae.pb p' fun y => Cae.pr (f' y)) := fun l z l' e => by
  obtain ⟨x, l1, e1, e2⟩ := pb_ok e
  cases e2
  obtain ⟨a, ane, na, rfl, ha⟩ := h l x l' e1
  refine ⟨a, ane, na, rfl, fun pre2 l2 hp => ?_⟩
  obtain ⟨y, hy, ey⟩ := ha pre2 l2 hp
  exact ⟨f' y, k x y hy, by rw [pb_of ey]; rfl⟩
theorem Lo.pif {c c' : List Tok → Bool} {p1 p2 : Pa α} {p1' p2' : Pa β} (hc : ∀ a b, EqH a b → c a = c' b) (h1 : Lo R p1 p1') (h2 : Lo R p2 p2') : Lo R (pif c p1 p2) (pif c' p1' p2') := fun l x l' e => by
  unfold Cae.pif at e
  cases hcl : c l with
  | true =>
    rw [hcl] at e
    obtain ⟨a, na, rfl, ha⟩ := h1 l x l' e
    refine ⟨a, na, rfl, fun pre2 l2 hp hh => ?_⟩
    obtain ⟨y, hy, ey⟩ := ha pre2 l2 hp hh
    refine ⟨y, hy, ?_⟩
    unfold Cae.pif
    rw [← hc _ _ (EqH.app hp hh), hcl]
    exact ey
  | false =>
    rw [hcl] at e
    obtain ⟨a, na, rfl, ha⟩ := h2 l x l' e
    refine ⟨a, na, rfl, fun pre2 l2 hp hh => ?_⟩
    obtain ⟨y, hy, ey⟩ := ha pre2 l2 hp hh
    refine ⟨y, hy, ?_⟩
    unfold Cae.pif
    rw [← hc _ _ (EqH.app hp hh), hcl]
    exact ey
theorem LoS.pif {c c' : List Tok → Bool} {p1 p2 : Pa α} {p1' p2' : Pa β} (hc : ∀ a b, EqH a b → c a = c' b) (h1 : LoS R p1 p1') (h2 : LoS R p2 p2') : LoS R (pif c p1 p2) (pif c' p1' p2') := fun l x l' e => by
  unfold Cae.pif at e
  cases hcl : c l with
  | true =>
    rw [hcl] at e
    obtain ⟨a, ane, na, rfl, ha⟩ := h1 l x l' e
    refine ⟨a, ane, na, rfl, fun pre2 l2 hp => ?_⟩
    obtain ⟨y, hy, ey⟩ := ha pre2 l2 hp
    refine ⟨y, hy, ?_⟩
    unfold Cae.pif
    rw [← hc _ _ (EqH.apps hp ane _ _), hcl]
    exact ey
  | false =>
    rw [hcl] at e
    obtain ⟨a, ane, na, rfl, ha⟩ := h2 l x l' e
    refine ⟨a, ane, na, rfl, fun pre2 l2 hp => ?_⟩
    obtain ⟨y, hy, ey⟩ := ha pre2 l2 hp
    refine ⟨y, hy, ?_⟩
    unfold Cae.pif
    rw [← hc _ _ (EqH.apps hp ane _ _), hcl]
    exact ey
theorem Lo.peek : Lo (fun t u => key t = key u) peek peek := fun l x l' e => by
  cases e
  refine ⟨[], by simp [NoEnd], rfl, fun pre2 l2 hp hh => ?_⟩
  have : pre2 = [] := List.length_eq_zero_iff.1 hp.len.symm
  subst this
  exact ⟨hd l2, hh, rfl⟩
theorem LoS.pop : LoS (fun _ _ => True) popP popP := fun l x l' e => by
  cases l with
  | nil => cases e
  | cons t r =>
    by_cases h5 : t.kind = 5
    · simp [popP, h5] at e
    · have e' : popP (t :: r) = .ok ((), r) := by simp [popP, h5]
      rw [e'] at e
      cases e
      refine ⟨[t], by simp, by simpa [NoEnd] using h5, rfl, fun pre2 l2 hp => ⟨(), trivial, ?_⟩⟩
      cases pre2 with
      | nil => simp [EqT] at hp
      | cons u v =>
        have hv : v = [] := by
          have := hp.len
          simpa using this.symm
        subst hv
        have hk : t.kind = u.kind := by
          simp only [EqT, List.map_cons, List.map_nil, List.cons.injEq, key, Prod.mk.injEq] at hp
          exact hp.1.1
        show popP (u :: l2) = _
        have h5' : ¬ u.kind = 5 := by rw [← hk]; exact h5
        simp [popP, h5']
end
/-! conditions -/
theorem EqH.kind {a b : List Tok} (h : EqH a b) : (hd a).kind = (hd b).kind := (Prod.mk.inj h).1
theorem EqH.text {a b : List Tok} (h : EqH a b) : (hd a).text = (hd b).text := (Prod.mk.inj h).2
theorem c_kind (k : Nat) (a b : List Tok) (h : EqH a b) : isKind k a = isKind k b := by unfold isKind; rw [h.kind]
theorem c_see (s : List UInt8) (a b : List Tok) (h : EqH a b) : seeP s a = seeP s b := by unfold seeP; rw [h.kind, h.text]
theorem c_named (a b : List Tok) (h : EqH a b) : namedP a = namedP b := by unfold namedP; rw [h.kind, h.text]
theorem c_long (a b : List Tok) (h : EqH a b) : longP a = longP b := by unfold longP; rw [h.text]
theorem c_start (a b : List Tok) (h : EqH a b) : startP a = startP b := by unfold startP; rw [c_kind 3 a b h, c_named a b h, c_see _ a b h, c_see _ a b h, c_see _ a b h]
theorem c_unit (a b : List Tok) (h : EqH a b) : unitStart a = unitStart b := by unfold unitStart; rw [c_kind 3 a b h, c_named a b h]
theorem c_rule (a b : List Tok) (h : EqH a b) : ruleStart a = ruleStart b := by unfold ruleStart; rw [c_see _ a b h, c_see _ a b h]

/-! what is written is alike -/
def KE (k k2 : KindP) : Prop := ∀ a, kindText k a = kindText k2 a
def PE (x x2 : PatP) : Prop := ∀ n, patText x n = patText x2 n
inductive All2 {α β : Type} (R : α → β → Prop) : List α → List β → Prop
  | nil : All2 R [] []
  | cons {x y l m} : R x y → All2 R l m → All2 R (x :: l) (y :: m)
theorem All2.snoc {α β : Type} {R : α → β → Prop} {l : List α} {m : List β} {x : α} {y : β} (h : All2 R l m) (hr : R x y) : All2 R (l ++ [x]) (m ++ [y]) := by
  induction h with
  | nil => exact .cons hr .nil
  | cons h1 _ ih => exact .cons h1 ih
theorem All2.app {α β : Type} {R : α → β → Prop} {l l' : List α} {m m' : List β} (h : All2 R l m) (h' : All2 R l' m') : All2 R (l ++ l') (m ++ m') := by
  induction h with
  | nil => exact h'
  | cons h1 _ ih => exact .cons h1 ih
theorem All2.len {α β : Type} {R : α → β → Prop} {l : List α} {m : List β} (h : All2 R l m) : l.length = m.length := by
  induction h with
  | nil => rfl
  | cons _ _ ih => simp [ih]
theorem KE.not {p p2 : Nat} {k k2 : KindP} (h : KE k k2) : KE (.not p k) (.not p2 k2) := fun a => by simp only [kindText]; rw [h]
theorem KE.bin {c p p2 : Nat} {k k2 r r2 : KindP} (h : KE k k2) (h' : KE r r2) : KE (.bin c p k r) (.bin c p2 k2 r2) := fun a => by simp only [kindText]; rw [h, h']
theorem pts_eq {l m : List PatP} (h : All2 PE l m) (n : Nat) : patTexts l n = patTexts m n := by
  induction h with
  | nil => rfl
  | cons h1 _ ih => simp only [patTexts]; rw [h1, ih]
theorem PE.cat {l m : List PatP} (h : All2 PE l m) : PE (.cat l) (.cat m) := fun n => by simp only [patText]; rw [pts_eq h]
theorem PE.alt {l m : List PatP} (h : All2 PE l m) : PE (.alt l) (.alt m) := fun n => by simp only [patText]; rw [pts_eq h]
theorem PE.many {x x2 : PatP} {lo hi : Int} (h : PE x x2) : PE (.many x lo hi) (.many x2 lo hi) := fun n => by simp only [patText]; rw [h]
theorem PE.one {k k2 : KindP} (h : KE k k2) : PE (.one k) (.one k2) := fun n => by simp only [patText]; rw [h]
theorem PE.row {l m : List PatP} (h : All2 PE l m) : PE (rowOf l) (rowOf m) := by
  cases h with
  | nil => exact PE.cat .nil
  | cons h1 h2 => cases h2 with
    | nil => exact h1
    | cons h3 h4 => exact PE.cat (.cons h1 (.cons h3 h4))
theorem PE.altOf {l m : List PatP} (h : All2 PE l m) : PE (altOf l) (altOf m) := by
  cases h with
  | nil => exact PE.alt .nil
  | cons h1 h2 => cases h2 with
    | nil => exact h1
    | cons h3 h4 => exact PE.alt (.cons h1 (.cons h3 h4))
def TT {α β : Type} : α → β → Prop := fun _ _ => True
theorem lo_pop : LoS TT popP popP := LoS.pop
theorem lo_must (s : List UInt8) : LoS TT (mustP s) (mustP s) := LoS.pif (c_see s) lo_pop LoS.fail
theorem lo_name : LoS Eq nameP nameP := LoS.pif c_named (LoS.pif c_long LoS.fail (LoS.pb Lo.peek fun t u h => LoS.map lo_pop fun _ _ _ => (Prod.mk.inj h).2)) LoS.fail
theorem lo_bin : Lo Eq binP binP := Lo.pif (c_see _) (LoS.map lo_pop fun _ _ _ => rfl).lo (Lo.pif (c_see _) (LoS.map lo_pop fun _ _ _ => rfl).lo (Lo.pif (c_see _) (LoS.map lo_pop fun _ _ _ => rfl).lo (Lo.pr rfl)))
theorem lo_kindLoop {one one2 : Pa KindP} (h : Lo KE one one2) (a b : Nat) : ∀ (n : Nat) (k k2 : KindP), KE k k2 → Lo KE (kindLoop one a n k) (kindLoop one2 b n k2)
  | 0, _, _, _ => Lo.fail
  | n + 1, k, k2, hk => Lo.pb lo_bin fun c c2 e => by
      subst e
      by_cases h0 : c = 0
      · rw [if_pos h0, if_pos h0]; exact Lo.pr hk
      · rw [if_neg h0, if_neg h0]
        exact Lo.pb h fun r r2 hr => lo_kindLoop h a b n _ _ (KE.bin hk hr)
theorem lo_kindW {one one2 : Pa KindP} (h : Lo KE one one2) : Lo KE (kindW one) (kindW one2) := Lo.pb Lo.peek fun _ _ _ => Lo.pb h fun k k2 hk => lo_kindLoop h _ _ _ _ _ hk
theorem lo_lit : LoS KE litP litP := LoS.pb Lo.peek fun t u h => by
  have ht : t.text = u.text := (Prod.mk.inj h).2
  rw [ht]
  cases setP u.text with
  | none => exact LoS.fail
  | some s => exact LoS.map lo_pop fun _ _ _ a => rfl
theorem lo_one : ∀ d, Lo KE (oneP d) (oneP d)
  | 0 => Lo.fail
  | d + 1 => Lo.pif (c_kind 3) lo_lit.lo (Lo.pif (c_see _) (Lo.pb Lo.peek fun _ _ _ => Lo.pb lo_pop.lo fun _ _ _ => Lo.pb (lo_one d) fun k k2 h => Lo.pr (KE.not h))
      (Lo.pif (c_see _) (Lo.pb lo_pop.lo fun _ _ _ => Lo.pb (lo_kindW (lo_one d)) fun k k2 h => (LoS.map (lo_must _) fun _ _ _ => h).lo)
        (Lo.pb Lo.peek fun _ _ _ => (LoS.map lo_name fun n n2 e a => by simp only [kindText]; exact e).lo)))
theorem lo_times : LoS Eq timesP timesP := LoS.pif (c_kind 2) (LoS.pb Lo.peek fun t u h => by
  have ht : t.text = u.text := (Prod.mk.inj h).2
  rw [ht]
  by_cases h0 : 12 < decV u.text
  · rw [if_pos h0]; exact LoS.fail
  · rw [if_neg h0]; exact LoS.map lo_pop fun _ _ _ => rfl) LoS.fail
theorem lo_braces : Lo Eq bracesP bracesP := Lo.pb lo_times.lo fun lo lo2 e => by
  subst e
  refine Lo.pif (c_see _) (Lo.pb lo_pop.lo fun _ _ _ => Lo.pif (c_kind 2) (Lo.pb lo_times.lo fun hi hi2 e => ?_) (LoS.map (lo_must _) fun _ _ _ => rfl).lo) (LoS.map (lo_must _) fun _ _ _ => rfl).lo
  subst e
  by_cases h0 : hi < lo
  · rw [if_pos h0]; exact Lo.fail
  · rw [if_neg h0]; exact (LoS.map (lo_must _) fun _ _ _ => rfl).lo
theorem lo_suffix : Lo Eq suffixP suffixP := Lo.pif (c_see _) (LoS.map lo_pop fun _ _ _ => rfl).lo (Lo.pif (c_see _) (LoS.map lo_pop fun _ _ _ => rfl).lo (Lo.pif (c_see _) (LoS.map lo_pop fun _ _ _ => rfl).lo
  (Lo.pif (c_see _) (Lo.pb lo_pop.lo fun _ _ _ => Lo.pb lo_braces fun r r2 e => Lo.pr (by rw [e])) (Lo.pr rfl))))
theorem lo_againLoop (d : Nat) : ∀ (n c : Nat) (x x2 : PatP), PE x x2 → Lo PE (againLoop d n c x) (againLoop d n c x2)
  | 0, _, _, _, _ => Lo.fail
  | n + 1, c, x, x2, h => Lo.pb lo_suffix fun r r2 e => by
      subst e
      cases r with
      | none => exact Lo.pr h
      | some q =>
        show Lo PE (if d ≤ c + 1 then _ else _) (if d ≤ c + 1 then _ else _)
        by_cases h0 : d ≤ c + 1
        · rw [if_pos h0, if_pos h0]; exact Lo.fail
        · rw [if_neg h0, if_neg h0]; exact lo_againLoop d n (c + 1) _ _ (PE.many h)
theorem lo_againW {d : Nat} {unit unit2 : Pa PatP} (h : Lo PE unit unit2) : Lo PE (againW d unit) (againW d unit2) := Lo.pb h fun x x2 hx => lo_againLoop d _ _ _ _ hx
theorem lo_rowLoop {again again2 : Pa PatP} (h : Lo PE again again2) : ∀ (n : Nat) (a b : List PatP), All2 PE a b → Lo (All2 PE) (rowLoop again n a) (rowLoop again2 n b)
  | 0, _, _, _ => Lo.fail
  | n + 1, a, b, hab => Lo.pif c_start (Lo.pb h fun x x2 hx => lo_rowLoop h n _ _ (hab.snoc hx)) (Lo.pr hab)
theorem lo_rowW {again again2 : Pa PatP} (h : Lo PE again again2) : Lo PE (rowW again) (rowW again2) := Lo.pb (lo_rowLoop h _ _ _ .nil) fun _ _ hx => Lo.pr (PE.row hx)
theorem lo_altLoop {row row2 : Pa PatP} (h : Lo PE row row2) : ∀ (n : Nat) (a b : List PatP), All2 PE a b → Lo (All2 PE) (altLoop row n a) (altLoop row2 n b)
  | 0, _, _, _ => Lo.fail
  | n + 1, a, b, hab => Lo.pif (c_see _) (Lo.pb lo_pop.lo fun _ _ _ => Lo.pb h fun x x2 hx => lo_altLoop h n _ _ (hab.snoc hx)) (Lo.pr hab)
theorem lo_altW {row row2 : Pa PatP} (h : Lo PE row row2) : Lo PE (altW row) (altW row2) := Lo.pb h fun x x2 hx => Lo.pb (lo_altLoop h _ _ _ (.cons hx .nil)) fun _ _ hx => Lo.pr (PE.altOf hx)
theorem lo_patW {d : Nat} {unit unit2 : Pa PatP} (h : Lo PE unit unit2) : Lo PE (patW d unit) (patW d unit2) := by
  unfold patW
  by_cases h0 : d = 0
  · rw [if_pos h0, if_pos h0]; exact Lo.fail
  · rw [if_neg h0, if_neg h0]; exact lo_altW (lo_rowW (lo_againW h))
theorem lo_unit : ∀ d, Lo PE (unitP d) (unitP d)
  | 0 => Lo.fail
  | d + 1 => Lo.pif (c_see _) (LoS.map lo_pop fun _ _ _ _ => rfl).lo (Lo.pif (c_see _) (LoS.map lo_pop fun _ _ _ _ => rfl).lo
      (Lo.pif (c_see _) (Lo.pb lo_pop.lo fun _ _ _ => Lo.pb (lo_patW (lo_unit d)) fun x x2 h => (LoS.map (lo_must _) fun _ _ _ => h).lo)
        (Lo.pif c_unit (Lo.pb (lo_one (d + 1)) fun k k2 h => Lo.pr (PE.one h)) Lo.fail)))
theorem lo_pat (d : Nat) : Lo PE (patP d) (patP d) := lo_patW (lo_unit d)
theorem lo_says : LoS Eq saysP saysP := LoS.pif (c_see _) (LoS.map lo_pop fun _ _ _ => rfl) (LoS.map (lo_must _) fun _ _ _ => rfl)
def RE (r r2 : RuleP) : Prop := ruleText r = ruleText r2
theorem lo_rule : LoS RE ruleP ruleP := LoS.pb Lo.peek fun t t2 _ => LoS.pb lo_says.lo fun b b2 e => LoS.pb (lo_pat 9) fun x x2 hx => LoS.pb (lo_must _).lo fun _ _ _ => LoS.pb (lo_pat 9) fun y y2 hy => LoS.map (lo_must _) fun _ _ _ => by
  subst e
  show ruleText _ = ruleText _
  unfold ruleText
  rw [hx 0, hy 0]
theorem lo_else : Lo Eq elseP elseP := Lo.pif (c_see _) (Lo.pb lo_pop.lo fun _ _ _ => Lo.pb lo_says.lo fun b b2 e => (LoS.map (lo_must _) fun _ _ _ => e).lo) (Lo.pr rfl)
end Cae
