import Derived.Test.YtieaebjkbhaoaaaGreatDoorPrl2
set_option linter.unusedSimpArgs false
set_option linter.unusedVariables false
namespace Cae

/-! How long what is written is, at most. -/
def W (l : List Tok) : Nat := (l.map fun t => 2 * t.text.length + 9).sum
theorem W_nil : W [] = 0 := rfl
theorem W_cons (t : Tok) (l : List Tok) : W (t :: l) = 2 * t.text.length + 9 + W l := by simp [W]
def Me {α : Type} (c : Nat) (μ : α → Nat) (p : Pa α) : Prop := ∀ l x l', p l = .ok (x, l') → μ x + W l' ≤ W l + c
section
variable {α β : Type} {c d : Nat} {μ : α → Nat} {ν : β → Nat} {p : Pa α} {q : α → Pa β}
theorem Me.pr {x : α} : Me (μ x) μ (pr x) := fun l y l' h => by cases h; omega
theorem Me.fail {e : Nat} : Me c μ (pfail e) := fun l y l' h => by cases h
theorem Me.mono (h : Me c μ p) (hc : c ≤ d) : Me d μ p := fun l x l' e => by have := h l x l' e; omega
theorem Me.weak {μ' : α → Nat} (h : Me c μ p) (hm : ∀ x, μ' x ≤ μ x) : Me c μ' p := fun l x l' e => by have := h l x l' e; have := hm x; omega
theorem Me.pb {m : Nat} (h : Me c μ p) (k : ∀ x, Me (μ x + d) ν (q x)) (hm : c + d ≤ m) : Me m ν (pb p q) := fun l y l' e => by
  obtain ⟨x, l1, e1, e2⟩ := pb_ok e
  have h1 := h l x l1 e1
  have h2 := k x l1 y l' e2
  omega
theorem Me.pif {cc : List Tok → Bool} {p1 p2 : Pa α} (h1 : Me c μ p1) (h2 : Me c μ p2) : Me c μ (pif cc p1 p2) := fun l x l' e => by
  unfold Cae.pif at e
  split at e
  · exact h1 l x l' e
  · exact h2 l x l' e
theorem Me.peek : Me 0 (fun _ => 0) peek := fun l x l' e => by cases e; dsimp only; omega
theorem pop_ok {l l' : List Tok} {x : Unit} (h : popP l = .ok (x, l')) : ∃ t, l = t :: l' ∧ t.kind ≠ 5 := by
  cases l with
  | nil => cases h
  | cons t r =>
    by_cases h5 : t.kind = 5
    · simp [popP, h5] at h
    · have e' : popP (t :: r) = .ok ((), r) := by simp [popP, h5]
      rw [e'] at h
      cases h
      exact ⟨t, rfl, h5⟩
theorem Me.pop : Me 0 (fun _ => 9) popP := fun l x l' e => by
  obtain ⟨t, rfl, _⟩ := pop_ok e
  rw [W_cons]; dsimp only; omega
theorem Me.popn : Me 0 (fun _ => 0) popP := Me.pop.weak fun _ => Nat.zero_le _
end
theorem me_must (s : List UInt8) : Me 0 (fun _ => 9) (mustP s) := Me.pif Me.pop Me.fail
theorem me_name : Me 0 (fun n : List UInt8 => n.length + 8) nameP := fun l n l' e => by
  unfold nameP pif at e
  split at e
  · split at e
    · cases e
    · obtain ⟨t, l1, e1, e2⟩ := pb_ok e
      cases e1
      obtain ⟨x, l2, e3, e4⟩ := pb_ok e2
      cases e4
      obtain ⟨t, rfl, _⟩ := pop_ok e3
      rw [W_cons]
      show t.text.length + 8 + W l' ≤ 2 * t.text.length + 9 + W l' + 0
      omega
  · cases e
def kn (k : KindP) : Nat := (kindText k true).length + 3
theorem kt_le (k : KindP) (a : Bool) : (kindText k a).length + 3 ≤ kn k := by
  unfold kn
  cases a with
  | true => exact Nat.le_refl _
  | false => cases k <;> simp [kindText] <;> omega
theorem kn_bin (c p : Nat) (k r : KindP) : kn (.bin c p k r) ≤ kn k + kn r + 2 := by
  have h1 := kt_le k false
  have h2 := kt_le r true
  unfold kn at *
  simp only [kindText, if_true, List.length_cons, List.length_append, List.length_nil]
  have : (if c = 3 then [32, 124, 32] else if c = 4 then [32, 38, 32] else [32, 45, 32] : List UInt8).length = 3 := by split <;> (try split) <;> rfl
  rw [this]; omega
theorem kn_not (p : Nat) (k : KindP) : kn (.not p k) = kn k + 1 := by simp [kn, kindText]
theorem me_bin : Me 0 (fun c : Nat => if c = 0 then 0 else 8) binP := by
  have h : ∀ c : Nat, c ≠ 0 → Me 0 (fun c : Nat => if c = 0 then 0 else 8) (pb popP fun _ => pr c) := fun c hc => Me.pb (d := 0) (Me.pop.weak (μ' := fun _ => 8) fun _ => by omega) (fun _ => by have := Me.pr (μ := fun c : Nat => if c = 0 then 0 else 8) (x := c); rw [if_neg hc] at this; exact this) (by omega)
  exact Me.pif (h 3 (by decide)) (Me.pif (h 4 (by decide)) (Me.pif (h 5 (by decide)) Me.pr))
theorem me_kindLoop {one : Pa KindP} (h : Me 0 kn one) (pos : Nat) : ∀ (n : Nat) (k : KindP), Me (kn k) kn (kindLoop one pos n k)
  | 0, k => Me.fail
  | n + 1, k => Me.pb (d := kn k) me_bin (fun c => by
      by_cases h0 : c = 0
      · rw [if_pos h0, if_pos h0]; exact Me.pr.mono (by omega)
      · rw [if_neg h0, if_neg h0]
        refine Me.pb (d := 8 + kn k) h (fun r => (me_kindLoop h pos n _).mono ?_) (by omega)
        have := kn_bin c pos k r
        omega) (by omega)
theorem me_kindW {one : Pa KindP} (h : Me 0 kn one) : Me 0 kn (kindW one) := Me.pb (d := 0) Me.peek (fun t => Me.pb (d := 0) h (fun k => me_kindLoop h _ _ _) (by omega)) (by omega)
theorem setP_ok {s : List UInt8} {l : List Rg} (h : setP s = some l) : PrintOf s l := by
  have key : ∀ l' : List Rg, (if setRight (-2) l' && printP l' == s then some l' else none) = some l → PrintOf s l := fun l' h => by
    by_cases hc : (setRight (-2) l' && printP l' == s) = true
    · rw [if_pos hc] at h
      obtain rfl := Option.some.inj h
      simp only [Bool.and_eq_true, beq_iff_eq] at hc
      exact ⟨hc.1, hc.2⟩
    · rw [if_neg hc] at h; cases h
  exact key _ h
theorem me_lit : Me 0 kn litP := fun l k l' e => by
  obtain ⟨t, l1, e1, e2⟩ := pb_ok e
  cases e1
  cases hs : setP (hd l).text with
  | none => rw [hs] at e2; cases e2
  | some s =>
    rw [hs] at e2
    obtain ⟨x, l2, e3, e4⟩ := pb_ok e2
    cases e4
    obtain ⟨t, rfl, _⟩ := pop_ok e3
    have h1 : printP s = t.text := (setP_ok hs).2
    rw [W_cons, ← h1]
    show (printP s).length + 3 + W l' ≤ _
    omega
theorem me_one : ∀ d, Me 0 kn (oneP d)
  | 0 => Me.fail
  | d + 1 => Me.pif me_lit (Me.pif (Me.pb (d := 0) Me.peek (fun t => Me.pb (d := 0) Me.pop (fun _ => Me.pb (d := 9) (me_one d) (fun k => Me.pr.mono (by rw [kn_not]; omega)) (by omega)) (by omega)) (by omega))
      (Me.pif (Me.pb (d := 0) Me.popn (fun _ => Me.pb (d := 0) (me_kindW (me_one d)) (fun k => Me.pb (d := kn k) (me_must _) (fun _ => Me.pr.mono (by omega)) (by omega)) (by omega)) (by omega))
        (Me.pb (d := 0) Me.peek (fun t => Me.pb (d := 0) me_name (fun n => Me.pr.mono (by show n.length + 3 ≤ _; omega)) (by omega)) (by omega))))
def pn (x : PatP) : Nat := (patText x 2).length + 3
theorem inPar_len (b : Bool) (s : List UInt8) : s.length ≤ (inPar b s).length ∧ (inPar b s).length ≤ s.length + 2 := by
  cases b <;> simp [inPar] <;> omega
theorem pt_le (x : PatP) (n : Nat) : (patText x n).length + 3 ≤ pn x := by
  unfold pn
  cases x with
  | cat l =>
    simp only [patText]
    by_cases h : 1 < n
    · simp [h, inPar]
    · simp [h, inPar]
  | alt l =>
    simp only [patText]
    have h0 : 0 < 2 := by decide
    have h1 : (patTexts l 1) = patTexts l 1 := rfl
    by_cases h : 0 < n
    · simp [h, inPar]
    · simp [h, inPar]
  | _ => simp [patText]
theorem decP_len (n : Nat) : (decP n).length ≤ 2 := by unfold decP; split <;> (try split) <;> simp
theorem timesText_len (lo hi : Int) : (timesText lo hi).length ≤ 7 := by
  have h1 := decP_len lo.toNat
  have h2 := decP_len hi.toNat
  unfold timesText
  repeat' split
  all_goals simp
  all_goals omega
theorem pn_many (x : PatP) (lo hi : Int) : pn (.many x lo hi) ≤ pn x + 7 := by
  have := timesText_len lo hi
  unfold pn
  simp only [patText, List.length_append]
  omega
def tot (l : List PatP) : Nat := (l.map pn).sum
theorem tot_snoc (l : List PatP) (x : PatP) : tot (l ++ [x]) = tot l + pn x := by simp [tot]
theorem lens_le (l : List PatP) (n : Nat) : Go.Lib.lens (patTexts l n) + 3 * l.length ≤ tot l ∧ (patTexts l n).length = l.length := by
  induction l with
  | nil => simp [patTexts, Go.Lib.lens, tot]
  | cons x l ih =>
    have := pt_le x n
    simp only [patTexts, Go.Lib.lens, tot, List.map_cons, List.sum_cons, List.length_cons] at *
    omega
theorem join_le (l : List PatP) (n : Nat) (sep : List UInt8) (hs : sep.length ≤ 3) : (Go.Lib.join (patTexts l n) sep).length ≤ tot l := by
  cases l with
  | nil => simp [patTexts, Go.Lib.join_nil]
  | cons x l =>
    have h1 := lens_le (x :: l) n
    simp only [patTexts] at *
    rw [Go.Lib.join_length]
    have h2 : sep.length * (patTexts l n).length ≤ 3 * (patTexts l n).length := Nat.mul_le_mul_right _ hs
    simp only [List.length_cons] at h1
    omega
theorem pn_cat (l : List PatP) : pn (.cat l) ≤ tot l + 5 := by
  have := join_le l 2 [32] (by decide)
  have := (inPar_len (decide (1 < 2)) (Go.Lib.join (patTexts l 2) [32])).2
  unfold pn
  simp only [patText]
  omega
theorem pn_alt (l : List PatP) : pn (.alt l) ≤ tot l + 5 := by
  have := join_le l 1 [32, 124, 32] (by decide)
  have := (inPar_len (decide (0 < 2)) (Go.Lib.join (patTexts l 1) [32, 124, 32])).2
  unfold pn
  simp only [patText]
  omega
theorem pn_row (l : List PatP) : pn (rowOf l) ≤ tot l + 5 := by
  match l with
  | [] => exact pn_cat []
  | [x] => simp [rowOf, tot]
  | x :: y :: l => exact pn_cat _
theorem pn_altOf (l : List PatP) : pn (altOf l) ≤ tot l + 5 := by
  match l with
  | [] => exact pn_alt []
  | [x] => simp [altOf, tot]
  | x :: y :: l => exact pn_alt _
theorem me_times : Me 0 (fun _ => 0) timesP := Me.pif (Me.pb (d := 0) Me.peek (fun t => by
  by_cases h : 12 < decV t.text
  · rw [if_pos h]; exact Me.fail
  · rw [if_neg h]; exact Me.pb (d := 0) Me.popn (fun _ => Me.pr.mono (by omega)) (by omega)) (by omega)) Me.fail
theorem me_braces : Me 0 (fun _ => 0) bracesP := Me.pb (d := 0) me_times (fun lo => Me.pif (Me.pb (d := 0) Me.popn (fun _ => Me.pif (Me.pb (d := 0) me_times (fun hi => by
  by_cases h : hi < lo
  · rw [if_pos h]; exact Me.fail
  · rw [if_neg h]; exact Me.pb (d := 0) (me_must _) (fun _ => Me.pr.mono (by omega)) (by omega)) (by omega)) (Me.pb (d := 0) (me_must _) (fun _ => Me.pr.mono (by omega)) (by omega))) (by omega)) (Me.pb (d := 0) (me_must _) (fun _ => Me.pr.mono (by omega)) (by omega))) (by omega)
def sn : Option (Int × Int) → Nat
  | none => 0
  | some _ => 8
theorem me_suffix : Me 0 sn suffixP := by
  have h : ∀ r, Me 0 sn (pb popP fun _ => pr (some r)) := fun r => Me.pb (d := 0) (Me.pop.weak (μ' := fun _ => 8) fun _ => by omega) (fun _ => Me.pr) (by omega)
  refine Me.pif (h _) (Me.pif (h _) (Me.pif (h _) (Me.pif ?_ Me.pr)))
  exact Me.pb (d := 0) (Me.pop.weak (μ' := fun _ => 8) fun _ => by omega) (fun _ => Me.pb (d := 8) me_braces (fun r => Me.pr.mono (by show 8 ≤ _; omega)) (by omega)) (by omega)
theorem me_againLoop (d : Nat) : ∀ (n c : Nat) (x : PatP), Me (pn x) pn (againLoop d n c x)
  | 0, _, _ => Me.fail
  | n + 1, c, x => Me.pb (d := pn x) me_suffix (fun r => by
      cases r with
      | none => exact Me.pr.mono (by omega)
      | some q =>
        show Me _ pn (if d ≤ c + 1 then _ else _)
        by_cases h0 : d ≤ c + 1
        · rw [if_pos h0]; exact Me.fail
        · rw [if_neg h0]
          refine (me_againLoop d n (c + 1) _).mono ?_
          have := pn_many x q.1 q.2
          show _ ≤ 8 + pn x
          omega) (by omega)
theorem me_againW {d : Nat} {unit : Pa PatP} (h : Me 0 pn unit) : Me 0 pn (againW d unit) := Me.pb (d := 0) h (fun x => me_againLoop d _ _ _) (by omega)
theorem me_rowLoop {again : Pa PatP} (h : Me 0 pn again) : ∀ (n : Nat) (a : List PatP), Me (tot a) tot (rowLoop again n a)
  | 0, _ => Me.fail
  | n + 1, a => Me.pif (Me.pb (d := tot a) h (fun x => (me_rowLoop h n _).mono (by rw [tot_snoc]; omega)) (by omega)) Me.pr
theorem me_rowW {again : Pa PatP} (h : Me 0 pn again) : Me 5 pn (rowW again) := Me.pb (d := 5) (me_rowLoop h _ _) (fun ps => Me.pr.mono (by have := pn_row ps; omega)) (by simp [tot])
theorem me_altLoop {row : Pa PatP} (h : Me 5 pn row) : ∀ (n : Nat) (a : List PatP), Me (tot a) tot (altLoop row n a)
  | 0, _ => Me.fail
  | n + 1, a => Me.pif (Me.pb (d := tot a) Me.pop (fun _ => Me.pb (d := tot a) h (fun x => (me_altLoop h n _).mono (by rw [tot_snoc]; omega)) (by omega)) (by omega)) Me.pr
theorem me_altW {row : Pa PatP} (h : Me 5 pn row) : Me 10 pn (altW row) := Me.pb (d := 5) h (fun x => Me.pb (d := 5) (me_altLoop h _ _) (fun ps => Me.pr.mono (by have := pn_altOf ps; omega)) (by simp [tot])) (by omega)
theorem me_patW {d : Nat} {unit : Pa PatP} (h : Me 0 pn unit) : Me 10 pn (patW d unit) := by
  unfold patW
  by_cases h0 : d = 0
  · rw [if_pos h0]; exact Me.fail
  · rw [if_neg h0]; exact me_altW (me_rowW (me_againW h))
theorem me_paren {p : Pa PatP} (h : Me 10 pn p) : Me 0 pn (pb popP fun _ => pb p fun x => pb (mustP [41]) fun _ => pr x) := fun l x l' e => by
  obtain ⟨u, l1, e1, e2⟩ := pb_ok e
  obtain ⟨y, l2, e3, e4⟩ := pb_ok e2
  obtain ⟨v, l3, e5, e6⟩ := pb_ok e4
  cases e6
  have a1 := Me.pop _ _ _ e1
  have a2 := h _ _ _ e3
  have a3 := me_must _ _ _ _ e5
  dsimp only at a1 a3
  omega
theorem me_unit : ∀ d, Me 0 pn (unitP d)
  | 0 => Me.fail
  | d + 1 => Me.pif (Me.pb (d := 0) Me.pop (fun _ => Me.pr.mono (by decide)) (by omega)) (Me.pif (Me.pb (d := 0) Me.pop (fun _ => Me.pr.mono (by decide)) (by omega))
      (Me.pif (me_paren (me_patW (me_unit d)))
        (Me.pif (Me.pb (d := 0) (me_one (d + 1)) (fun k => Me.pr.mono (by show (patText (.one k) 2).length + 3 ≤ _; simp only [patText]; unfold kn; omega)) (by omega)) Me.fail)))
theorem me_pat (d : Nat) : Me 10 pn (patP d) := me_patW (me_unit d)
def rn (r : RuleP) : Nat := (ruleText r).length
theorem rn_le (r : RuleP) : rn r ≤ pn r.before + pn r.after + 5 := by
  have h1 := pt_le r.before 0
  have h2 := pt_le r.after 0
  have a : (if r.brk = true then [98, 114, 101, 97, 107, 32] else [107, 101, 101, 112, 32] : List UInt8).length ≤ 6 := by split <;> simp
  have b : (if patText r.before 0 = [] then [] else patText r.before 0 ++ [32] : List UInt8).length ≤ (patText r.before 0).length + 1 := by split <;> simp
  have c : (if patText r.after 0 = [] then [] else 32 :: patText r.after 0 : List UInt8).length ≤ (patText r.after 0).length + 1 := by split <;> simp
  have e : rn r = (if r.brk = true then [98, 114, 101, 97, 107, 32] else [107, 101, 101, 112, 32] : List UInt8).length + (if patText r.before 0 = [] then [] else patText r.before 0 ++ [32] : List UInt8).length + 1 + (if patText r.after 0 = [] then [] else 32 :: patText r.after 0 : List UInt8).length + 2 := by
    unfold rn ruleText
    rw [List.length_append, List.length_append, List.length_append, List.length_append]
    rfl
  omega
theorem me_says : Me 0 (fun _ => 9) saysP := Me.pif (Me.pb (d := 0) Me.pop (fun _ => Me.pr.mono (by omega)) (by omega)) (Me.pb (d := 0) (me_must _) (fun _ => Me.pr.mono (by omega)) (by omega))
theorem me_rule : Me 0 rn ruleP := fun l r l' e => by
  obtain ⟨t, l0, e0, e⟩ := pb_ok e
  obtain ⟨b, l1, e1, e⟩ := pb_ok e
  obtain ⟨x, l2, e2, e⟩ := pb_ok e
  obtain ⟨_, l3, e3, e⟩ := pb_ok e
  obtain ⟨y, l4, e4, e⟩ := pb_ok e
  obtain ⟨_, l5, e5, e⟩ := pb_ok e
  cases e
  cases e0
  have a1 := me_says _ _ _ e1
  have a2 := me_pat _ _ _ _ e2
  have a3 := me_must _ _ _ _ e3
  have a4 := me_pat _ _ _ _ e4
  have a5 := me_must _ _ _ _ e5
  have a6 : rn ⟨(hd l).pos, b, x, y⟩ ≤ pn x + pn y + 5 := rn_le ⟨(hd l).pos, b, x, y⟩
  simp only at a1 a3 a5
  omega
def cn (c : ClassP) : Nat := (classText c).length
theorem me_class : Me 0 cn classP := fun l r l' e => by
  obtain ⟨t, l0, e0, e⟩ := pb_ok e
  obtain ⟨_, l1, e1, e⟩ := pb_ok e
  obtain ⟨n, l2, e2, e⟩ := pb_ok e
  obtain ⟨_, l3, e3, e⟩ := pb_ok e
  obtain ⟨k, l4, e4, e⟩ := pb_ok e
  obtain ⟨_, l5, e5, e⟩ := pb_ok e
  cases e
  cases e0
  have a1 := me_must _ _ _ _ e1
  have a2 := me_name _ _ _ e2
  have a3 := me_must _ _ _ _ e3
  have a4 := me_kindW (me_one 9) _ _ _ e4
  have a5 := me_must _ _ _ _ e5
  have := kt_le k false
  dsimp only at a1 a2 a3 a5
  simp only [cn, classText, List.length_append, List.length_cons, List.length_nil]
  omega
theorem me_ruleLoop : ∀ (n : Nat) (acc : List RuleP), Me (acc.map rn).sum (fun l => (l.map rn).sum) (ruleLoop n acc)
  | 0, _ => Me.fail
  | n + 1, acc => Me.pif (by
      by_cases h : acc.length = 20
      · rw [if_pos h]; exact Me.fail
      · rw [if_neg h]
        intro l x l' e
        obtain ⟨r, l1, e1, e2⟩ := pb_ok e
        have a1 := me_rule _ _ _ e1
        have a2 := me_ruleLoop n _ _ _ _ e2
        simp only [List.map_append, List.sum_append, List.map_cons, List.map_nil, List.sum_cons, List.sum_nil, List.length_append, List.length_cons, List.length_nil] at a2
        dsimp only
        omega) Me.pr
theorem me_classLoop : ∀ (n : Nat) (acc : List ClassP), Me (acc.map cn).sum (fun l => (l.map cn).sum) (classLoop n acc)
  | 0, _ => Me.fail
  | n + 1, acc => Me.pif (by
      by_cases h : acc.length = 20
      · rw [if_pos h]; exact Me.fail
      · rw [if_neg h]
        intro l x l' e
        obtain ⟨r, l1, e1, e2⟩ := pb_ok e
        have a1 := me_class _ _ _ e1
        have a2 := me_classLoop n _ _ _ _ e2
        simp only [List.map_append, List.sum_append, List.map_cons, List.map_nil, List.sum_cons, List.sum_nil] at a2
        dsimp only
        omega) Me.pr
theorem me_else : Me 0 (fun _ => 0) elseP := Me.pif (Me.pb (d := 0) Me.popn (fun _ => Me.pb (d := 0) (me_says.weak (μ' := fun _ => 0) (fun _ => by omega)) (fun _ => Me.pb (d := 0) (me_must _) (fun _ => Me.pr.mono (by omega)) (by omega)) (by omega)) (by omega)) Me.pr
theorem flat_len {α : Type} (f : α → List UInt8) (l : List α) : (l.flatMap f).length = (l.map fun x => (f x).length).sum := by
  rw [List.length_flatMap]
/-- What is written of what was read is not much longer. -/
theorem text_len {s : List UInt8} {f : FileP} (h : parseR s = .ok f) : (fileText f).length ≤ 11 * s.length + 60 := by
  obtain ⟨l, l', tl, hn, hf, _⟩ := parseR_ok h
  obtain ⟨l1, l2, h1, h2, h3⟩ := fileP_ok hf
  have a1 := me_classLoop _ _ _ _ _ h1
  have a2 := me_ruleLoop _ _ _ _ _ h2
  have a3 := me_else _ _ _ h3
  simp only [List.map_nil, List.sum_nil, List.length_nil] at a1 a2
  have hW : W (l ++ [⟨5, [], s.length⟩]) ≤ 11 * s.length + 9 := by
    obtain ⟨s1, s2⟩ := tl.sum
    have : ∀ l : List Tok, (∀ t ∈ l, 0 < t.text.length) → W (l ++ [⟨5, [], s.length⟩]) ≤ 11 * sumT l + 9 := by
      intro l hl
      induction l with
      | nil => simp [W, sumT]
      | cons t l ih =>
        have h1 := ih (fun t ht => hl t (List.mem_cons_of_mem _ ht))
        have h2 := hl t (by simp)
        rw [List.cons_append, W_cons]
        have : sumT (t :: l) = t.text.length + sumT l := by simp [sumT]
        omega
    have := this l s2
    omega
  have e : (fileText f).length = (f.classes.map cn).sum + (f.rules.map rn).sum + (elseText f.els).length := by
    unfold fileText
    rw [List.length_append, List.length_append, flat_len, flat_len]
    rfl
  have e2 : (elseText f.els).length ≤ 11 := by unfold elseText; split <;> simp
  omega
end Cae
