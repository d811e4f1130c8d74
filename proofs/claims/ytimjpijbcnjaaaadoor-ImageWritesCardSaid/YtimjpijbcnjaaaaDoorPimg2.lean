import Derived.Test.YtimjpijbcnjaaaaDoorPimg
set_option linter.unusedSimpArgs false
set_option linter.unusedVariables false
namespace Cae

/-! What was written is read. -/
def Back {α : Type} (f : St → α × St) (enc : α → List UInt8) (v : α) : Prop := ∀ rest, f ⟨enc v ++ rest, false⟩ = (v, ⟨rest, false⟩)

theorem rnumA_back : ∀ (k i n m : Nat) (rest : List UInt8), i + k = 4 → m < 128 ^ k → 1 ≤ k → (0 < i → 0 < m) → rnumA false i n (numB m ++ rest) = (n + m * 128 ^ i, rest, false)
  | 0, _, _, _, _, _, _, h, _ => absurd h (by omega)
  | k + 1, i, n, m, rest, hi, hm, _, h0 => by
    by_cases h : m < 128
    · rw [numB_lt h, List.singleton_append, rnumA, if_neg (by omega), bt_toNat (by omega), if_pos h]
      congr 2
      simp only [Bool.false_or, Bool.and_eq_false_iff, decide_eq_false_iff_not]
      by_cases hi0 : 0 < i
      · right; have := h0 hi0; omega
      · left; exact hi0
    · rw [numB_ge h, List.cons_append, rnumA, if_neg (by omega), bt_toNat (by omega), if_neg (by omega)]
      have hk : 1 ≤ k := by
        rcases Nat.eq_zero_or_pos k with hk | hk
        · subst hk; simp at hm; omega
        · exact hk
      have hm2 : m / 128 < 128 ^ k := by rw [Nat.pow_succ] at hm; exact Nat.div_lt_of_lt_mul (by rw [Nat.mul_comm]; exact hm)
      rw [rnumA_back k (i + 1) _ (m / 128) rest (by omega) hm2 hk (fun _ => by omega)]
      congr 1
      rw [show (m % 128 + 128) % 128 = m % 128 by omega, Nat.pow_succ]
      have e : m * 128 ^ i = m % 128 * 128 ^ i + m / 128 * (128 ^ i * 128) := by
        rw [Nat.mul_comm (128 ^ i) 128, ← Nat.mul_assoc, ← Nat.add_mul]
        congr 1
        omega
      omega

theorem rnum_back {n : Nat} (h : n < 268435456) : Back rnum numB n := fun rest => by
  have := rnumA_back 4 0 0 n rest rfl (by simpa using h) (by omega) (fun h => absurd h (by omega))
  simp only [rnum, this]
  simp
theorem rbit_back (b : Bool) : Back rbit bitB b := fun rest => by
  have h : ∀ n, n = 0 ∨ n = 1 → rbit ⟨numB n ++ rest, false⟩ = (decide (n = 1), ⟨rest, false⟩) := fun n hn => by
    simp only [rbit]
    rw [rnum_back (n := n) (by omega) rest]
    rcases hn with rfl | rfl <;> rfl
  cases b with
  | true => have := h 1 (.inr rfl); rw [numB_lt (by omega)] at this; exact this
  | false => have := h 0 (.inl rfl); rw [numB_lt (by omega)] at this; exact this
theorem rlist_back {α : Type} {f : St → α × St} {enc : α → List UInt8} : ∀ (l : List α), (∀ v ∈ l, Back f enc v) → ∀ rest, rlist f l.length ⟨l.flatMap enc ++ rest, false⟩ = (l, ⟨rest, false⟩)
  | [], _, rest => rfl
  | v :: l, h, rest => by
    simp only [List.length_cons, rlist, List.flatMap_cons, List.append_assoc]
    rw [h v (by simp)]
    simp only
    rw [rlist_back l (fun u hu => h u (by simp [hu])) rest]
theorem flatMap_len {α : Type} {enc : α → List UInt8} (h1 : ∀ v, 1 ≤ (enc v).length) : ∀ (l : List α), l.length ≤ (l.flatMap enc).length
  | [] => by simp
  | v :: l => by have := flatMap_len h1 l; have := h1 v; simp only [List.length_cons, List.flatMap_cons, List.length_append]; omega
theorem rmanyList_back {α : Type} {f : St → α × St} {enc : α → List UInt8} (h1 : ∀ v, 1 ≤ (enc v).length) {l : List α} (hl : l.length < 268435456) (h : ∀ v ∈ l, Back f enc v) (rest : List UInt8) :
    rlist f (rmany ⟨numB l.length ++ (l.flatMap enc ++ rest), false⟩).1 (rmany ⟨numB l.length ++ (l.flatMap enc ++ rest), false⟩).2 = (l, ⟨rest, false⟩) := by
  have hm : rmany ⟨numB l.length ++ (l.flatMap enc ++ rest), false⟩ = (l.length, ⟨l.flatMap enc ++ rest, false⟩) := by
    unfold rmany
    rw [rnum_back hl]
    have := flatMap_len h1 l
    rw [if_neg (by simp only [List.length_append]; omega)]
  rw [hm]
  exact rlist_back l h rest
theorem rangeB_pos (r : Rg) : 1 ≤ (rangeB r).length := by unfold rangeB; have := numB_pos r.1.toNat; simp only [List.length_append]; omega
theorem setB_pos (s : List Rg) : 1 ≤ (setB s).length := by unfold setB; have := numB_pos s.length; simp only [List.length_append]; omega
theorem insB_pos (x : I3) : 1 ≤ (insB x).length := by unfold insB; have := numB_pos x.op.toNat; simp only [List.length_append]; omega
theorem pairB_pos (r : PairP) : 1 ≤ (pairB r).length := by unfold pairB bitB; simp only [List.length_append, List.length_cons]; omega

theorem rrange_back {r : Rg} (h1 : 0 ≤ r.1 ∧ r.1 ≤ 1114111) (h2 : 0 ≤ r.2 ∧ r.2 ≤ 1114111) : Back rrange rangeB r := fun rest => by
  simp only [rrange, rangeB, List.append_assoc]
  rw [rnum_back (n := r.1.toNat) (by omega)]
  simp only
  rw [rnum_back (n := r.2.toNat) (by omega)]
  obtain ⟨a, b⟩ := r
  simp only at h1 h2 ⊢
  rw [Int.toNat_of_nonneg h1.1, Int.toNat_of_nonneg h2.1]
theorem rset_back {s : List Rg} (hs : setRight (-2) s = true) (hl : s.length < 268435456) : Back rset setB s := fun rest => by
  have hr : ∀ r ∈ s, Back rrange rangeB r := fun r hr => by
    obtain ⟨i, hi⟩ := List.getElem?_of_mem hr
    obtain ⟨h1, h2, h3, _⟩ := setRight_sorted s (-2) hs i r hi
    exact rrange_back (by omega) (by omega)
  have := rmanyList_back rangeB_pos hl hr rest
  simp only [setB, List.append_assoc]
  exact this
theorem rins_back {x : I3} {s n : Int} (hx : insRight x s n = true) (hs : s ≤ 2000) (hn : n ≤ 2000) : Back rins insB x := fun rest => by
  have hr := insRight_cases hx
  have hb : (0 ≤ x.op ∧ x.op ≤ 5) ∧ (0 ≤ x.a ∧ x.a ≤ 2000) ∧ (0 ≤ x.b ∧ x.b ≤ 2000) := by omega
  simp only [rins, insB, List.append_assoc]
  rw [rnum_back (n := x.op.toNat) (by omega)]
  simp only
  rw [rnum_back (n := x.a.toNat) (by omega)]
  simp only
  rw [rnum_back (n := x.b.toNat) (by omega)]
  obtain ⟨o, a, b⟩ := x
  simp only at hb ⊢
  rw [Int.toNat_of_nonneg hb.1.1, Int.toNat_of_nonneg hb.2.1.1, Int.toNat_of_nonneg hb.2.2.1]
def codeLen (c : CodeP) : Prop := ∀ s ∈ c.sets, s.length < 268435456
theorem rcode_back {c : CodeP} (h : codeRight c = true) (hl : codeLen c) : Back rcode codeB c := fun rest => by
  have hc := CR.of h
  have h1 := rmanyList_back (f := rset) (enc := setB) setB_pos (l := c.sets) (by have := hc.sets; omega) (fun s hs => rset_back (hc.set s hs) (hl s hs)) (numB c.ins.length ++ (c.ins.flatMap insB ++ rest))
  have h2 := rmanyList_back (f := rins) (enc := insB) insB_pos (l := c.ins) (by have := hc.many; omega) (fun x hx => by
    obtain ⟨i, hi⟩ := List.getElem?_of_mem hx
    exact rins_back (hc.ins i x hi) (by have := hc.sets; omega) (by have := hc.many; omega)) rest
  simp only [rcode, rsets, rinss, codeB, List.append_assoc]
  rw [h1]
  simp only
  rw [h2]
theorem rpair_back {r : PairP} (h1 : codeRight r.before = true) (h2 : codeRight r.after = true) (l1 : codeLen r.before) (l2 : codeLen r.after) : Back rpair pairB r := fun rest => by
  have e1 := rbit_back r.brk (codeB r.before ++ (codeB r.after ++ rest))
  have e2 := rcode_back h1 l1 (codeB r.after ++ rest)
  have e3 := rcode_back h2 l2 rest
  simp only [rpair, pairB, List.append_assoc]
  rw [e1]
  simp only
  rw [e2]
  simp only
  rw [e3]
def progLen (p : ProgP) : Prop := ∀ r ∈ p.rules, codeLen r.before ∧ codeLen r.after
theorem progRight_spec {p : ProgP} (h : progRight p = true) : p.rules.length ≤ 20 ∧ ∀ r ∈ p.rules, codeRight r.before = true ∧ codeRight r.after = true := by
  unfold progRight at h
  simp only [Bool.and_eq_true, decide_eq_true_eq, List.all_eq_true] at h
  exact h
theorem rprog_back {p : ProgP} (h : progRight p = true) (hl : progLen p) : Back rprog progB p := fun rest => by
  obtain ⟨h1, h2⟩ := progRight_spec h
  have e1 := rbit_back p.els (numB p.rules.length ++ (p.rules.flatMap pairB ++ rest))
  have e2 := rmanyList_back (f := rpair) (enc := pairB) pairB_pos (l := p.rules) (by omega) (fun r hr => rpair_back (h2 r hr).1 (h2 r hr).2 (hl r hr).1 (hl r hr).2) rest
  simp only [rprog, rrules, progB, List.append_assoc]
  rw [e1]
  simp only
  rw [e2]

theorem sumGo_a : ∀ (s : List UInt8) (a b : Nat), a < 65521 → (sumGo a b s).1 = (a + (s.map UInt8.toNat).sum) % 65521
  | [], a, b, h => by simp only [sumGo, List.map_nil, List.sum_nil, Nat.add_zero]; omega
  | c :: s, a, b, h => by
    rw [sumGo, sumGo_a s _ _ (Nat.mod_lt _ (by omega)), List.map_cons, List.sum_cons]
    omega
theorem sumGo_b : ∀ (s : List UInt8) (a b : Nat), b < 65521 → (sumGo a b s).2 < 65521
  | [], _, _, h => h
  | c :: s, a, b, _ => by rw [sumGo]; exact sumGo_b s _ _ (Nat.mod_lt _ (by omega))
theorem sumP_lt (s : List UInt8) : sumP s < 4294967296 := by
  have h1 := sumGo_a s 1 0 (by omega)
  have h2 := sumGo_b s 1 0 (by omega)
  have h3 := Nat.mod_lt (1 + (s.map UInt8.toNat).sum) (show 0 < 65521 by omega)
  unfold sumP
  omega
theorem sumP_mod (s : List UInt8) : sumP s % 65536 = (1 + (s.map UInt8.toNat).sum) % 65521 := by
  have h1 := sumGo_a s 1 0 (by omega)
  have h3 := Nat.mod_lt (1 + (s.map UInt8.toNat).sum) (show 0 < 65521 by omega)
  unfold sumP
  omega
theorem sumOf_sumB {u : Nat} (h : u < 4294967296) : sumOf (sumB u) = u := by
  simp only [sumOf, sumB, List.getD_cons_zero, List.getD_cons_succ]
  rw [bt_toNat (by omega), bt_toNat (by omega), bt_toNat (by omega), bt_toNat (by omega)]
  omega
theorem sumB_sumOf {l : List UInt8} (h : l.length = 4) : sumB (sumOf l) = l := by
  match l, h with
  | [a, b, c, d], _ =>
    have ha := a.toNat_lt; have hb := b.toNat_lt; have hc := c.toNat_lt; have hd := d.toNat_lt
    simp only [sumOf, sumB, List.getD_cons_zero, List.getD_cons_succ]
    rw [show (a.toNat + b.toNat * 256 + c.toNat * 65536 + d.toNat * 16777216) % 256 = a.toNat by omega, show (a.toNat + b.toNat * 256 + c.toNat * 65536 + d.toNat * 16777216) / 256 % 256 = b.toNat by omega,
      show (a.toNat + b.toNat * 256 + c.toNat * 65536 + d.toNat * 16777216) / 65536 % 256 = c.toNat by omega, show (a.toNat + b.toNat * 256 + c.toNat * 65536 + d.toNat * 16777216) / 16777216 % 256 = d.toNat by omega]
    simp only [bt_of]
theorem sumB_len (u : Nat) : (sumB u).length = 4 := rfl

theorem parse_write {p : ProgP} (h : progRight p = true) (hl : progLen p) : parseP (writeB p) = some p := by
  have hlen : (writeB p).length - 4 = (progB p).length := by simp [writeB, sumB]
  have h4 : ¬ (writeB p).length < 4 := by simp [writeB, sumB]
  have ht : (writeB p).take (progB p).length = progB p := by simp [writeB]
  have hd : (writeB p).drop (progB p).length = sumB (sumP (progB p)) := by simp [writeB]
  unfold parseP
  rw [if_neg h4, hlen, ht, hd, sumOf_sumB (sumP_lt _), if_neg (by simp)]
  have e := rprog_back h hl []
  rw [List.append_nil] at e
  simp only [e]
  rw [if_neg (by simp [h])]
theorem write_parse {s : List UInt8} {q : ProgP} (h : parseP s = some q) : progRight q = true ∧ writeB q = s := by
  unfold parseP at h
  split at h
  · cases h
  · rename_i h4
    split at h
    · cases h
    · rename_i hs
      have hs : sumP (s.take (s.length - 4)) = sumOf (s.drop (s.length - 4)) := Classical.byContradiction hs
      simp only at h
      split at h
      · cases h
      · rename_i hg
        simp only [not_or, Bool.not_eq_true, ne_eq, Decidable.not_not] at hg
        obtain ⟨g1, g2, g3⟩ := hg
        simp only [Option.some.injEq] at h
        have hr := (rprog_reads ⟨s.take (s.length - 4), false⟩).2 g1
        rw [g2, List.append_nil, h] at hr
        simp only at hr
        rw [h] at g3
        refine ⟨by simpa using g3, ?_⟩
        unfold writeB
        rw [← hr, hs, sumB_sumOf (by rw [List.length_drop]; omega), List.take_append_drop]

theorem sum_set : ∀ (s : List UInt8) (i : Nat) (b c : UInt8), s[i]? = some c → ((s.set i b).map UInt8.toNat).sum + c.toNat = (s.map UInt8.toNat).sum + b.toNat
  | [], i, b, c, h => by simp at h
  | x :: s, 0, b, c, h => by simp at h; subst h; simp only [List.set_cons_zero, List.map_cons, List.sum_cons]; omega
  | x :: s, i + 1, b, c, h => by
    have := sum_set s i b c (by simpa using h)
    simp only [List.set_cons_succ, List.map_cons, List.sum_cons]; omega

theorem spoilt {p : ProgP} {i : Nat} {b c : UInt8} (hc : (writeB p)[i]? = some c) (hb : b ≠ c) : parseP ((writeB p).set i b) = none := by
  have hlen : ((writeB p).set i b).length - 4 = (progB p).length := by simp [writeB, sumB]
  have h4 : ¬ ((writeB p).set i b).length < 4 := by simp [writeB, sumB]
  unfold parseP
  rw [if_neg h4, hlen]
  have hne : b.toNat ≠ c.toNat := fun h => hb (UInt8.toNat_inj.1 h)
  have hb2 := b.toNat_lt
  have hc2 := c.toNat_lt
  rw [if_pos]
  unfold writeB at hc ⊢
  rcases Nat.lt_or_ge i (progB p).length with hi | hi
  · rw [List.getElem?_append_left hi] at hc
    rw [List.set_append_left _ _ hi, List.take_left' (by simp), List.drop_left' (by simp), sumOf_sumB (sumP_lt _)]
    intro he
    have h1 := sumP_mod ((progB p).set i b)
    have h2 := sumP_mod (progB p)
    rw [he, h2] at h1
    have := sum_set (progB p) i b c hc
    omega
  · rw [List.getElem?_append_right hi] at hc
    rw [List.set_append_right _ _ hi, List.take_left, List.drop_left]
    intro he
    have h1 := sumB_sumOf (l := (sumB (sumP (progB p))).set (i - (progB p).length) b) (by simp [sumB])
    rw [← he] at h1
    have h2 := congrArg (·[i - (progB p).length]?) h1
    rw [hc, List.getElem?_set_self (List.getElem?_eq_some_iff.1 hc).1] at h2
    exact hb (Option.some.inj h2).symm
end Cae
