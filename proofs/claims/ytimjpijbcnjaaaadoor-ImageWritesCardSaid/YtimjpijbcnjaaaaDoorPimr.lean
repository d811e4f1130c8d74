import Derived.Test.YtimjpijbcnjaaaaDoorPimg2
set_option linter.unusedSimpArgs false
set_option linter.unusedVariables false
namespace Cae

/-! The document's reading of a program's bytes. -/
def tnumA (most : Nat) (bad : Bool) (full : List UInt8) : Nat → Nat → List UInt8 → Nat × St
  | _, _, [] => (0, ⟨full, true⟩)
  | i, n, c :: r => if 6 ≤ i then (0, ⟨full, true⟩) else if c.toNat < 128 then (n + c.toNat * 128 ^ i, ⟨r, bad || decide (most < n + c.toNat * 128 ^ i)⟩) else tnumA most bad full (i + 1) (n + c.toNat % 128 * 128 ^ i) r
def tnum (most : Nat) (x : St) : Nat × St := tnumA most x.bad x.s 0 0 x.s
def tlist {α : Type} (f : St → α × St) : Nat → St → List α × St
  | 0, x => ([], x)
  | n + 1, x => if x.bad = true then ([], x) else ((f x).1 :: (tlist f n (f x).2).1, (tlist f n (f x).2).2)
def trange (x : St) : Rg × St := (((tnum 4194304 x).1, (tnum 4194304 (tnum 4194304 x).2).1), (tnum 4194304 (tnum 4194304 x).2).2)
def tset (x : St) : List Rg × St := tlist trange (tnum 4194304 x).1 (tnum 4194304 x).2
def tins (x : St) : I3 × St := (⟨(tnum 9 x).1, (tnum 4194304 (tnum 9 x).2).1, (tnum 4194304 (tnum 4194304 (tnum 9 x).2).2).1⟩, (tnum 4194304 (tnum 4194304 (tnum 9 x).2).2).2)
def tsets (x : St) : List (List Rg) × St := tlist tset (tnum 2000 x).1 (tnum 2000 x).2
def tinss (x : St) : List I3 × St := tlist tins (tnum 2000 x).1 (tnum 2000 x).2
def tcode (x : St) : CodeP × St := (⟨(tsets x).1, (tinss (tsets x).2).1⟩, (tinss (tsets x).2).2)
def tbit (x : St) : Bool × St := (decide ((tnum 1 x).1 = 1), (tnum 1 x).2)
def tpair (x : St) : PairP × St := (⟨(tbit x).1, (tcode (tbit x).2).1, (tcode (tcode (tbit x).2).2).1⟩, (tcode (tcode (tbit x).2).2).2)
def trules (x : St) : List PairP × St := tlist tpair (tnum 20 x).1 (tnum 20 x).2
def tprog (x : St) : ProgP × St := (⟨(trules (tbit x).2).1, (tbit x).1⟩, (trules (tbit x).2).2)
def refParse (s : List UInt8) : Option ProgP :=
  if s.length < 4 then none
  else if (tprog ⟨s.take (s.length - 4), false⟩).2.bad = true ∨ (tprog ⟨s.take (s.length - 4), false⟩).2.s ≠ [] then none
  else if progRight (tprog ⟨s.take (s.length - 4), false⟩).1 = true ∧ writeB (tprog ⟨s.take (s.length - 4), false⟩).1 = s then some (tprog ⟨s.take (s.length - 4), false⟩).1 else none

theorem tnumA_back (most : Nat) (full : List UInt8) : ∀ (k i n m : Nat) (rest : List UInt8), i + k = 6 → m < 128 ^ k → 1 ≤ k → n + m * 128 ^ i ≤ most → tnumA most false full i n (numB m ++ rest) = (n + m * 128 ^ i, ⟨rest, false⟩)
  | 0, _, _, _, _, _, _, h, _ => absurd h (by omega)
  | k + 1, i, n, m, rest, hi, hm, _, hmost => by
    by_cases h : m < 128
    · rw [numB_lt h, List.singleton_append, tnumA, if_neg (by omega), bt_toNat (by omega), if_pos h]
      rw [decide_eq_false (by omega)]
      rfl
    · rw [numB_ge h, List.cons_append, tnumA, if_neg (by omega), bt_toNat (by omega), if_neg (by omega)]
      have hk : 1 ≤ k := by
        rcases Nat.eq_zero_or_pos k with hk | hk
        · subst hk; simp at hm; omega
        · exact hk
      have hm2 : m / 128 < 128 ^ k := by rw [Nat.pow_succ] at hm; exact Nat.div_lt_of_lt_mul (by rw [Nat.mul_comm]; exact hm)
      have e : m * 128 ^ i = m % 128 * 128 ^ i + m / 128 * (128 ^ i * 128) := by
        rw [Nat.mul_comm (128 ^ i) 128, ← Nat.mul_assoc, ← Nat.add_mul]
        congr 1
        omega
      rw [show (m % 128 + 128) % 128 = m % 128 by omega]
      rw [tnumA_back most full k (i + 1) _ (m / 128) rest (by omega) hm2 hk (by rw [Nat.pow_succ]; omega)]
      congr 1
      rw [Nat.pow_succ]
      omega
theorem tnum_back {most n : Nat} (h : n ≤ most) (h2 : n < 4398046511104) (rest : List UInt8) : tnum most ⟨numB n ++ rest, false⟩ = (n, ⟨rest, false⟩) := by
  have := tnumA_back most (numB n ++ rest) 6 0 0 n rest rfl (by simpa using h2) (by omega) (by simpa using h)
  unfold tnum
  rw [this]
  simp
theorem tbit_back (b : Bool) : Back tbit bitB b := fun rest => by
  have h : ∀ n, n = 0 ∨ n = 1 → tbit ⟨numB n ++ rest, false⟩ = (decide (n = 1), ⟨rest, false⟩) := fun n hn => by
    unfold tbit
    rw [tnum_back (by omega) (by omega) rest]
  cases b with
  | true => have := h 1 (.inr rfl); rw [numB_lt (by omega)] at this; exact this
  | false => have := h 0 (.inl rfl); rw [numB_lt (by omega)] at this; exact this
theorem tlist_back {α : Type} {f : St → α × St} {enc : α → List UInt8} : ∀ (l : List α), (∀ v ∈ l, Back f enc v) → ∀ rest, tlist f l.length ⟨l.flatMap enc ++ rest, false⟩ = (l, ⟨rest, false⟩)
  | [], _, rest => rfl
  | v :: l, h, rest => by
    simp only [List.length_cons, tlist, List.flatMap_cons, List.append_assoc]
    rw [if_neg (by simp), h v (by simp)]
    simp only
    rw [tlist_back l (fun u hu => h u (by simp [hu])) rest]
theorem tmany_back {α : Type} {most : Nat} {f : St → α × St} {enc : α → List UInt8} {l : List α} (hl : l.length ≤ most) (hl2 : l.length < 4398046511104) (h : ∀ v ∈ l, Back f enc v) (rest : List UInt8) :
    tlist f (tnum most ⟨numB l.length ++ (l.flatMap enc ++ rest), false⟩).1 (tnum most ⟨numB l.length ++ (l.flatMap enc ++ rest), false⟩).2 = (l, ⟨rest, false⟩) := by
  rw [tnum_back hl hl2]
  exact tlist_back l h rest
theorem trange_back {r : Rg} (h1 : 0 ≤ r.1 ∧ r.1 ≤ 1114111) (h2 : 0 ≤ r.2 ∧ r.2 ≤ 1114111) : Back trange rangeB r := fun rest => by
  simp only [trange, rangeB, List.append_assoc]
  rw [tnum_back (n := r.1.toNat) (by omega) (by omega)]
  simp only
  rw [tnum_back (n := r.2.toNat) (by omega) (by omega)]
  obtain ⟨a, b⟩ := r
  simp only at h1 h2 ⊢
  rw [Int.toNat_of_nonneg h1.1, Int.toNat_of_nonneg h2.1]
theorem tset_back {s : List Rg} (hs : setRight (-2) s = true) (hl : s.length ≤ 4194304) : Back tset setB s := fun rest => by
  have hr : ∀ r ∈ s, Back trange rangeB r := fun r hr => by
    obtain ⟨i, hi⟩ := List.getElem?_of_mem hr
    obtain ⟨h1, h2, h3, _⟩ := setRight_sorted s (-2) hs i r hi
    exact trange_back (by omega) (by omega)
  have := tmany_back (most := 4194304) hl (by omega) hr rest
  simp only [setB, List.append_assoc]
  exact this
theorem tins_back {x : I3} {s n : Int} (hx : insRight x s n = true) (hs : s ≤ 2000) (hn : n ≤ 2000) : Back tins insB x := fun rest => by
  have hr := insRight_cases hx
  have hb : (0 ≤ x.op ∧ x.op ≤ 5) ∧ (0 ≤ x.a ∧ x.a ≤ 2000) ∧ (0 ≤ x.b ∧ x.b ≤ 2000) := by omega
  simp only [tins, insB, List.append_assoc]
  rw [tnum_back (n := x.op.toNat) (by omega) (by omega)]
  simp only
  rw [tnum_back (n := x.a.toNat) (by omega) (by omega)]
  simp only
  rw [tnum_back (n := x.b.toNat) (by omega) (by omega)]
  obtain ⟨o, a, b⟩ := x
  simp only at hb ⊢
  rw [Int.toNat_of_nonneg hb.1.1, Int.toNat_of_nonneg hb.2.1.1, Int.toNat_of_nonneg hb.2.2.1]
theorem tcode_back {c : CodeP} (h : codeRight c = true) (hl : ∀ s ∈ c.sets, s.length ≤ 4194304) : Back tcode codeB c := fun rest => by
  have hc := CR.of h
  have h1 := tmany_back (most := 2000) (f := tset) (enc := setB) (l := c.sets) hc.sets (by have := hc.sets; omega) (fun s hs => tset_back (hc.set s hs) (hl s hs)) (numB c.ins.length ++ (c.ins.flatMap insB ++ rest))
  have h2 := tmany_back (most := 2000) (f := tins) (enc := insB) (l := c.ins) hc.many (by have := hc.many; omega) (fun x hx => by
    obtain ⟨i, hi⟩ := List.getElem?_of_mem hx
    exact tins_back (hc.ins i x hi) (by have := hc.sets; omega) (by have := hc.many; omega)) rest
  simp only [tcode, tsets, tinss, codeB, List.append_assoc]
  rw [h1]
  simp only
  rw [h2]
def progLen2 (p : ProgP) : Prop := ∀ r ∈ p.rules, (∀ s ∈ r.before.sets, s.length ≤ 4194304) ∧ ∀ s ∈ r.after.sets, s.length ≤ 4194304
theorem tpair_back {r : PairP} (h1 : codeRight r.before = true) (h2 : codeRight r.after = true) (l1 : ∀ s ∈ r.before.sets, s.length ≤ 4194304) (l2 : ∀ s ∈ r.after.sets, s.length ≤ 4194304) : Back tpair pairB r := fun rest => by
  have e1 := tbit_back r.brk (codeB r.before ++ (codeB r.after ++ rest))
  have e2 := tcode_back h1 l1 (codeB r.after ++ rest)
  have e3 := tcode_back h2 l2 rest
  simp only [tpair, pairB, List.append_assoc]
  rw [e1]
  simp only
  rw [e2]
  simp only
  rw [e3]
theorem tprog_back {p : ProgP} (h : progRight p = true) (hl : progLen2 p) : Back tprog progB p := fun rest => by
  obtain ⟨h1, h2⟩ := progRight_spec h
  have e1 := tbit_back p.els (numB p.rules.length ++ (p.rules.flatMap pairB ++ rest))
  have e2 := tmany_back (most := 20) (f := tpair) (enc := pairB) (l := p.rules) h1 (by omega) (fun r hr => tpair_back (h2 r hr).1 (h2 r hr).2 (hl r hr).1 (hl r hr).2) rest
  simp only [tprog, trules, progB, List.append_assoc]
  rw [e1]
  simp only
  rw [e2]

theorem mem_len {α : Type} {f : α → List UInt8} {l : List α} {x : α} (h : x ∈ l) : (f x).length ≤ (l.flatMap f).length := by
  induction l with
  | nil => cases h
  | cons y l ih =>
    simp only [List.flatMap_cons, List.length_append]
    rcases List.mem_cons.1 h with rfl | h
    · omega
    · have := ih h; omega
/-- What is written in few bytes is little. -/
theorem lens_of {p : ProgP} {n : Nat} (h : (progB p).length ≤ n) : p.rules.length ≤ n ∧ ∀ r ∈ p.rules, (r.before.sets.length ≤ n ∧ r.before.ins.length ≤ n ∧ ∀ s ∈ r.before.sets, s.length ≤ n) ∧ (r.after.sets.length ≤ n ∧ r.after.ins.length ≤ n ∧ ∀ s ∈ r.after.sets, s.length ≤ n) := by
  have hc : ∀ c : CodeP, (codeB c).length ≤ n → c.sets.length ≤ n ∧ c.ins.length ≤ n ∧ ∀ s ∈ c.sets, s.length ≤ n := fun c hcn => by
    simp only [codeB, List.length_append] at hcn
    have h1 := flatMap_len setB_pos c.sets
    have h2 := flatMap_len insB_pos c.ins
    refine ⟨by omega, by omega, fun s hs => ?_⟩
    have h3 := mem_len (f := setB) hs
    have h4 := flatMap_len rangeB_pos s
    have h5 : (setB s).length = (numB s.length).length + (s.flatMap rangeB).length := by simp only [setB, List.length_append]
    omega
  simp only [progB, List.length_append] at h
  have h1 := flatMap_len pairB_pos p.rules
  refine ⟨by omega, fun r hr => ?_⟩
  have h2 := mem_len (f := pairB) hr
  have h3 : (pairB r).length = (bitB r.brk).length + (codeB r.before).length + (codeB r.after).length := by simp only [pairB, List.length_append]
  exact ⟨hc _ (by omega), hc _ (by omega)⟩

/-- The two readings are one. -/
theorem refParse_eq {s : List UInt8} (hs : s.length < 1000000) : refParse s = parseP s := by
  have hwl : ∀ q, writeB q = s → (progB q).length ≤ s.length := fun q hq => by
    have := congrArg List.length hq
    simp only [writeB, List.length_append, sumB_len] at this
    omega
  cases hp : parseP s with
  | some q =>
    obtain ⟨h1, h2⟩ := write_parse hp
    have hq := hwl q h2
    have hl := lens_of hq
    have h4 : ¬ s.length < 4 := by have := congrArg List.length h2; simp only [writeB, List.length_append, sumB_len] at this; omega
    have ht : s.take (s.length - 4) = progB q := by
      have hlen : s.length - 4 = (progB q).length := by have := congrArg List.length h2; simp only [writeB, List.length_append, sumB_len] at this; omega
      rw [hlen]
      conv => lhs; rw [← h2]
      simp [writeB]
    have hb := tprog_back h1 (fun r hr => ⟨fun s' hs' => by have := (hl.2 r hr).1.2.2 s' hs'; omega, fun s' hs' => by have := (hl.2 r hr).2.2.2 s' hs'; omega⟩) []
    rw [List.append_nil] at hb
    unfold refParse
    rw [if_neg h4, ht, hb]
    simp only
    rw [if_neg (by simp), if_pos ⟨h1, h2⟩]
  | none =>
    cases hr : refParse s with
    | none => rfl
    | some q =>
      unfold refParse at hr
      split at hr
      · cases hr
      · split at hr
        · cases hr
        · split at hr
          · rename_i hg
            simp only [Option.some.injEq] at hr
            rw [hr] at hg
            have hl := lens_of (hwl q hg.2)
            have := parse_write hg.1 (fun r hrm => ⟨fun s' hs' => by have := (hl.2 r hrm).1.2.2 s' hs'; omega, fun s' hs' => by have := (hl.2 r hrm).2.2.2 s' hs'; omega⟩)
            rw [hg.2, hp] at this
            cases this
          · cases hr

/-- The document's sum. -/
def rsumGo : Nat → Nat → List UInt8 → Nat × Nat
  | a, b, [] => (a, b)
  | a, b, c :: s => rsumGo (a + c.toNat) (b + (a + c.toNat) % 65521) s
theorem rsum_eq : ∀ (s : List UInt8) (a b a' b' : Nat), a' = a % 65521 → b' = b % 65521 → (sumGo a' b' s) = ((rsumGo a b s).1 % 65521, (rsumGo a b s).2 % 65521)
  | [], a, b, a', b', ha, hb => by subst ha hb; rfl
  | c :: s, a, b, a', b', ha, hb => by
    rw [sumGo, rsumGo]
    refine rsum_eq s _ _ _ _ ?_ ?_ <;> subst ha hb <;> omega
theorem rsum_lt : ∀ (s : List UInt8) (a b : Nat), (rsumGo a b s).1 ≤ a + 255 * s.length ∧ (rsumGo a b s).2 ≤ b + 65520 * s.length
  | [], a, b => ⟨Nat.le_refl _, Nat.le_refl _⟩
  | c :: s, a, b => by
    have hc : c.toNat < 256 := c.toNat_lt
    have := rsum_lt s (a + c.toNat) (b + (a + c.toNat) % 65521)
    rw [rsumGo]
    simp only [List.length_cons]
    omega
end Cae
