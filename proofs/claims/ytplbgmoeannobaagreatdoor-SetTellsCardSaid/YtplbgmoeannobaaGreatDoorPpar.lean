import Derived.Test.YtplbgmoeannobaaGreatDoorSprint
import Derived.Test.YtplbgmoeannobaaGreatDoorCut
import Derived.Test.YtplbgmoeannobaaGreatDoorPint
set_option linter.unusedSimpArgs false
set_option linter.unusedVariables false
namespace Cae
/-- A set that is written so. -/
def PrintOf (s : List UInt8) (l : List Rg) : Prop := setRight (-2) l = true ∧ printP l = s
theorem hex_no {n : Nat} (hn : n < 4294967296) {c : UInt8} (hc : isHex c = false) : (hexP n).contains c = false := by
  cases h : (hexP n).contains c with
  | false => rfl
  | true =>
    have hm : c ∈ hexP n := by simpa using h
    have := hexP_all hn c hm
    rw [hc] at this; cases this
theorem contains_app (a b : List UInt8) (c : UInt8) : (a ++ b).contains c = (a.contains c || b.contains c) := by
  induction a with
  | nil => simp
  | cons x a ih => rw [List.cons_append, List.contains_cons, List.contains_cons, ih, Bool.or_assoc]
theorem rgP_no {r : Rg} (h0 : 0 ≤ r.1) (h1 : r.1 < 4294967296) (h2 : r.2 < 4294967296) : (rgP r).contains 32 = false := by
  unfold rgP
  rw [contains_app, hex_no (by omega) (by rfl)]
  split
  · rw [List.contains_cons, hex_no (by omega) (by rfl)]; rfl
  · rfl
theorem rgP_ne (r : Rg) : rgP r ≠ [] := by
  unfold rgP
  intro h
  exact hexP_ne _ (List.append_eq_nil_iff.1 h).1
theorem tw_app {c : UInt8} : ∀ {a b : List UInt8}, a.contains c = false → (a ++ c :: b).takeWhile (· != c) = a ∧ (a ++ c :: b).dropWhile (· != c) = c :: b
  | [], b, _ => by simp
  | x :: a, b, h => by
    rw [List.contains_cons, Bool.or_eq_false_iff] at h
    have h1 : (x != c) = true := by have := h.1; simp at this; simp; exact fun e => this e.symm
    have ih := tw_app (b := b) h.2
    rw [List.cons_append, List.takeWhile_cons, List.dropWhile_cons, if_pos h1, if_pos h1, ih.1, ih.2]
    exact ⟨rfl, rfl⟩
theorem split_no {c : UInt8} {a : List UInt8} (h : a.contains c = false) : splitB c a = [a] := by
  rw [splitB_eq, h, tw_all h]; rfl
theorem split_app {c : UInt8} {a b : List UInt8} (h : a.contains c = false) : splitB c (a ++ c :: b) = a :: splitB c b := by
  rw [splitB_eq, (tw_app h).1, (tw_app h).2]
  have : (a ++ c :: b).contains c = true := by rw [contains_app]; simp
  rw [if_pos this]; rfl
theorem split_join {c : UInt8} : ∀ (x : List UInt8) (l : List (List UInt8)), (∀ p ∈ x :: l, p.contains c = false) → splitB c (Go.Lib.join (x :: l) [c]) = x :: l
  | x, [], h => by rw [Go.Lib.join_one]; exact split_no (h x (by simp))
  | x, y :: l, h => by
    have e : Go.Lib.join (x :: y :: l) [c] = x ++ c :: Go.Lib.join (y :: l) [c] := by
      rw [Go.Lib.join_cons, Go.Lib.join_cons]
      simp [Go.Lib.joinTail]
    rw [e, split_app (h x (by simp)), split_join y l (fun p hp => h p (List.mem_cons_of_mem _ hp))]
theorem cut_rg {r : Rg} (h0 : 0 ≤ r.1) (h1 : r.1 < 4294967296) (h2 : r.2 < 4294967296) (hlt : r.1 < r.2) : cutP 45 (rgP r) = (hexP r.1.toNat, hexP r.2.toNat, true) := by
  have hn := hex_no (n := r.1.toNat) (c := 45) (by omega) (by rfl)
  have e : rgP r = hexP r.1.toNat ++ 45 :: hexP r.2.toNat := by unfold rgP; rw [if_pos hlt]
  unfold cutP
  rw [e, (tw_app hn).1, (tw_app hn).2, contains_app]
  simp
theorem cut_rg1 {r : Rg} (h0 : 0 ≤ r.1) (h1 : r.1 < 4294967296) (hlt : ¬ r.1 < r.2) : cutP 45 (rgP r) = (hexP r.1.toNat, [], false) := by
  have hn := hex_no (n := r.1.toNat) (c := 45) (by omega) (by rfl)
  have e : rgP r = hexP r.1.toNat := by unfold rgP; rw [if_neg hlt, List.append_nil]
  unfold cutP
  rw [e, hn]; rfl
theorem mem_right : ∀ {s : List Rg} {a : Int}, -2 ≤ a → setRight a s = true → ∀ r ∈ s, 0 ≤ r.1 ∧ r.1 ≤ r.2 ∧ r.2 ≤ 1114111
  | [], _, _, _ => fun r hr => by cases hr
  | q :: s, a, ha, h => by
    rw [setRight_con] at h
    intro r hr
    rcases List.mem_cons.1 hr with rfl | hr
    · omega
    · exact mem_right (by omega) h.2 r hr
/-- The text between [ and ]. -/
def bodyP (l : List Rg) : List UInt8 := Go.Lib.join (l.map rgP) [32]
theorem bodyP_nil {l : List Rg} (h : bodyP l = []) : l = [] := by
  cases l with
  | nil => rfl
  | cons r l =>
    unfold bodyP at h
    rw [List.map_cons, Go.Lib.join_cons] at h
    exact absurd (List.append_eq_nil_iff.1 h).1 (rgP_ne r)
theorem split_body {l : List Rg} (h : setRight (-2) l = true) (hne : bodyP l ≠ []) : splitB 32 (bodyP l) = l.map rgP := by
  cases l with
  | nil => exact absurd rfl hne
  | cons r l =>
    unfold bodyP
    rw [List.map_cons]
    refine split_join _ _ fun p hp => ?_
    rw [← List.map_cons] at hp
    obtain ⟨q, hq, rfl⟩ := List.mem_map.1 hp
    have := mem_right (by omega) h q hq
    exact rgP_no (by omega) (by omega) (by omega)
theorem print_pre {s : List UInt8} {l : List Rg} (h : PrintOf s l) : Go.Lib.hasPrefix s [91] = true ∧ Go.Lib.hasSuffix (Go.Lib.trimPrefix s [91]) [93] = true ∧ Go.Lib.trimSuffix (Go.Lib.trimPrefix s [91]) [93] = bodyP l := by
  obtain ⟨hr, rfl⟩ := h
  have h1 : Go.Lib.hasPrefix (printP l) [91] = true := by simp [Go.Lib.hasPrefix, printP]
  have h2 : Go.Lib.trimPrefix (printP l) [91] = bodyP l ++ [93] := by
    unfold Go.Lib.trimPrefix; rw [h1]; rfl
  have h3 : Go.Lib.hasSuffix (bodyP l ++ [93]) [93] = true := by
    unfold Go.Lib.hasSuffix
    rw [List.isSuffixOf_iff_suffix]
    exact ⟨bodyP l, rfl⟩
  rw [h2]
  refine ⟨h1, h3, ?_⟩
  unfold Go.Lib.trimSuffix
  rw [h3, if_pos rfl]
  simp
theorem print_inj {l l' : List Rg} (h : setRight (-2) l = true) (h' : setRight (-2) l' = true) (e : printP l = printP l') : l = l' := by
  have h1 := (print_pre ⟨h, rfl⟩).2.2
  have h2 := (print_pre ⟨h', rfl⟩).2.2
  rw [e, h2] at h1
  by_cases hb : bodyP l = []
  · rw [bodyP_nil hb, bodyP_nil (h1.trans hb)]
  · have s1 := split_body h hb
    have s2 := split_body h' (by rw [h1]; exact hb)
    rw [h1, s1] at s2
    have inj : ∀ (a b : List Rg), (∀ r ∈ a, 0 ≤ r.1 ∧ r.1 ≤ r.2 ∧ r.2 ≤ 1114111) → (∀ r ∈ b, 0 ≤ r.1 ∧ r.1 ≤ r.2 ∧ r.2 ≤ 1114111) → a.map rgP = b.map rgP → a = b := by
      intro a
      induction a with
      | nil => intro b _ _ hh; cases b with | nil => rfl | cons q b => cases hh
      | cons r a ih =>
        intro b ha hb hh
        cases b with
        | nil => cases hh
        | cons q b =>
          rw [List.map_cons, List.map_cons] at hh
          have hrq := List.cons.inj hh
          have hr := ha r (by simp)
          have hq := hb q (by simp)
          have : r = q := by
            have hc := congrArg (cutP 45) hrq.1
            by_cases l1 : r.1 < r.2 <;> by_cases l2 : q.1 < q.2
            · rw [cut_rg (by omega) (by omega) (by omega) l1, cut_rg (by omega) (by omega) (by omega) l2] at hc
              have c1 := hexP_inj (by omega) (by omega) (Prod.mk.inj hc).1
              have c2 := hexP_inj (by omega) (by omega) (Prod.mk.inj (Prod.mk.inj hc).2).1
              exact Prod.ext (by omega) (by omega)
            · rw [cut_rg (by omega) (by omega) (by omega) l1, cut_rg1 (by omega) (by omega) l2] at hc
              cases (Prod.mk.inj (Prod.mk.inj hc).2).2
            · rw [cut_rg1 (by omega) (by omega) l1, cut_rg (by omega) (by omega) (by omega) l2] at hc
              cases (Prod.mk.inj (Prod.mk.inj hc).2).2
            · rw [cut_rg1 (by omega) (by omega) l1, cut_rg1 (by omega) (by omega) l2] at hc
              have c1 := hexP_inj (by omega) (by omega) (Prod.mk.inj hc).1
              exact Prod.ext (by omega) (by omega)
          subst this
          rw [ih b (fun r hr => ha r (by simp [hr])) (fun r hr => hb r (by simp [hr])) hrq.2]
    exact inj l l' (mem_right (by omega) h) (mem_right (by omega) h') s2
theorem round_plain {body x : List UInt8} {pre : List (List UInt8)} {l : List Rg} (h : setRight (-2) l = true) (hb : body = bodyP l) (hne : body ≠ []) (hp : pre ++ [x] <+: splitB 32 body) : ∃ r, l[pre.length]? = some r ∧ x = rgP r ∧ 0 ≤ r.1 ∧ r.1 ≤ r.2 ∧ r.2 ≤ 1114111 := by
  subst hb
  rw [split_body h hne] at hp
  obtain ⟨rest, hr⟩ := hp
  have h1 : (l.map rgP)[pre.length]? = some x := by rw [← hr, List.append_assoc]; simp
  rw [List.getElem?_map] at h1
  cases hl : l[pre.length]? with
  | none => rw [hl] at h1; cases h1
  | some r =>
    rw [hl] at h1
    cases h1
    exact ⟨r, rfl, rfl, mem_right (by omega) h r (List.mem_of_getElem? hl)⟩
end Cae
