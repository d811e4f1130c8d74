import Derived.Test.YtplbgmoeannobaaGreatDoorPpar
import Derived.Test.YtplbgmoeannobaaGreatDoorPtold
import Derived.Lib.CountLaws
import Derived.Lib.Split
import Derived.Lib.IndexBytes
import Derived.Lib.SlTrimSet
import Derived.Shelf.Strings.FieldsAny
set_option linter.unusedSimpArgs false
set_option linter.unusedVariables false
namespace Cae

/-! A set's text, as the reference reads it: by the library's Trim, Fields, SplitN. -/
theorem fieldsGoD_count : ∀ (f : Nat) (cur l : List UInt8), (Go.Lib.fieldsGoD f cur l).length ≤ f + 1
  | 0, cur, l => by rw [Go.Lib.fieldsGoD]; split <;> simp
  | f + 1, cur, l => by
    have h1 := fieldsGoD_count f [] (l.drop (Go.Lib.decodeL l).2)
    have h2 := fieldsGoD_count f (cur ++ l.take (Go.Lib.decodeL l).2) (l.drop (Go.Lib.decodeL l).2)
    rw [Go.Lib.fieldsGoD]
    split
    · split <;> simp
    · split
      · rw [List.length_append]; split <;> simp <;> omega
      · omega
theorem fieldsGoD_size : ∀ (f : Nat) (cur l x : List UInt8), x ∈ Go.Lib.fieldsGoD f cur l → x.length ≤ cur.length + l.length
  | 0, cur, l, x, h => by
    rw [Go.Lib.fieldsGoD] at h
    split at h
    · cases h
    · rw [List.mem_singleton.1 h]; omega
  | f + 1, cur, l, x, h => by
    rw [Go.Lib.fieldsGoD] at h
    split at h
    · split at h
      · cases h
      · rw [List.mem_singleton.1 h]; omega
    · split at h
      · rcases List.mem_append.1 h with h | h
        · split at h
          · cases h
          · rw [List.mem_singleton.1 h]; omega
        · have := fieldsGoD_size f _ _ x h
          rw [List.length_drop] at this
          simp at this; omega
      · have := fieldsGoD_size f _ _ x h
        rw [List.length_append, List.length_take, List.length_drop] at this
        omega
theorem fieldsD_count (l : List UInt8) : (Go.Lib.fieldsD l).length ≤ l.length + 2 := fieldsGoD_count _ _ _
theorem fieldsD_size {l x : List UInt8} (h : x ∈ Go.Lib.fieldsD l) : x.length ≤ l.length := by
  have := fieldsGoD_size _ _ _ _ h
  simpa using this
theorem fieldsGo_word : ∀ (x cur rest : List UInt8), (∀ b ∈ x, Go.Lib.isSp b = false) → Go.Lib.fieldsGo cur (x ++ rest) = Go.Lib.fieldsGo (cur ++ x) rest
  | [], cur, rest, _ => by simp
  | b :: x, cur, rest, h => by
    rw [List.cons_append, Go.Lib.fieldsGo_more _ _ _ (h b (by simp)), fieldsGo_word x _ _ (fun c hc => h c (by simp [hc]))]
    simp
theorem fields_join : ∀ (l : List (List UInt8)), (∀ x ∈ l, x ≠ [] ∧ ∀ b ∈ x, Go.Lib.isSp b = false) → Go.Lib.fields (Go.Lib.join l [32]) = l
  | [], _ => rfl
  | [x], h => by
    have hx := h x (by simp)
    unfold Go.Lib.fields
    rw [Go.Lib.join_one, ← List.append_nil x, fieldsGo_word x [] [] hx.2]
    unfold Go.Lib.fieldsGo
    rw [List.nil_append, if_neg (by simpa using hx.1), List.append_nil]
  | x :: y :: l, h => by
    have hx := h x (by simp)
    have e : Go.Lib.join (x :: y :: l) [32] = x ++ 32 :: Go.Lib.join (y :: l) [32] := by
      rw [Go.Lib.join_cons, Go.Lib.join_cons]
      simp [Go.Lib.joinTail]
    have ih := fields_join (y :: l) (fun z hz => h z (by simp at hz ⊢; exact .inr hz))
    unfold Go.Lib.fields at ih ⊢
    rw [e, fieldsGo_word x [] _ hx.2, List.nil_append, Go.Lib.fieldsGo_end x 32 _ (by decide) hx.1, ih]
theorem hex_plain : ∀ b : UInt8, isHex b = true → Go.Lib.isSp b = false ∧ b.toNat < 128 ∧ b ≠ 91 ∧ b ≠ 93 := by
  intro b h
  unfold isHex at h
  unfold Go.Lib.isSp
  simp only [Bool.or_eq_true, Bool.and_eq_true, decide_eq_true_eq] at h
  have hne : ∀ k : Nat, k < 48 ∨ k = 91 ∨ k = 93 → b ≠ UInt8.ofNat k := by
    intro k hk e
    have := congrArg UInt8.toNat e
    rw [UInt8.toNat_ofNat'] at this
    omega
  have h9 := hne 9 (by omega); have h10 := hne 10 (by omega); have h11 := hne 11 (by omega); have h12 := hne 12 (by omega); have h13 := hne 13 (by omega); have h32 := hne 32 (by omega)
  refine ⟨?_, by omega, hne 91 (by omega), hne 93 (by omega)⟩
  simp only [Bool.or_eq_false_iff, beq_eq_false_iff_ne]
  exact ⟨⟨⟨⟨⟨h9, h10⟩, h11⟩, h12⟩, h13⟩, h32⟩
theorem rgP_plain {r : Rg} (h0 : 0 ≤ r.1) (h1 : r.1 < 4294967296) (h2 : r.2 < 4294967296) : ∀ b ∈ rgP r, Go.Lib.isSp b = false ∧ b.toNat < 128 ∧ b ≠ 91 ∧ b ≠ 93 := by
  intro b hb
  unfold rgP at hb
  rcases List.mem_append.1 hb with hb | hb
  · exact hex_plain b (hexP_all (by omega) b hb)
  · split at hb
    · rcases List.mem_cons.1 hb with rfl | hb
      · decide
      · exact hex_plain b (hexP_all (by omega) b hb)
    · cases hb
theorem join_plain {P : UInt8 → Prop} (h32 : P 32) : ∀ (l : List (List UInt8)), (∀ x ∈ l, ∀ b ∈ x, P b) → ∀ b ∈ Go.Lib.join l [32], P b
  | [], _, b, hb => by cases hb
  | [x], h, b, hb => by
    rw [Go.Lib.join_one] at hb
    exact h x (by simp) b hb
  | x :: y :: l, h, b, hb => by
    have e : Go.Lib.join (x :: y :: l) [32] = x ++ 32 :: Go.Lib.join (y :: l) [32] := by
      rw [Go.Lib.join_cons, Go.Lib.join_cons]
      simp [Go.Lib.joinTail]
    rw [e] at hb
    rcases List.mem_append.1 hb with hb | hb
    · exact h x (by simp) b hb
    · rcases List.mem_cons.1 hb with rfl | hb
      · exact h32
      · exact join_plain h32 (y :: l) (fun z hz => h z (by simp at hz ⊢; exact .inr hz)) b hb
theorem body_plain {l : List Rg} (h : setRight (-2) l = true) : ∀ b ∈ bodyP l, b.toNat < 128 ∧ b ≠ 91 ∧ b ≠ 93 := by
  refine join_plain (by decide) _ fun x hx b hb => ?_
  obtain ⟨q, hq, rfl⟩ := List.mem_map.1 hx
  have := mem_right (by omega) h q hq
  exact (rgP_plain (by omega) (by omega) (by omega) b hb).2
theorem fields_body {l : List Rg} (h : setRight (-2) l = true) : Go.Lib.fieldsD (bodyP l) = l.map rgP := by
  rw [Go.Lib.fieldsD_ascii _ fun b hb => (body_plain h b hb).1]
  refine fields_join _ fun x hx => ?_
  obtain ⟨q, hq, rfl⟩ := List.mem_map.1 hx
  have := mem_right (by omega) h q hq
  exact ⟨rgP_ne q, fun b hb => (rgP_plain (by omega) (by omega) (by omega) b hb).1⟩
theorem dropWhile_stop {cs : List UInt8} : ∀ {l : List UInt8} {c : UInt8} {r : List UInt8}, (∀ b ∈ l, b ∈ cs) → c ∉ cs → (l ++ c :: r).dropWhile (cs.contains ·) = c :: r
  | [], c, r, _, hc => by
    rw [List.nil_append, List.dropWhile_cons, if_neg (by simpa using hc)]
  | b :: l, c, r, h, hc => by
    rw [List.cons_append, List.dropWhile_cons, if_pos (by simpa using h b (by simp))]
    exact dropWhile_stop (fun x hx => h x (by simp [hx])) hc
theorem trim_body {l : List Rg} (h : setRight (-2) l = true) : Go.Lib.trimS (printP l) [91, 93] = bodyP l := by
  have hb := body_plain h
  have e : printP l = 91 :: (bodyP l ++ [93]) := rfl
  rw [e]
  generalize bodyP l = s at hb ⊢
  unfold Go.Lib.trimS Go.Lib.trimRightS Go.Lib.trimLeftS
  rcases List.eq_nil_or_concat s with rfl | ⟨m, c, rfl⟩
  · rfl
  · rw [List.concat_eq_append] at *
    have hc : c ∉ [(91 : UInt8), 93] := by have := hb c (by simp); simp [this.2.1, this.2.2]
    have hr : (91 :: ((m ++ [c]) ++ [93])).reverse = [93] ++ c :: (m.reverse ++ [91]) := by simp
    rw [hr, dropWhile_stop (by simp) hc]
    have hrr : (c :: (m.reverse ++ [91])).reverse = [91] ++ (m ++ [c]) := by simp
    rw [hrr]
    cases m with
    | nil => exact dropWhile_stop (by simp) hc
    | cons d m =>
      have hd : d ∉ [(91 : UInt8), 93] := by have := hb d (by simp); simp [this.2.1, this.2.2]
      exact dropWhile_stop (by simp) hd
theorem trimS_len (s cs : List UInt8) : (Go.Lib.trimS s cs).length ≤ s.length := by
  have dw : ∀ (p : UInt8 → Bool) (l : List UInt8), (l.dropWhile p).length ≤ l.length := fun p l => (List.dropWhile_sublist p).length_le
  unfold Go.Lib.trimS Go.Lib.trimRightS Go.Lib.trimLeftS
  refine Nat.le_trans (dw _ _) ?_
  rw [List.length_reverse]
  refine Nat.le_trans (dw _ _) ?_
  rw [List.length_reverse]
  exact Nat.le_refl _
/-- One cut. -/
theorem splitK_cut {c : UInt8} {k : Nat} {a r : List UInt8} (h : a.contains c = false) : Go.Lib.splitK [c] 0 (k + 1) (a ++ c :: r) = a :: Go.Lib.splitK [c] 0 k r := by
  have hi := ib_spec c (a ++ c :: r)
  have hc : (a ++ c :: r).contains c = true := by rw [contains_app]; simp
  rw [if_pos hc, (tw_app h).1, ← Go.Lib.index_one] at hi
  rw [Go.Lib.splitK, if_neg (by rw [hi]; simp; try omega), hi, Int.toNat_natCast, Nat.add_zero, List.take_left]
  congr 2
  rw [List.length_singleton, ← List.drop_drop, List.drop_left]
  rfl
theorem splitK_none {c : UInt8} {k : Nat} {a : List UInt8} (h : a.contains c = false) : Go.Lib.splitK [c] 0 k a = [a] := by
  cases k with
  | zero => rfl
  | succ k =>
    have hi := ib_spec c a
    rw [h, if_neg (by simp), ← Go.Lib.index_one] at hi
    rw [Go.Lib.splitK, hi]
    rfl
theorem splitK_size {c : UInt8} : ∀ (k : Nat) (s x : List UInt8), x ∈ Go.Lib.splitK [c] 0 k s → x.length ≤ s.length
  | 0, s, x, h => by rw [List.mem_singleton.1 h]; exact Nat.le_refl _
  | k + 1, s, x, h => by
    rw [Go.Lib.splitK] at h
    split at h
    · rw [List.mem_singleton.1 h]; exact Nat.le_refl _
    · rcases List.mem_cons.1 h with rfl | h
      · rw [List.length_take]; omega
      · have := splitK_size k _ x h
        rw [List.length_drop] at this; omega
/-- What a piece is cut into: lo, hi, and what is left. -/
def piecesR (t : List UInt8) : List (List UInt8) := Go.Lib.splitK [45] 0 (min 3 ((t ++ 45 :: t).length + 1) - 1) (t ++ 45 :: t)
theorem splitK_ne {c : List UInt8} (k : Nat) (s : List UInt8) : ∃ b r, Go.Lib.splitK c 0 k s = b :: r := by
  cases k with
  | zero => exact ⟨_, _, rfl⟩
  | succ k => rw [Go.Lib.splitK]; split <;> exact ⟨_, _, rfl⟩
theorem pieces_two (t : List UInt8) : ∃ a b r, piecesR t = a :: b :: r ∧ a.length ≤ 2 * t.length + 1 ∧ b.length ≤ 2 * t.length + 1 := by
  have hs : ∀ x ∈ piecesR t, x.length ≤ 2 * t.length + 1 := fun x hx => by
    have := splitK_size _ _ x hx
    rw [List.length_append, List.length_cons] at this; omega
  have key : ∃ a b r, piecesR t = a :: b :: r := by
    unfold piecesR
    have hc : (t ++ 45 :: t).contains (45 : UInt8) = true := by rw [contains_app]; simp
    have hi := ib_spec 45 (t ++ 45 :: t)
    rw [if_pos hc, ← Go.Lib.index_one] at hi
    have hk : ∃ k, min 3 ((t ++ 45 :: t).length + 1) - 1 = k + 1 := ⟨min 3 ((t ++ 45 :: t).length + 1) - 2, by rw [List.length_append, List.length_cons]; omega⟩
    obtain ⟨k, hk⟩ := hk
    rw [hk, Go.Lib.splitK, if_neg (by rw [hi]; simp; try omega)]
    obtain ⟨b, r, e⟩ := splitK_ne (c := [45]) k ((t ++ 45 :: t).drop ((Go.Lib.index (t ++ 45 :: t) [45]).toNat + [(45 : UInt8)].length))
    exact ⟨_, b, r, by rw [e]⟩
  obtain ⟨a, b, r, e⟩ := key
  exact ⟨a, b, r, e, hs a (by rw [e]; simp), hs b (by rw [e]; simp)⟩
theorem pieces_rg {r : Rg} (h0 : 0 ≤ r.1) (h1 : r.1 < 4294967296) (h2 : r.2 < 4294967296) (hle : r.1 ≤ r.2) : ∃ m, piecesR (rgP r) = hexP r.1.toNat :: hexP r.2.toNat :: m := by
  have hn := hex_no (n := r.1.toNat) (c := 45) (by omega) (by rfl)
  have hn2 := hex_no (n := r.2.toNat) (c := 45) (by omega) (by rfl)
  have hpos := List.length_pos_iff.2 (rgP_ne r)
  have hk : min 3 ((rgP r ++ 45 :: rgP r).length + 1) - 1 = 2 := by rw [List.length_append, List.length_cons]; omega
  unfold piecesR
  rw [hk]
  clear hk hpos
  unfold rgP
  by_cases hlt : r.1 < r.2
  · rw [if_pos hlt, List.append_assoc, List.cons_append, splitK_cut hn, splitK_cut hn2]
    exact ⟨_, rfl⟩
  · rw [if_neg hlt, List.append_nil, splitK_cut hn, splitK_none hn]
    have e : r.2 = r.1 := by omega
    rw [e]
    exact ⟨_, rfl⟩
end Cae
