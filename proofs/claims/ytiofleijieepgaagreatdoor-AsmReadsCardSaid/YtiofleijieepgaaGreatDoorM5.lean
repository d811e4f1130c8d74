/- Texts of this claim, merged: Ptold, Pfld, Rfld, Rng, Spl, Pin2, Par, Al2. -/
import Derived.Test.YtiofleijieepgaaGreatDoorM4
import Derived.Lib.CountLaws
import Derived.Lib.Split
import Derived.Lib.IndexBytes
import Derived.Lib.SlTrimSet
import Derived.Shelf.Strings.FieldsAny
import Derived.Shelf.Strings.SlTrimAscii
import Derived.Shelf.Strings.Split
import Derived.Shelf.Unicode.PredsPay
import Derived.RangeFuncFrom
import Derived.LoopIn
import Derived.RangeFuncLeaves
import Derived.Shelf.Strconv.ToErrorRange
import Derived.Shelf.Strconv.ToError
import Derived.Test.YtiofleijieepgaaGreatDoorM3
section
set_option linter.unusedSimpArgs false
set_option linter.unusedVariables false
namespace Cae

/-- What is found up to a place. -/
structure ToldI (g : Int → Bool) (out : List Rg) (a : Int) : Prop where
  right : setRight (-2) out = true
  last : lastHi (-2) out + 1 ≤ a
  has : ∀ p, hasP out p = (decide (0 ≤ p ∧ p < a) && g p)
theorem ToldI.skip {g : Int → Bool} {out : List Rg} {a b : Int} (h : ToldI g out a) (hab : a ≤ b) (hg : ∀ p, a ≤ p → p < b → g p = false) : ToldI g out b := by
  refine ⟨h.right, by have := h.last; omega, fun p => ?_⟩
  rw [h.has]
  by_cases h1 : a ≤ p ∧ p < b
  · rw [hg p h1.1 h1.2, Bool.and_false, Bool.and_false]
  · congr 1
    apply decide_eq_decide.2
    omega
end Cae
end
section
set_option linter.unusedSimpArgs false
set_option linter.unusedVariables false
namespace Cae

/-! A set's text, as the reference reads it: by the library's Trim, Fields, SplitN. -/
theorem fieldsGoD_count : ∀ (f : Nat) (cur l : List UInt8), (Go.Lib.fieldsGoD f cur l).length ≤ f + 1
  | 0, cur, l => by rw [Go.Lib.fieldsGoD]; split <;> simp
  | f + 1, cur, l => by
    have h1 := fieldsGoD_count f [] (l.drop (Go.Lib.decodeL l).2)
    have h2 := fieldsGoD_count f (cur ++ l.take (Go.Lib.decodeL l).2) (l.drop (Go.Lib.decodeL l).2)
    rw [Go.Lib.fieldsGoD]
    split
    · split <;> simp
    · split
      · rw [List.length_append]; split <;> simp <;> omega
      · omega
theorem fieldsGoD_size : ∀ (f : Nat) (cur l x : List UInt8), x ∈ Go.Lib.fieldsGoD f cur l → x.length ≤ cur.length + l.length
  | 0, cur, l, x, h => by
    rw [Go.Lib.fieldsGoD] at h
    split at h
    · cases h
    · rw [List.mem_singleton.1 h]; omega
  | f + 1, cur, l, x, h => by
    rw [Go.Lib.fieldsGoD] at h
    split at h
    · split at h
      · cases h
      · rw [List.mem_singleton.1 h]; omega
    · split at h
      · rcases List.mem_append.1 h with h | h
        · split at h
          · cases h
          · rw [List.mem_singleton.1 h]; omega
        · have := fieldsGoD_size f _ _ x h
          rw [List.length_drop] at this
          simp at this; omega
      · have := fieldsGoD_size f _ _ x h
        rw [List.length_append, List.length_take, List.length_drop] at this
        omega
theorem fieldsD_count (l : List UInt8) : (Go.Lib.fieldsD l).length ≤ l.length + 2 := fieldsGoD_count _ _ _
theorem fieldsD_size {l x : List UInt8} (h : x ∈ Go.Lib.fieldsD l) : x.length ≤ l.length := by
  have := fieldsGoD_size _ _ _ _ h
  simpa using this
theorem fieldsGo_word : ∀ (x cur rest : List UInt8), (∀ b ∈ x, Go.Lib.isSp b = false) → Go.Lib.fieldsGo cur (x ++ rest) = Go.Lib.fieldsGo (cur ++ x) rest
  | [], cur, rest, _ => by simp
  | b :: x, cur, rest, h => by
    rw [List.cons_append, Go.Lib.fieldsGo_more _ _ _ (h b (by simp)), fieldsGo_word x _ _ (fun c hc => h c (by simp [hc]))]
    simp
theorem fields_join : ∀ (l : List (List UInt8)), (∀ x ∈ l, x ≠ [] ∧ ∀ b ∈ x, Go.Lib.isSp b = false) → Go.Lib.fields (Go.Lib.join l [32]) = l
  | [], _ => rfl
  | [x], h => by
    have hx := h x (by simp)
    unfold Go.Lib.fields
    rw [Go.Lib.join_one, ← List.append_nil x, fieldsGo_word x [] [] hx.2]
    unfold Go.Lib.fieldsGo
    rw [List.nil_append, if_neg (by simpa using hx.1), List.append_nil]
  | x :: y :: l, h => by
    have hx := h x (by simp)
    have e : Go.Lib.join (x :: y :: l) [32] = x ++ 32 :: Go.Lib.join (y :: l) [32] := by
      rw [Go.Lib.join_cons, Go.Lib.join_cons]
      simp [Go.Lib.joinTail]
    have ih := fields_join (y :: l) (fun z hz => h z (by simp at hz ⊢; exact .inr hz))
    unfold Go.Lib.fields at ih ⊢
    rw [e, fieldsGo_word x [] _ hx.2, List.nil_append, Go.Lib.fieldsGo_end x 32 _ (by decide) hx.1, ih]
theorem hex_plain : ∀ b : UInt8, isHex b = true → Go.Lib.isSp b = false ∧ b.toNat < 128 ∧ b ≠ 91 ∧ b ≠ 93 := by
  intro b h
  unfold isHex at h
  unfold Go.Lib.isSp
  simp only [Bool.or_eq_true, Bool.and_eq_true, decide_eq_true_eq] at h
  have hne : ∀ k : Nat, k < 48 ∨ k = 91 ∨ k = 93 → b ≠ UInt8.ofNat k := by
    intro k hk e
    have := congrArg UInt8.toNat e
    rw [UInt8.toNat_ofNat'] at this
    omega
  have h9 := hne 9 (by omega); have h10 := hne 10 (by omega); have h11 := hne 11 (by omega); have h12 := hne 12 (by omega); have h13 := hne 13 (by omega); have h32 := hne 32 (by omega)
  refine ⟨?_, by omega, hne 91 (by omega), hne 93 (by omega)⟩
  simp only [Bool.or_eq_false_iff, beq_eq_false_iff_ne]
  exact ⟨⟨⟨⟨⟨h9, h10⟩, h11⟩, h12⟩, h13⟩, h32⟩
theorem rgP_plain {r : Rg} (h0 : 0 ≤ r.1) (h1 : r.1 < 4294967296) (h2 : r.2 < 4294967296) : ∀ b ∈ rgP r, Go.Lib.isSp b = false ∧ b.toNat < 128 ∧ b ≠ 91 ∧ b ≠ 93 := by
  intro b hb
  unfold rgP at hb
  rcases List.mem_append.1 hb with hb | hb
  · exact hex_plain b (hexP_all (by omega) b hb)
  · split at hb
    · rcases List.mem_cons.1 hb with rfl | hb
      · decide
      · exact hex_plain b (hexP_all (by omega) b hb)
    · cases hb
theorem join_plain {P : UInt8 → Prop} (h32 : P 32) : ∀ (l : List (List UInt8)), (∀ x ∈ l, ∀ b ∈ x, P b) → ∀ b ∈ Go.Lib.join l [32], P b
  | [], _, b, hb => by cases hb
  | [x], h, b, hb => by
    rw [Go.Lib.join_one] at hb
    exact h x (by simp) b hb
  | x :: y :: l, h, b, hb => by
    have e : Go.Lib.join (x :: y :: l) [32] = x ++ 32 :: Go.Lib.join (y :: l) [32] := by
      rw [Go.Lib.join_cons, Go.Lib.join_cons]
      simp [Go.Lib.joinTail]
    rw [e] at hb
    rcases List.mem_append.1 hb with hb | hb
    · exact h x (by simp) b hb
    · rcases List.mem_cons.1 hb with rfl | hb
      · exact h32
      · exact join_plain h32 (y :: l) (fun z hz => h z (by simp at hz ⊢; exact .inr hz)) b hb
theorem body_plain {l : List Rg} (h : setRight (-2) l = true) : ∀ b ∈ bodyP l, b.toNat < 128 ∧ b ≠ 91 ∧ b ≠ 93 := by
  refine join_plain (by decide) _ fun x hx b hb => ?_
  obtain ⟨q, hq, rfl⟩ := List.mem_map.1 hx
  have := mem_right (by omega) h q hq
  exact (rgP_plain (by omega) (by omega) (by omega) b hb).2
theorem fields_body {l : List Rg} (h : setRight (-2) l = true) : Go.Lib.fieldsD (bodyP l) = l.map rgP := by
  rw [Go.Lib.fieldsD_ascii _ fun b hb => (body_plain h b hb).1]
  refine fields_join _ fun x hx => ?_
  obtain ⟨q, hq, rfl⟩ := List.mem_map.1 hx
  have := mem_right (by omega) h q hq
  exact ⟨rgP_ne q, fun b hb => (rgP_plain (by omega) (by omega) (by omega) b hb).1⟩
theorem dropWhile_stop {cs : List UInt8} : ∀ {l : List UInt8} {c : UInt8} {r : List UInt8}, (∀ b ∈ l, b ∈ cs) → c ∉ cs → (l ++ c :: r).dropWhile (cs.contains ·) = c :: r
  | [], c, r, _, hc => by
    rw [List.nil_append, List.dropWhile_cons, if_neg (by simpa using hc)]
  | b :: l, c, r, h, hc => by
    rw [List.cons_append, List.dropWhile_cons, if_pos (by simpa using h b (by simp))]
    exact dropWhile_stop (fun x hx => h x (by simp [hx])) hc
theorem trim_body {l : List Rg} (h : setRight (-2) l = true) : Go.Lib.trimS (printP l) [91, 93] = bodyP l := by
  have hb := body_plain h
  have e : printP l = 91 :: (bodyP l ++ [93]) := rfl
  rw [e]
  generalize bodyP l = s at hb ⊢
  unfold Go.Lib.trimS Go.Lib.trimRightS Go.Lib.trimLeftS
  rcases List.eq_nil_or_concat s with rfl | ⟨m, c, rfl⟩
  · rfl
  · rw [List.concat_eq_append] at *
    have hc : c ∉ [(91 : UInt8), 93] := by have := hb c (by simp); simp [this.2.1, this.2.2]
    have hr : (91 :: ((m ++ [c]) ++ [93])).reverse = [93] ++ c :: (m.reverse ++ [91]) := by simp
    rw [hr, dropWhile_stop (by simp) hc]
    have hrr : (c :: (m.reverse ++ [91])).reverse = [91] ++ (m ++ [c]) := by simp
    rw [hrr]
    cases m with
    | nil => exact dropWhile_stop (by simp) hc
    | cons d m =>
      have hd : d ∉ [(91 : UInt8), 93] := by have := hb d (by simp); simp [this.2.1, this.2.2]
      exact dropWhile_stop (by simp) hd
theorem trimS_len (s cs : List UInt8) : (Go.Lib.trimS s cs).length ≤ s.length := by
  have dw : ∀ (p : UInt8 → Bool) (l : List UInt8), (l.dropWhile p).length ≤ l.length := fun p l => (List.dropWhile_sublist p).length_le
  unfold Go.Lib.trimS Go.Lib.trimRightS Go.Lib.trimLeftS
  refine Nat.le_trans (dw _ _) ?_
  rw [List.length_reverse]
  refine Nat.le_trans (dw _ _) ?_
  rw [List.length_reverse]
  exact Nat.le_refl _
/-- One cut. -/
theorem splitK_cut {c : UInt8} {k : Nat} {a r : List UInt8} (h : a.contains c = false) : Go.Lib.splitK [c] 0 (k + 1) (a ++ c :: r) = a :: Go.Lib.splitK [c] 0 k r := by
  have hi := ib_spec c (a ++ c :: r)
  have hc : (a ++ c :: r).contains c = true := by rw [contains_app]; simp
  rw [if_pos hc, (tw_app h).1, ← Go.Lib.index_one] at hi
  rw [Go.Lib.splitK, if_neg (by rw [hi]; simp; try omega), hi, Int.toNat_natCast, Nat.add_zero, List.take_left]
  congr 2
  rw [List.length_singleton, ← List.drop_drop, List.drop_left]
  rfl
theorem splitK_none {c : UInt8} {k : Nat} {a : List UInt8} (h : a.contains c = false) : Go.Lib.splitK [c] 0 k a = [a] := by
  cases k with
  | zero => rfl
  | succ k =>
    have hi := ib_spec c a
    rw [h, if_neg (by simp), ← Go.Lib.index_one] at hi
    rw [Go.Lib.splitK, hi]
    rfl
theorem splitK_size {c : UInt8} : ∀ (k : Nat) (s x : List UInt8), x ∈ Go.Lib.splitK [c] 0 k s → x.length ≤ s.length
  | 0, s, x, h => by rw [List.mem_singleton.1 h]; exact Nat.le_refl _
  | k + 1, s, x, h => by
    rw [Go.Lib.splitK] at h
    split at h
    · rw [List.mem_singleton.1 h]; exact Nat.le_refl _
    · rcases List.mem_cons.1 h with rfl | h
      · rw [List.length_take]; omega
      · have := splitK_size k _ x h
        rw [List.length_drop] at this; omega
/-- What a piece is cut into: lo, hi, and what is left. -/
def piecesR (t : List UInt8) : List (List UInt8) := Go.Lib.splitK [45] 0 (min 3 ((t ++ 45 :: t).length + 1) - 1) (t ++ 45 :: t)
theorem splitK_ne {c : List UInt8} (k : Nat) (s : List UInt8) : ∃ b r, Go.Lib.splitK c 0 k s = b :: r := by
  cases k with
  | zero => exact ⟨_, _, rfl⟩
  | succ k => rw [Go.Lib.splitK]; split <;> exact ⟨_, _, rfl⟩
theorem pieces_two (t : List UInt8) : ∃ a b r, piecesR t = a :: b :: r ∧ a.length ≤ 2 * t.length + 1 ∧ b.length ≤ 2 * t.length + 1 := by
  have hs : ∀ x ∈ piecesR t, x.length ≤ 2 * t.length + 1 := fun x hx => by
    have := splitK_size _ _ x hx
    rw [List.length_append, List.length_cons] at this; omega
  have key : ∃ a b r, piecesR t = a :: b :: r := by
    unfold piecesR
    have hc : (t ++ 45 :: t).contains (45 : UInt8) = true := by rw [contains_app]; simp
    have hi := ib_spec 45 (t ++ 45 :: t)
    rw [if_pos hc, ← Go.Lib.index_one] at hi
    have hk : ∃ k, min 3 ((t ++ 45 :: t).length + 1) - 1 = k + 1 := ⟨min 3 ((t ++ 45 :: t).length + 1) - 2, by rw [List.length_append, List.length_cons]; omega⟩
    obtain ⟨k, hk⟩ := hk
    rw [hk, Go.Lib.splitK, if_neg (by rw [hi]; simp; try omega)]
    obtain ⟨b, r, e⟩ := splitK_ne (c := [45]) k ((t ++ 45 :: t).drop ((Go.Lib.index (t ++ 45 :: t) [45]).toNat + [(45 : UInt8)].length))
    exact ⟨_, b, r, by rw [e]⟩
  obtain ⟨a, b, r, e⟩ := key
  exact ⟨a, b, r, e, hs a (by rw [e]; simp), hs b (by rw [e]; simp)⟩
theorem pieces_rg {r : Rg} (h0 : 0 ≤ r.1) (h1 : r.1 < 4294967296) (h2 : r.2 < 4294967296) (hle : r.1 ≤ r.2) : ∃ m, piecesR (rgP r) = hexP r.1.toNat :: hexP r.2.toNat :: m := by
  have hn := hex_no (n := r.1.toNat) (c := 45) (by omega) (by rfl)
  have hn2 := hex_no (n := r.2.toNat) (c := 45) (by omega) (by rfl)
  have hpos := List.length_pos_iff.2 (rgP_ne r)
  have hk : min 3 ((rgP r ++ 45 :: rgP r).length + 1) - 1 = 2 := by rw [List.length_append, List.length_cons]; omega
  unfold piecesR
  rw [hk]
  clear hk hpos
  unfold rgP
  by_cases hlt : r.1 < r.2
  · rw [if_pos hlt, List.append_assoc, List.cons_append, splitK_cut hn, splitK_cut hn2]
    exact ⟨_, rfl⟩
  · rw [if_neg hlt, List.append_nil, splitK_cut hn, splitK_none hn]
    have e : r.2 = r.1 := by omega
    rw [e]
    exact ⟨_, rfl⟩
end Cae
end
section
/- strings.Trim by [ and ], strings.Fields, strings.SplitN at - of at most three. -/
namespace Go.Proofs.YtiofleijieepgaaGreatDoor
open Go.Vc Go.Proofs Go.RowKit Cae
set_option maxRecDepth 100000
set_option linter.unusedSimpArgs false
set_option linter.unusedVariables false
attribute [local irreducible] wpL callK valK unitK runK Fun Sl Vc.Own vc vcOps opK pureK
set_option maxHeartbeats 4000000
def trimR_ren : Go.Shelf.Ren := ⟨fun | 160 => 107 | 232 => 126 | 231 => 125 | 227 => 127 | 234 => 129 | 233 => 128 | 236 => 131 | 235 => 130 | 228 => 155 | 271 => 157 | 151 => 156 | 197 => 114 | 120 => 176 | 152 => 175 | 260 => 141 | 137 => 181 | 119 => 182 | 224 => 144 | 225 => 143 | 217 => 142 | 266 => 164 | n => n, fun | 9 => 9 | 4 => 4 | 3 => 3 | 5 => 5 | 117 => 172 | 116 => 171 | 0 => 0 | 124 => 175 | 21 => 21 | 105 => 159 | 46 => 148 | 119 => 166 | 139 => 226 | 138 => 225 | n => n, fun | 3 => 8 | 4 => 9 | n => n⟩
theorem trimR : Go.Proofs.Lays.n160 Tryz.prog trimR_ren := {
  mixed := by kernel_rfl
  f119 := Tryz.func182.trans (congrArg some (by kernel_rfl))
  f120 := Tryz.func176.trans (congrArg some (by kernel_rfl))
  f137 := Tryz.func181.trans (congrArg some (by kernel_rfl))
  f151 := Tryz.func156.trans (congrArg some (by kernel_rfl))
  f152 := Tryz.func175.trans (congrArg some (by kernel_rfl))
  f160 := Tryz.func107.trans (congrArg some (by kernel_rfl))
  f197 := Tryz.func114.trans (congrArg some (by kernel_rfl))
  f217 := Tryz.func142.trans (congrArg some (by kernel_rfl))
  f224 := Tryz.func144.trans (congrArg some (by kernel_rfl))
  f225 := Tryz.func143.trans (congrArg some (by kernel_rfl))
  f227 := Tryz.func127.trans (congrArg some (by kernel_rfl))
  f228 := Tryz.func155.trans (congrArg some (by kernel_rfl))
  f231 := Tryz.func125.trans (congrArg some (by kernel_rfl))
  f232 := Tryz.func126.trans (congrArg some (by kernel_rfl))
  f233 := Tryz.func128.trans (congrArg some (by kernel_rfl))
  f234 := Tryz.func129.trans (congrArg some (by kernel_rfl))
  f235 := Tryz.func130.trans (congrArg some (by kernel_rfl))
  f236 := Tryz.func131.trans (congrArg some (by kernel_rfl))
  f260 := Tryz.func141.trans (congrArg some (by kernel_rfl))
  f266 := Tryz.func164.trans (congrArg some (by kernel_rfl))
  f271 := Tryz.func157.trans (congrArg some (by kernel_rfl))
  t0 := Tryz.underlying0
  a0 := Tryz.isAgg0
  z0 := Tryz.sizeOf0
  v0 := Tryz.zeroValue0
  t3 := Tryz.underlying3
  a3 := Tryz.isAgg3
  z3 := Tryz.sizeOf3
  v3 := Tryz.zeroValue3
  t4 := Tryz.underlying4
  a4 := Tryz.isAgg4
  z4 := Tryz.sizeOf4
  v4 := Tryz.zeroValue4
  t5 := Tryz.underlying5
  a5 := Tryz.isAgg5
  z5 := Tryz.sizeOf5
  v5 := Tryz.zeroValue5
  t9 := Tryz.underlying9
  a9 := Tryz.isAgg9
  z9 := Tryz.sizeOf9
  v9 := Tryz.zeroValue9
  t21 := Tryz.underlying21
  a21 := Tryz.isAgg21
  z21 := Tryz.sizeOf21
  v21 := Tryz.zeroValue21
  t46 := Tryz.underlying148
  a46 := Tryz.isAgg148
  z46 := Tryz.sizeOf148
  v46 := Tryz.zeroValue148
  t105 := Tryz.underlying159
  a105 := Tryz.isAgg159
  z105 := Tryz.sizeOf159
  v105 := Tryz.zeroValue159
  t116 := Tryz.underlying171
  a116 := Tryz.isAgg171
  z116 := Tryz.sizeOf171
  t117 := Tryz.underlying172
  a117 := Tryz.isAgg172
  z117 := Tryz.sizeOf172
  v117 := Tryz.zeroValue172
  t119 := Tryz.underlying166
  a119 := Tryz.isAgg166
  z119 := Tryz.sizeOf166
  t124 := Tryz.underlying175
  a124 := Tryz.isAgg175
  z124 := Tryz.sizeOf175
  v124 := Tryz.zeroValue175
  t138 := Tryz.underlying225
  a138 := Tryz.isAgg225
  z138 := Tryz.sizeOf225
  v138 := Tryz.zeroValue225
  t139 := Tryz.underlying226
  a139 := Tryz.isAgg226
  z139 := Tryz.sizeOf226
  v139 := Tryz.zeroValue226
  g3 := by kernel_rfl
  g4 := by kernel_rfl }

def fieldsR_ren : Go.Shelf.Ren := ⟨fun | 157 => 106 | 229 => 123 | 199 => 124 | 261 => 154 | 311 => 173 | 312 => 174 | n => n, fun | 9 => 9 | 31 => 61 | 3 => 3 | 5 => 5 | 4 => 4 | 119 => 166 | 0 => 0 | 40 => 168 | 152 => 199 | 21 => 21 | 154 => 201 | 51 => 118 | 141 => 203 | 196 => 235 | 193 => 232 | 198 => 238 | 49 => 236 | 194 => 233 | 201 => 241 | 226 => 249 | 46 => 148 | 227 => 250 | n => n, fun | 0 => 3 | 6 => 5 | n => n⟩
theorem fieldsR : Go.Proofs.Lays.n157 Tryz.prog fieldsR_ren := {
  mixed := by kernel_rfl
  f157 := Tryz.func106.trans (congrArg some (by kernel_rfl))
  f199 := Tryz.func124.trans (congrArg some (by kernel_rfl))
  f229 := Tryz.func123.trans (congrArg some (by kernel_rfl))
  f261 := Tryz.func154.trans (congrArg some (by kernel_rfl))
  f311 := Tryz.func173.trans (congrArg some (by kernel_rfl))
  f312 := Tryz.func174.trans (congrArg some (by kernel_rfl))
  t0 := Tryz.underlying0
  a0 := Tryz.isAgg0
  z0 := Tryz.sizeOf0
  v0 := Tryz.zeroValue0
  t3 := Tryz.underlying3
  a3 := Tryz.isAgg3
  z3 := Tryz.sizeOf3
  v3 := Tryz.zeroValue3
  t4 := Tryz.underlying4
  a4 := Tryz.isAgg4
  z4 := Tryz.sizeOf4
  v4 := Tryz.zeroValue4
  t5 := Tryz.underlying5
  a5 := Tryz.isAgg5
  z5 := Tryz.sizeOf5
  v5 := Tryz.zeroValue5
  t9 := Tryz.underlying9
  a9 := Tryz.isAgg9
  z9 := Tryz.sizeOf9
  v9 := Tryz.zeroValue9
  t21 := Tryz.underlying21
  a21 := Tryz.isAgg21
  z21 := Tryz.sizeOf21
  v21 := Tryz.zeroValue21
  t31 := Tryz.underlying61
  a31 := Tryz.isAgg61
  z31 := Tryz.sizeOf61
  v31 := Tryz.zeroValue61
  t40 := Tryz.underlying168
  a40 := Tryz.isAgg168
  z40 := Tryz.sizeOf168
  v40 := Tryz.zeroValue168
  t46 := Tryz.underlying148
  a46 := Tryz.isAgg148
  z46 := Tryz.sizeOf148
  v46 := Tryz.zeroValue148
  t49 := Tryz.underlying236
  a49 := Tryz.isAgg236
  z49 := Tryz.sizeOf236
  v49 := Tryz.zeroValue236
  t51 := Tryz.underlying118
  a51 := Tryz.isAgg118
  z51 := Tryz.sizeOf118
  v51 := Tryz.zeroValue118
  t119 := Tryz.underlying166
  a119 := Tryz.isAgg166
  z119 := Tryz.sizeOf166
  t141 := Tryz.underlying203
  a141 := Tryz.isAgg203
  z141 := Tryz.sizeOf203
  v141 := Tryz.zeroValue203
  t152 := Tryz.underlying199
  a152 := Tryz.isAgg199
  z152 := Tryz.sizeOf199
  v152 := Tryz.zeroValue199
  t154 := Tryz.underlying201
  a154 := Tryz.isAgg201
  z154 := Tryz.sizeOf201
  v154 := Tryz.zeroValue201
  t193 := Tryz.underlying232
  a193 := Tryz.isAgg232
  z193 := Tryz.sizeOf232
  v193 := Tryz.zeroValue232
  t194 := Tryz.underlying233
  a194 := Tryz.isAgg233
  z194 := Tryz.sizeOf233
  v194 := Tryz.zeroValue233
  t196 := Tryz.underlying235
  a196 := Tryz.isAgg235
  z196 := Tryz.sizeOf235
  v196 := Tryz.zeroValue235
  t198 := Tryz.underlying238
  a198 := Tryz.isAgg238
  z198 := Tryz.sizeOf238
  v198 := Tryz.zeroValue238
  t201 := Tryz.underlying241
  a201 := Tryz.isAgg241
  z201 := Tryz.sizeOf241
  v201 := Tryz.zeroValue241
  t226 := Tryz.underlying249
  a226 := Tryz.isAgg249
  z226 := Tryz.sizeOf249
  v226 := Tryz.zeroValue249
  t227 := Tryz.underlying250
  a227 := Tryz.isAgg250
  z227 := Tryz.sizeOf250
  v227 := Tryz.zeroValue250
  g0 := by kernel_rfl
  g6 := by kernel_rfl }

def splitNR_ren : Go.Shelf.Ren := ⟨fun | 147 => 108 | 221 => 57 | 268 => 86 | 138 => 87 | 143 => 88 | 195 => 113 | 197 => 114 | 218 => 115 | 219 => 116 | 260 => 141 | 217 => 142 | 225 => 143 | 224 => 144 | 267 => 145 | 266 => 164 | 314 => 165 | n => n, fun | 9 => 9 | 3 => 3 | 31 => 61 | 4 => 4 | 0 => 0 | 105 => 159 | 21 => 21 | 5 => 5 | 46 => 148 | 119 => 166 | 139 => 226 | 138 => 225 | 146 => 119 | 51 => 118 | n => n, fun | 1 => 2 | 3 => 8 | 4 => 9 | n => n⟩
theorem splitNR : Go.Proofs.Lays.n147 Tryz.prog splitNR_ren := {
  mixed := by kernel_rfl
  f138 := Tryz.func87.trans (congrArg some (by kernel_rfl))
  f143 := Tryz.func88.trans (congrArg some (by kernel_rfl))
  f147 := Tryz.func108.trans (congrArg some (by kernel_rfl))
  f195 := Tryz.func113.trans (congrArg some (by kernel_rfl))
  f197 := Tryz.func114.trans (congrArg some (by kernel_rfl))
  f217 := Tryz.func142.trans (congrArg some (by kernel_rfl))
  f218 := Tryz.func115.trans (congrArg some (by kernel_rfl))
  f219 := Tryz.func116.trans (congrArg some (by kernel_rfl))
  f221 := Tryz.func57.trans (congrArg some (by kernel_rfl))
  f224 := Tryz.func144.trans (congrArg some (by kernel_rfl))
  f225 := Tryz.func143.trans (congrArg some (by kernel_rfl))
  f260 := Tryz.func141.trans (congrArg some (by kernel_rfl))
  f266 := Tryz.func164.trans (congrArg some (by kernel_rfl))
  f267 := Tryz.func145.trans (congrArg some (by kernel_rfl))
  f268 := Tryz.func86.trans (congrArg some (by kernel_rfl))
  f314 := Tryz.func165.trans (congrArg some (by kernel_rfl))
  t0 := Tryz.underlying0
  a0 := Tryz.isAgg0
  z0 := Tryz.sizeOf0
  v0 := Tryz.zeroValue0
  t3 := Tryz.underlying3
  a3 := Tryz.isAgg3
  z3 := Tryz.sizeOf3
  v3 := Tryz.zeroValue3
  t4 := Tryz.underlying4
  a4 := Tryz.isAgg4
  z4 := Tryz.sizeOf4
  v4 := Tryz.zeroValue4
  t5 := Tryz.underlying5
  a5 := Tryz.isAgg5
  z5 := Tryz.sizeOf5
  v5 := Tryz.zeroValue5
  t9 := Tryz.underlying9
  a9 := Tryz.isAgg9
  z9 := Tryz.sizeOf9
  v9 := Tryz.zeroValue9
  t21 := Tryz.underlying21
  a21 := Tryz.isAgg21
  z21 := Tryz.sizeOf21
  v21 := Tryz.zeroValue21
  t31 := Tryz.underlying61
  a31 := Tryz.isAgg61
  z31 := Tryz.sizeOf61
  v31 := Tryz.zeroValue61
  t46 := Tryz.underlying148
  a46 := Tryz.isAgg148
  z46 := Tryz.sizeOf148
  v46 := Tryz.zeroValue148
  t51 := Tryz.underlying118
  a51 := Tryz.isAgg118
  z51 := Tryz.sizeOf118
  v51 := Tryz.zeroValue118
  t105 := Tryz.underlying159
  a105 := Tryz.isAgg159
  z105 := Tryz.sizeOf159
  v105 := Tryz.zeroValue159
  t119 := Tryz.underlying166
  a119 := Tryz.isAgg166
  z119 := Tryz.sizeOf166
  t138 := Tryz.underlying225
  a138 := Tryz.isAgg225
  z138 := Tryz.sizeOf225
  v138 := Tryz.zeroValue225
  t139 := Tryz.underlying226
  a139 := Tryz.isAgg226
  z139 := Tryz.sizeOf226
  v139 := Tryz.zeroValue226
  t146 := Tryz.underlying119
  a146 := Tryz.isAgg119
  z146 := Tryz.sizeOf119
  v146 := Tryz.zeroValue119
  g1 := by kernel_rfl
  g3 := by kernel_rfl
  g4 := by kernel_rfl }

/-- What the library's functions on texts read of variables. -/
structure Tv (w : World) : Prop where
  mx : ∃ m, w.cell? ⟨2, 0, none⟩ = some (.int .i64 m)
  sp : Lib.TabIs Tryz.prog w "strings.asciiSpace" .u8 Lib.asciiSpaceTab
  wt : Lib.WhiteTab 5 w
theorem Tv.below {w w' : World} (h : Tv w) (hb : Below w.heap.size w w') : Tv w' :=
  ⟨by obtain ⟨m, hm⟩ := h.mx; exact ⟨m, (hb.cell (World.block_lt_of_cell? _ _ hm)).trans hm⟩, TabIs_below (g := 3) (by kernel_rfl) h.sp hb, WhiteTab_below h.wt hb⟩
theorem trim_c (s : List UInt8) (hs : s.length ≤ 1000000000) (w : World) : Fun Tryz.prog 107 [str s, str [91, 93]] w fun r w' => r = str (Lib.trimS s [91, 93]) ∧ Below w.heap.size w w' := by
  refine fun_of_calls Tryz.func107 (by kernel_rfl) (by kernel_rfl) ?_
  refine Calls.mono (Any.strings_Trim_laid trimR (by kernel_rfl) ⟨s.toArray⟩ ⟨[(91 : UInt8), 93].toArray⟩ w (by show s.length ≤ _; omega) (by decide) (ascii_of_all (by decide))) ?_
  rintro e w' ⟨rfl, hb⟩
  exact ⟨_, rfl, rfl, hb⟩
theorem fields_c (s : List UInt8) (hs : s.length ≤ 1000000000) (w : World) (h : Tv w) : Fun Tryz.prog 106 [str s] w fun r w' => Vc.Own w.heap.size 9 1 encS w' r (Lib.fieldsD s) ∧ Below w.heap.size w w' := by
  refine fun_of_calls Tryz.func106 (by kernel_rfl) (by kernel_rfl) ?_
  refine Calls.mono (Any.strings_Fields_any fieldsR (by kernel_rfl) (by kernel_rfl) (by kernel_rfl) ⟨s.toArray⟩ w (by show s.length < _; omega) h.sp h.wt) ?_
  rintro e w' ⟨A, rfl, hA, ho, hb⟩
  refine ⟨_, rfl, ?_, hb⟩
  unfold Vc.Own
  refine ⟨?_, fun _ => rfl⟩
  have e : ∀ l : List (List UInt8), l.flatMap encS = l.map fun x => Value.string ⟨x.toArray⟩ := by
    intro l
    induction l with
    | nil => rfl
    | cons x l ih => rw [List.flatMap_cons, ih]; rfl
  rw [e]
  exact ho
theorem splitN_c (t : List UInt8) (ht : t.length ≤ 1000000000) (w : World) (h : Tv w) : Fun Tryz.prog 108 [str (t ++ 45 :: t), str [45], .int .i64 3] w fun r w' => Sl (fun _ => False) 1 (En encS) w' r (piecesR t) ∧ Below w.heap.size w w' := by
  refine fun_of_calls Tryz.func108 (by kernel_rfl) (by kernel_rfl) ?_
  obtain ⟨m, hm⟩ := h.mx
  refine Calls.mono (Any.strings_SplitN splitNR (by kernel_rfl) ⟨(t ++ 45 :: t).toArray⟩ ⟨[(45 : UInt8)].toArray⟩ 3 m w (by show (t ++ 45 :: t).length < _; simp only [List.length_append, List.length_cons]; omega) hm (by decide) (by decide) (by decide)) ?_
  rintro e w' ⟨rfl, rfl⟩
  have hsz : (⟨(t ++ 45 :: t).toArray⟩ : ByteArray).size = (t ++ 45 :: t).length := rfl
  rw [hsz]
  have hd := Lib.splitB_data ⟨[(45 : UInt8)].toArray⟩ 0 (min 3 ((t ++ 45 :: t).length + 1) - 1) ⟨(t ++ 45 :: t).toArray⟩
  have hle := Lib.splitB_length_le ⟨[(45 : UInt8)].toArray⟩ 0 (min 3 ((t ++ 45 :: t).length + 1) - 1) ⟨(t ++ 45 :: t).toArray⟩
  generalize hgB : Lib.splitB ⟨[(45 : UInt8)].toArray⟩ 0 (min 3 ((t ++ 45 :: t).length + 1) - 1) ⟨(t ++ 45 :: t).toArray⟩ = B at hd hle
  have hp : B.map (fun b => b.data.toList) = piecesR t := hd
  have hl : B.length = (piecesR t).length := by rw [← hp, List.length_map]
  refine ⟨_, rfl, ?_, (Below.refl _ _).alloc (Nat.le_refl _) _⟩
  rw [hl]
  unfold Sl
  refine ⟨_, _, rfl, by rw [← hl]; omega, fun i x hx => ⟨w.heap.size, 0, encS x, rfl, fun h => h, rfl, fun j u hu => ?_, rfl⟩⟩
  rw [← hp, List.getElem?_map] at hx
  obtain ⟨y, hy, hyx⟩ := Option.map_eq_some_iff.1 hx
  match j, hu with
  | 0, hu =>
    cases hu
    rw [World.cell?_alloc_new]
    subst hyx
    unfold Lib.cellsOf
    have hi := (List.getElem?_eq_some_iff.1 hy).1
    simp only [Nat.zero_add, Nat.mul_one, Nat.add_zero, List.getElem?_toArray]
    rw [List.getElem?_append_left (by rw [List.length_map]; exact hi), List.getElem?_map, hy]
    rfl
  | j + 1, hu => cases hu
end Go.Proofs.YtiofleijieepgaaGreatDoor
end
section
set_option linter.unusedSimpArgs false
set_option linter.unusedVariables false
namespace Go.Vc
open Go.RowKit
section
variable {P : Program} {n : Nat} {ro : Option Nat} {ds : List Deferred}

/-- The fence that lets all in; in a round, or in none. -/
def fen (ro : Option Nat) : Fence := { Fence.wide with round := ro }
theorem callsFen {f : FuncId} {args : Array Value} {w : World} {R : Ending → World → Prop} (h : Calls P f args w R) : CallsIn (fen ro) n P f args w R := (callsIn_wide (n := n)).2 h
def liftD (ds : List Deferred) (Q : EP) : Exit → Act → World → Prop := fun e a w => a.defers = ds ∧ Q e a.tmps.toList w
theorem put_eqD (t : Fr) (d : Option Tmp) (v : Value) : (Act.mk t.toArray ds).put d v = ⟨(put t d v).toArray, ds⟩ := by
  cases d <;> simp [Act.put, put]
theorem act_eqD {a : Act} (h : a.defers = ds) : a = ⟨a.tmps.toList.toArray, ds⟩ := by cases a; simp_all

theorem resK_uponIn {o : Oper} {t : Fr} {K : Value → World → Prop} {Q : EP} {r : Result Next} {next : Act → World → Prop}
    (hn : ∀ v w', K v w' → next ⟨(put t o.dst v).toArray, ds⟩ w') (h : resK P t K Q r) : o.uponIn (fen ro) n P ⟨t.toArray, ds⟩ next (liftD ds Q) r := by
  cases r with
  | ok x w' =>
    cases x <;> simp only [resK] at h <;> simp only [Oper.uponIn]
    case value v => rw [put_eqD]; exact hn _ _ h
    case skip => rw [put_eqD]; exact hn _ _ h
    case enter f args =>
      refine ⟨(fun hh => by cases hh), callsFen (h.mono fun e w'' he => ?_)⟩
      cases e with
      | returned v => dsimp only at he ⊢; rw [put_eqD]; exact hn _ _ he
      | panicked c => exact ⟨rfl, by simpa using he⟩
      | outgrown => exact he.elim
  | halt x w' =>
    cases x <;> simp only [resK] at h <;> simp only [Oper.uponIn]
    exact ⟨rfl, by simpa using h⟩

def noDefer (o : Oper) : Bool := match o.op with | .defer _ => false | _ => true
theorem noDefer_ne {o : Oper} (h : noDefer o = true) : ∀ c, o.op ≠ .defer c := fun c e => by simp [noDefer, e] at h
theorem semAt_fen {o : Oper} (h : noDefer o = true) (ro : Option Nat) (ρ : Operand → Value) : Oper.semAt ro ρ o = execOp ρ o := Oper.semAt_eq ro ρ o (noDefer_ne h)

theorem wpIn_of_opK {o : Oper} (hd : noDefer o = true) {t : Fr} {w : World} {K : Value → World → Prop} {Q : EP} {next : Act → World → Prop}
    (hn : ∀ v w', K v w' → next ⟨(put t o.dst v).toArray, ds⟩ w') (h : opK P o t w K Q .mk) : o.wpIn (fen ro) n P ⟨t.toArray, ds⟩ w next (liftD ds Q) := by
  have h' := opK_ok h
  unfold runK at h'
  refine ⟨fun _ _ => trivial, ?_⟩
  rw [semAt_fen hd, ev_eq]
  exact resK_uponIn hn h'

theorem vcOpsIn_ok {ops : List Oper} {K : Fr → World → Prop} {Q : EP} {next : Exit → Act → World → Prop} (rest : List Oper) (hn : ∀ t w, K t w → wpListIn (fen ro) n P ops.toArray next rest ⟨t.toArray, ds⟩ w) (hq : ∀ e a w, liftD ds Q e a w → next e a w) :
    ∀ (l : List Oper), l.all noDefer = true → ∀ (t : Fr) (w : World), vcOps P ops K Q l t w .mk → wpListIn (fen ro) n P ops.toArray next (l ++ rest) ⟨t.toArray, ds⟩ w
  | [], _, t, w, h => hn t w h
  | o :: r, hd, t, w, h => by
    simp only [List.all_cons, Bool.and_eq_true] at hd
    rw [List.cons_append]
    have step : ∀ (t' : Fr), Region.wanted o (yielded ops.toArray t'.toArray) = true → opK P o t' w (fun v w' => vcOps P ops K Q r (put t' o.dst v) w' .mk) Q .mk → wpListIn (fen ro) n P ops.toArray next (o :: (r ++ rest)) ⟨t'.toArray, ds⟩ w := fun t' hw h' => by
      unfold wpListIn
      rw [if_pos hw]
      have := wpIn_of_opK (ro := ro) (n := n) (ds := ds) hd.1 (next := wpListIn (fen ro) n P ops.toArray next (r ++ rest)) (fun v w' hk => vcOpsIn_ok rest hn hq r hd.2 _ w' hk) h'
      refine ⟨this.1, ?_⟩
      have h2 := this.2
      generalize (Oper.semAt _ _ o).run P w = res at h2 ⊢
      cases res with
      | ok x w' =>
        cases x <;> simp only [Oper.uponIn] at h2 ⊢ <;> first | exact h2 | skip
        · exact ⟨h2.1, h2.2.mono fun e w'' he => by
            cases e with
            | returned v => exact he
            | panicked c => exact hq _ _ _ he
            | outgrown => obtain ⟨a₀, w₀, hh⟩ := he; exact ⟨a₀, w₀, hq _ _ _ hh⟩⟩
        · exact ⟨h2.1, h2.2.mono fun e w'' he => by
            cases e with
            | returned v => exact he
            | panicked c => exact hq _ _ _ he
            | outgrown => obtain ⟨a₀, w₀, hh⟩ := he; exact ⟨a₀, w₀, hq _ _ _ hh⟩⟩
      | halt x w' => cases x <;> simp only [Oper.uponIn] at h2 ⊢ <;> first | exact h2 | exact hq _ _ _ h2
    have skip : ∀ (t' : Fr), Region.wanted o (yielded ops.toArray t'.toArray) = false → vcOps P ops K Q r (put t' o.dst undef) w .mk → wpListIn (fen ro) n P ops.toArray next (o :: (r ++ rest)) ⟨t'.toArray, ds⟩ w := fun t' hw h' => by
      unfold wpListIn
      rw [if_neg (by rw [hw]; simp), put_eqD]
      exact ⟨fun _ _ => trivial, vcOpsIn_ok rest hn hq r hd.2 _ w h'⟩
    simp only [vcOps] at h
    split at h
    · rename_i hg
      exact step t (by simp [Region.wanted, hg]) h
    · rename_i j want hg
      have hwant : ∀ t' : Fr, Region.wanted o (yielded ops.toArray t'.toArray) = (yielded ops.toArray t'.toArray j == some want) := fun t' => by simp only [Region.wanted, hg]
      unfold guardK at h
      split at h
      · rename_i hs
        exact skip t (by rw [hwant, yielded_eq, hs]; rfl) h
      · rename_i s hs
        split at h
        · rename_i b hb
          have hlt : s < t.length := by
            rcases Nat.lt_or_ge s t.length with h' | h'
            · exact h'
            · simp [List.getD_eq_getElem?_getD, List.getElem?_eq_none h', undef] at hb
          have hv : t[s]? = some (.bool b) := by
            rw [List.getD_eq_getElem?_getD] at hb
            rw [List.getElem?_eq_getElem hlt] at hb ⊢
            simpa using hb
          have hy : yielded ops.toArray t.toArray j = some b := by rw [yielded_eq, hs]; simp [hv]
          have same := set_getD_same t s hlt
          rw [hb] at same
          by_cases hbw : b = want
          · subst hbw
            have h1 := h.1 rfl
            rw [same] at h1
            exact step t (by rw [hwant, hy]; simp) h1
          · have hbn : b = !want := by cases b <;> cases want <;> simp_all
            have h2 := h.2 hbn
            rw [← hbn, same] at h2
            exact skip t (by rw [hwant, hy]; simpa using hbw) h2
        · rename_i hb
          refine skip t ?_ h
          rw [hwant, yielded_eq, hs]
          simp only [Option.bind_some]
          cases hv : t[s]? with
          | none => rfl
          | some v =>
            have : t.getD s undef = v := by rw [List.getD_eq_getElem?_getD, hv]; rfl
            rw [this] at hb
            cases v <;> simp at hb ⊢

/-- Code without loops, and without regions that draw their order. -/
def plainB : Code → Bool
  | .skip | .exit _ | .ret | .label _ | .goto _ => true
  | .region _ ops false => ops.toList.all noDefer
  | .seq a b => plainB a && plainB b
  | .cond _ a b => plainB a && plainB b
  | .block _ c => plainB c
  | _ => false

theorem vcIn_ok : ∀ (c : Code), plainB c = true → ∀ (Q : EP) (t : Fr) (w : World), vc P c Q t w .mk → c.wpIn (fen ro) n P (liftD ds Q) ⟨t.toArray, ds⟩ w
  | .skip, _, _, _, _, h => wpIn_skip ⟨rfl, by simpa [vc] using h⟩
  | .region _ ops false, hp, Q, t, w, h => by
    refine wpIn_region_list ?_
    have := vcOpsIn_ok (P := P) (n := n) (ro := ro) (ds := ds) (ops := ops.toList) (K := Q .normal) (Q := Q) (next := liftD ds Q) [] (fun t w hk => ⟨rfl, by simpa using hk⟩) (fun _ _ _ h => h) ops.toList hp t w h
    simpa using this
  | .seq a b, hp, Q, t, w, h => by
    simp only [plainB, Bool.and_eq_true] at hp
    refine wpIn_seq (Code.wpIn_mono ?_ (vcIn_ok a hp.1 _ t w h))
    rintro e a' w' ⟨hd, hh⟩
    cases e <;> simp only [seqQ] at hh <;> simp only [Exit.then] <;> first | exact ⟨hd, hh⟩ | skip
    have := vcIn_ok b hp.2 Q _ w' hh
    rw [act_eqD hd]
    exact this
  | .cond c a b, hp, Q, t, w, h => by
    simp only [plainB, Bool.and_eq_true] at hp
    simp only [vc] at h
    unfold condK at h
    split at h
    · rename_i x hx
      exact wpIn_cond_split (t := x) (by rw [ev_eq]; exact hx) (fun hx' => vcIn_ok a hp.1 Q t w (h.1 hx')) (fun hx' => vcIn_ok b hp.2 Q t w (h.2 hx'))
    · exact h.elim
  | .block i c, hp, Q, t, w, h => by
    refine wpIn_block (Code.wpIn_mono ?_ (vcIn_ok c hp _ t w h))
    rintro e a' w' ⟨hd, hh⟩
    cases e <;> simp only [blockQ] at hh <;> simp only [Exit.inBlock] <;> first | exact ⟨hd, hh⟩ | skip
    split at hh
    · rename_i e; simp only [e, if_true]; exact ⟨hd, hh⟩
    · rename_i e; simp only [e, if_false]; exact ⟨hd, hh⟩
  | .exit i, _, _, _, _, h => wpIn_exit ⟨rfl, by simpa [vc] using h⟩
  | .ret, _, _, _, _, h => wpIn_ret ⟨rfl, by simpa [vc] using h⟩
  | .label _, _, _, _, _, h => wpIn_label ⟨rfl, by simpa [vc] using h⟩
  | .goto l, _, _, _, _, h => wpIn_goto ⟨rfl, by simpa [vc] using h⟩
  | .region _ _ true, hp, _, _, _, _ => by cases hp
  | .loop _, hp, _, _, _, _ => by cases hp
  | .scope _, hp, _, _, _, _ => by cases hp
  | .rangeFunc .., hp, _, _, _, _ => by cases hp
  | .refuse _, hp, _, _, _, _ => by cases hp
/-- How the body of a round may be left. -/
def roundQ {α : Type} (Z : Nat → Prop) (I : List α → World → Prop) (Ix : Code → List α → World → Prop) (xs : List α) (W : World) : Exit → Act → World → Prop
  | .normal, _, W' => (∀ k, Z k → W'.heap[k]? = W.heap[k]?) ∧ I xs W'
  | .ret, _, W' => (∀ k, Z k → W'.heap[k]? = W.heap[k]?) ∧ Ix .ret xs W'
  | .exit id, _, W' => (∀ k, Z k → W'.heap[k]? = W.heap[k]?) ∧ Ix (.exit id) xs W'
  | .goto t, _, W' => (∀ k, Z k → W'.heap[k]? = W.heap[k]?) ∧ Ix (.goto t) xs W'
  | _, _, _ => False

theorem keptPut {X : Nat → Prop} (W : World) (l : Nat) (o : Obj) (hX : X l) : Kept X W (W.putObj l o) :=
  ⟨rfl, rfl, rfl, by simp, fun k _ hk => World.putObj_heap_other (fun e => hk (by rw [e]; exact hX))⟩

/-- What an iterator gives: its own steps turn blocks of B alone; a round keeps Z. -/
def Iter (P : Program) (n : Nat) {α : Type} (gf : Nat) (lb : Array Value) (encs : α → Array Value) (B Z : Nat → Prop) (S Sp : List α → Prop) (A : List α → α → Prop) (w : World) : Prop :=
  ∀ (l : Nat) (J Jx : List α → World → Prop) (W : World), (∀ k, k < w.heap.size → W.heap[k]? = w.heap[k]?) → w.heap.size ≤ W.heap.size → (∀ s A A', J s A → Kept B A A' → J s A') → (∀ s A A', Jx s A → Kept B A A' → Jx s A') →
    (∀ pre x W1, J pre W1 → A pre x → YieldAt Fence.wide n P l (encs x) W1 fun e W' =>
      (e = .returned (.bool true) ∧ J (pre ++ [x]) W' ∧ (∀ k, Z k → W'.heap[k]? = W1.heap[k]?) ∧ W1.heap.size ≤ W'.heap.size) ∨ (e = .returned (.bool false) ∧ Jx (pre ++ [x]) W')) →
    J [] W → CallsIn Fence.wide n P gf (#[.func (.yield l) #[] #[]] ++ lb) W fun e W' => (∃ v, e = .returned v) ∧ ((∃ xs, S xs ∧ J xs W') ∨ (∃ pre, Sp pre ∧ Jx pre W'))

/-- A range over a function whose own steps turn blocks that it had before. -/
theorem rangeK {α : Type} {g : Operand} {ps : Array Tmp} {assign body : Code} {Q : Exit → Act → World → Prop} {a : Act} {w : World} {gf : Nat} {lb : Array Value} (hg : a.eval g = .func (.func gf) #[] lb) (eg : ∀ args w, (callFunc gf args).run P w = .ok (.enter gf args) w)
    {encs : α → Array Value} (hps : ∀ x, (encs x).size = ps.size) {B Z : Nat → Prop} {S Sp : List α → Prop} {A : List α → α → Prop} (hB : ∀ k, B k → k < w.heap.size) (hZ : ∀ k, Z k → k < w.heap.size) (hseq : Iter P (n - 1) gf lb encs B Z S Sp A w)
    (I : List α → World → Prop) (Ix : Code → List α → World → Prop) (hI : ∀ s W W', I s W → Kept (fun k => B k ∨ k = w.heap.size ∨ k = w.heap.size + 1) W W' → I s W') (hIx : ∀ c s W W', Ix c s W → Kept (fun k => B k ∨ k = w.heap.size ∨ k = w.heap.size + 1) W W' → Ix c s W') (h0 : I [] w) (a₁ : α → Act)
    (hassign : ∀ (x : α) (W : World) (K : Act → World → Prop), K (a₁ x) W →
      assign.wpIn (fen (some (w.heap.size + 1))) (n - 1) P (Exit.then K (fun _ _ _ => False)) { tmps := (ps.zip (encs x)).foldl (fun t (p, v) => t.setIfInBounds p v) a.tmps, defers := [] } W)
    (hbody : ∀ (pre : List α) (x : α) (W : World), I pre W → A pre x → w.heap.size + 1 < W.heap.size → body.wpIn (fen (some (w.heap.size + 1))) (n - 1) P (fun e a' W' => W.heap.size ≤ W'.heap.size ∧ roundQ (fun k => Z k ∨ k = w.heap.size ∨ k = w.heap.size + 1) I Ix (pre ++ [x]) W e a' W') (a₁ x) W)
    (hdone : ∀ (xs : List α) (W : World), S xs → I xs W → W.heap[w.heap.size]? = some (.deferred (some [])) → Q .normal { a with defers := { target := .collected w.heap.size, args := #[] } :: a.defers } W)
    (hstop : ∀ (c : Code) (pre : List α) (W : World), Sp pre → Ix c pre W → W.heap[w.heap.size]? = some (.deferred (some [])) → c.wpIn Fence.wide n P Q { a with defers := { target := .collected w.heap.size, args := #[] } :: a.defers } W) :
    (Code.rangeFunc g ps assign body).wpIn Fence.wide n P Q a w := by
  refine wpIn_rangeFunc ?_
  intro fn _
  have hrec : ∃ rec : LoopState → Option Code → Loop, rec = fun st pe => { state := st, pending := pe, fn, tmps := a.tmps, params := ps, assign, body, defers := w.heap.size } := ⟨_, rfl⟩
  obtain ⟨rec, hrec⟩ := hrec
  have hg1 : ∃ W1, (w.alloc (.deferred (some []))).alloc (.loop (rec .ready none)) = W1 := ⟨_, rfl⟩
  obtain ⟨W1, hW1⟩ := hg1
  have sz1 : W1.heap.size = w.heap.size + 1 + 1 := by rw [← hW1]; simp
  have hL1 : W1.heap[w.heap.size + 1]? = some (.loop (rec .ready none)) := by
    rw [← hW1]
    have := World.alloc_heap_new (w.alloc (.deferred (some []))) (.loop (rec .ready none))
    rwa [World.size_alloc] at this
  have hK1 : W1.heap[w.heap.size]? = some (.deferred (some [])) := by
    rw [← hW1]; exact (Below.heap_alloc _ _ _ (by simp)).trans (World.alloc_heap_new w _)
  have hk1 : ∀ k, k < w.heap.size → W1.heap[k]? = w.heap[k]? := fun k hk => by
    rw [← hW1]; exact (Below.heap_alloc _ _ _ (by simp; omega)).trans (Below.heap_alloc _ _ _ hk)
  have hkept : Kept (fun k => B k ∨ k = w.heap.size ∨ k = w.heap.size + 1) w W1 := ⟨by rw [← hW1]; rfl, by rw [← hW1]; rfl, by rw [← hW1]; rfl, by omega, fun k hk _ => hk1 k hk⟩
  have hbook : ∀ {W : World} (o : Obj), Kept (fun k => B k ∨ k = w.heap.size ∨ k = w.heap.size + 1) W (W.putObj (w.heap.size + 1) o) := fun o => keptPut _ _ _ (.inr (.inr rfl))
  have hne : ∀ {k : Nat}, B k → k ≠ w.heap.size ∧ k ≠ w.heap.size + 1 := fun {k} hk => by have := hB k hk; omega
  refine ⟨w.heap.size + 1, [{ target := .collected w.heap.size, args := #[] }], W1, { target := .fn (.func gf) lb, args := #[.func (.yield (w.heap.size + 1)) #[] #[]] }, W1, gf,
    #[.func (.yield (w.heap.size + 1)) #[] #[]] ++ lb, W1, ?_, ?_, fun _ _ => trivial, ?_, (fun hh => by cases hh), ?_⟩
  · rw [← hW1, hrec]; exact run_enterLoop_outer _ _ _ _ _
  · simp only [resolve, hg]
    simp [go_sem]
  · simp [invoke, go_sem, eg]
  · refine (hseq (w.heap.size + 1)
      (fun pre W => I pre W ∧ W.heap[w.heap.size + 1]? = some (.loop (rec .ready none)) ∧ W.heap[w.heap.size]? = some (.deferred (some [])))
      (fun pre W => ∃ c, Ix c pre W ∧ W.heap[w.heap.size + 1]? = some (.loop (rec .done (some c))) ∧ W.heap[w.heap.size]? = some (.deferred (some [])))
      W1 hk1 (by omega) ?_ ?_ ?_ ⟨hI _ _ _ h0 hkept, hL1, hK1⟩).mono ?_
    · rintro s A A' ⟨h1, h2, h3⟩ hk
      exact ⟨hI _ _ _ h1 (hk.weaken (fun i _ h => .inl h)), (hk.block _ (Array.getElem?_eq_some_iff.1 h2).1 (fun h => (hne h).2 rfl)).trans h2, (hk.block _ (Array.getElem?_eq_some_iff.1 h3).1 (fun h => (hne h).1 rfl)).trans h3⟩
    · rintro s A A' ⟨c, h1, h2, h3⟩ hk
      exact ⟨c, hIx _ _ _ _ h1 (hk.weaken (fun i _ h => .inl h)), (hk.block _ (Array.getElem?_eq_some_iff.1 h2).1 (fun h => (hne h).2 rfl)).trans h2, (hk.block _ (Array.getElem?_eq_some_iff.1 h3).1 (fun h => (hne h).1 rfl)).trans h3⟩
    · rintro pre x W ⟨hi, hl, hk⟩ hlen
      have hlt : w.heap.size + 1 < W.heap.size := (Array.getElem?_eq_some_iff.1 hl).1
      have hy := run_yield (P := P) (args := encs x) hl (by rw [hrec]; exact hps x)
      rw [hrec] at hy
      refine ⟨fn, _, assign, body, hy, roundIn_of_wpIn trivial (hassign x W _ ⟨_, run_beginRound hl (by rw [hrec]), ?_⟩)⟩
      have hgV : ∃ V, W.putObj (w.heap.size + 1) (.loop { rec .ready none with state := .busy }) = V := ⟨_, rfl⟩
      obtain ⟨V, hV⟩ := hgV
      have hVl : V.heap[w.heap.size + 1]? = some (.loop { rec .ready none with state := .busy }) := by rw [← hV]; exact World.putObj_heap_same hlt
      have hVk : V.heap[w.heap.size]? = some (.deferred (some [])) := by rw [← hV]; exact (World.putObj_heap_other (by omega)).trans hk
      have hVs : V.heap.size = W.heap.size := by rw [← hV]; simp
      have hVo : ∀ k, k ≠ w.heap.size + 1 → V.heap[k]? = W.heap[k]? := fun k h => by rw [← hV]; exact World.putObj_heap_other h
      rw [hV]
      refine wpIn_mono (hbody pre x V (by rw [← hV]; exact hI _ _ _ hi (hbook _)) hlen (by omega)) ?_
      have fin : ∀ (jump : Option Code) (W3 : World), V.heap.size ≤ W3.heap.size → (∀ k, Z k ∨ k = w.heap.size ∨ k = w.heap.size + 1 → W3.heap[k]? = V.heap[k]?) →
          (Instr.endRound (w.heap.size + 1) jump).run P W3 = .ok (.bool jump.isNone) (W3.putObj (w.heap.size + 1) (.loop (rec (if jump.isNone then .ready else .done) jump))) ∧
          (W3.putObj (w.heap.size + 1) (.loop (rec (if jump.isNone then .ready else .done) jump))).heap[w.heap.size + 1]? = some (.loop (rec (if jump.isNone then .ready else .done) jump)) ∧
          (W3.putObj (w.heap.size + 1) (.loop (rec (if jump.isNone then .ready else .done) jump))).heap[w.heap.size]? = some (.deferred (some [])) ∧
          ∀ k, Z k → (W3.putObj (w.heap.size + 1) (.loop (rec (if jump.isNone then .ready else .done) jump))).heap[k]? = W.heap[k]? := fun jump W3 hs3 hz3 => by
        have hl3 := (hz3 _ (.inr (.inr rfl))).trans hVl
        have hr := run_endRound (P := P) jump hl3
        rw [hrec] at hr ⊢
        refine ⟨hr, World.putObj_heap_same (by omega), (World.putObj_heap_other (by omega)).trans ((hz3 _ (.inr (.inl rfl))).trans hVk), fun k hk => ?_⟩
        have := hZ k hk
        exact (World.putObj_heap_other (by omega)).trans ((hz3 k (.inl hk)).trans (hVo k (by omega)))
      rintro e a3 W3 ⟨hs3, hp⟩
      cases e with
      | normal =>
        obtain ⟨hz3, hi3⟩ := hp
        obtain ⟨hr, hl4, hk4, hz4⟩ := fin none W3 hs3 hz3
        exact ⟨_, _, hr, .inl ⟨rfl, ⟨hI _ _ _ hi3 (hbook _), hl4, hk4⟩, hz4, by simp; omega⟩⟩
      | ret =>
        obtain ⟨hz3, hi3⟩ := hp
        obtain ⟨hr, hl4, hk4, hz4⟩ := fin (some .ret) W3 hs3 hz3
        exact ⟨_, _, hr, .inr ⟨rfl, .ret, hIx _ _ _ _ hi3 (hbook _), hl4, hk4⟩⟩
      | exit id =>
        obtain ⟨hz3, hi3⟩ := hp
        obtain ⟨hr, hl4, hk4, hz4⟩ := fin (some (.exit id)) W3 hs3 hz3
        exact ⟨_, _, hr, .inr ⟨rfl, .exit id, hIx _ _ _ _ hi3 (hbook _), hl4, hk4⟩⟩
      | goto t =>
        obtain ⟨hz3, hi3⟩ := hp
        obtain ⟨hr, hl4, hk4, hz4⟩ := fin (some (.goto t)) W3 hs3 hz3
        exact ⟨_, _, hr, .inr ⟨rfl, .goto t, hIx _ _ _ _ hi3 (hbook _), hl4, hk4⟩⟩
      | panic ch => exact hp.elim
      | outgrown => exact hp.elim
    · rintro e W2 ⟨⟨v, rfl⟩, (⟨xs, hS, hi, hl, hk⟩ | ⟨pre, hSp, c, hi, hl, hk⟩)⟩
      · have hr := run_endLoop (P := P) hl (by rw [hrec]; simp)
        rw [hrec] at hr
        exact ⟨none, _, hr, hdone xs _ hS (hI _ _ _ hi (hbook _)) ((World.putObj_heap_other (by omega)).trans hk)⟩
      · have hr := run_endLoop (P := P) hl (by rw [hrec]; simp)
        rw [hrec] at hr
        exact ⟨some c, _, hr, hstop c pre _ hSp (hIx _ _ _ _ hi (hbook _)) ((World.putObj_heap_other (by omega)).trans hk)⟩
theorem plainIn {c : Code} (hp : plainB c = true) {Q : Exit → Act → World → Prop} {t : Fr} {w : World} (h : vc P c (fun e t w => Q e ⟨t.toArray, ds⟩ w) t w .mk) : c.wpIn (fen ro) n P Q ⟨t.toArray, ds⟩ w :=
  wpIn_mono (vcIn_ok c hp _ t w h) (by rintro e a w' ⟨hd, hh⟩; rw [act_eqD hd]; exact hh)
theorem seqIn {a b : Code} (hp : plainB a = true) {Q : Exit → Act → World → Prop} {t : Fr} {w : World} (h : vc P a (seqQ (fun t w => b.wpIn (fen ro) n P Q ⟨t.toArray, ds⟩ w) (fun e t w => Q e ⟨t.toArray, ds⟩ w) .mk) t w .mk) : (Code.seq a b).wpIn (fen ro) n P Q ⟨t.toArray, ds⟩ w := by
  refine wpIn_seq (wpIn_mono (vcIn_ok a hp _ t w h) ?_)
  rintro e a' w' ⟨hd, hh⟩
  cases e <;> simp only [seqQ] at hh <;> simp only [Exit.then] <;> (rw [act_eqD hd]; exact hh)

theorem roundWide {m m' l : Nat} {f : FuncId} {tmps : Array Value} {assign body : Code} {w : World} {R : Ending → World → Prop} (h : RoundIn Fence.wide m P l f tmps assign body w R) : RoundIn (fen none) m' P l f tmps assign body w R :=
  ⟨trivial, fun c cs _ => h.2 c cs (room_wide _)⟩

/-- A region that calls yield. -/
theorem yieldRegion {id l m : Nat} {l1 l2 : List Oper} {o : Oper} {x : Operand} {args : Array Operand} {ats : Array TypeId} {Q : Exit → Act → World → Prop} {t : Fr} {w : World} (hp1 : l1.all noDefer = true) (hp2 : l2.all noDefer = true) (ho : o.op = .call { callee := .value x, args, argTypes := ats }) (hg : o.guard = none)
    (h : vcOps P (l1 ++ o :: l2) (fun t w => ev t x = .func (.yield l) #[] #[] ∧ ∃ R, YieldAt Fence.wide m P l (args.toList.map (ev t)).toArray w R ∧ ∀ e w', R e w' → ∃ b, e = .returned (.bool b) ∧ vcOps P (l1 ++ o :: l2) (fun t w => Q .normal ⟨t.toArray, ds⟩ w) (fun e t w => Q e ⟨t.toArray, ds⟩ w) l2 (put t o.dst (.bool b)) w' .mk) (fun e t w => Q e ⟨t.toArray, ds⟩ w) l1 t w .mk) :
    (Code.region id (l1 ++ o :: l2).toArray false).wpIn (fen none) n P Q ⟨t.toArray, ds⟩ w := by
  refine wpIn_region_list ?_
  rw [List.toList_toArray]
  refine vcOpsIn_ok (ro := none) (o :: l2) ?_ (fun e a w hh => by rw [act_eqD hh.1]; exact hh.2) l1 hp1 t w h
  rintro t1 w1 ⟨hx, R, ⟨fn, tmps, assign, body, hy, hR⟩, hk⟩
  unfold wpListIn
  rw [if_pos (by simp [Region.wanted, hg])]
  refine ⟨fun _ _ => trivial, ?_⟩
  rw [semAt_fen (by simp [noDefer, ho]), ev_eq]
  have he : (execOp (ev t1) o).run P w1 = .ok (.round l fn tmps assign body) w1 := by
    unfold execOp
    simp only [ho]
    have hy' : (Instr.yield l (args.map (ev t1))).run P w1 = .ok (.round l fn tmps assign body) w1 := by rw [show args.map (ev t1) = (args.toList.map (ev t1)).toArray by rw [← Array.toList_map]]; exact hy
    simp [resolve, hx, invoke, go_sem, hy']
  rw [he]
  refine ⟨(fun hh => by cases hh), (roundWide hR).mono fun e w' hr => ?_⟩
  obtain ⟨b, rfl, hb⟩ := hk e w' hr
  show wpListIn _ _ _ _ _ _ _ _
  rw [put_eqD]
  have := vcOpsIn_ok (P := P) (n := n) (ro := none) (ds := ds) (ops := l1 ++ o :: l2) (next := Q) [] (fun t w hh => hh) (fun e a w hh => by rw [act_eqD hh.1]; exact hh.2) l2 hp2 _ w' hb
  simpa using this

theorem loopIn {c : Code} {Q : Exit → Act → World → Prop} {t : Fr} {w : World} (M : List Nat) (I : (Nat → Value) → World → Prop) (μ : (Nat → Value) → World → Nat) (h0 : I (at_ t) w)
    (hr : ∀ z w', I z w' → c.wpIn (fen ro) n P (fun e a' w'' => match e with | .normal => a'.defers = ds ∧ a'.tmps.toList = ov t M (at_ a'.tmps.toList) ∧ I (at_ a'.tmps.toList) w'' ∧ μ (at_ a'.tmps.toList) w'' < μ z w' | e => Q e a' w'') ⟨(ov t M z).toArray, ds⟩ w') : (Code.loop c).wpIn (fen ro) n P Q ⟨t.toArray, ds⟩ w := by
  refine wpIn_loop (fun a w' => a.defers = ds ∧ a.tmps.toList = ov t M (at_ a.tmps.toList) ∧ I (at_ a.tmps.toList) w') (fun a w' => μ (at_ a.tmps.toList) w') ⟨rfl, by simp [ov_at], by simpa using h0⟩ ?_
  rintro a w' ⟨hd, ht, hI⟩
  have h1 := hr _ w' hI
  rw [← ht] at h1
  rw [act_eqD hd]
  refine wpIn_mono h1 ?_
  intro e a' w'' hh
  cases e <;> simp only [Exit.then] <;> first | exact hh | skip
  obtain ⟨hd', h1, h2, h3⟩ := hh
  exact ⟨⟨hd', h1, h2⟩, by simpa using h3⟩

/-- The return of a function in which a range over a function stands. -/
theorem leave0 {fn : Func} {rs : List ResultVar} {R : VK} (hrs : fn.results = rs.toArray) {t : Fr} {w : World} (h : retC P rs R .mk .ret t w) : bodyPostM Fence.wide n P fn (fun e w' => ∃ v, e = .returned v ∧ R v w') .ret ⟨t.toArray, []⟩ w := by
  obtain ⟨vs, hv, hk⟩ := resultsC_run fn rs hrs t _ h
  exact ⟨_, hv, _, rfl, hk⟩
theorem leaveD {fn : Func} {rs : List ResultVar} {R : VK} (hrs : fn.results = rs.toArray) {t : Fr} {w : World} {D : Nat} (hD : w.heap[D]? = some (.deferred (some []))) (h : retC P rs R .mk .ret t (w.putObj D (.deferred none))) : bodyPostM Fence.wide n P fn (fun e w' => ∃ v, e = .returned v ∧ R v w') .ret ⟨t.toArray, [{ target := .collected D, args := #[] }]⟩ w := by
  obtain ⟨vs, hv, hk⟩ := resultsC_run fn rs hrs t _ h
  exact ⟨by simp, .inl ⟨_, _, rfl, run_takeDeferred hD, _, hv, _, rfl, hk⟩⟩
theorem fun_of_in {f : FuncId} {fn : Func} {c : Code} {args : List Value} {w : World} {R : VK} (hf : P.funcs[f]? = some fn) (hb : fn.body = some c) (hn : (fn.name == "runtime.NumGoroutine") = false)
    (h : c.wpIn (fen none) 0 P (bodyPostM Fence.wide 0 P fn (fun e w' => ∃ v, e = .returned v ∧ R v w')) ⟨(fr0 args fn.ntmps).toArray, []⟩ w) : Fun P f args w R := by
  refine ⟨callFunc_enter hf (by simp [hb]) hn, (callsIn_wide (n := 0)).1 (callsIn_of_wp_marks hf hb trivial ?_ rfl)⟩
  have e : (args.toArray ++ Array.replicate (fn.ntmps - args.toArray.size) undef) = (fr0 args fn.ntmps).toArray := by simp [fr0]
  rw [e]
  exact h
theorem condF {F : Fence} {c : Operand} {x y : Code} {Q : Exit → Act → World → Prop} {t : Fr} {w : World} (hc : ev t c = .bool false) (h : y.wpIn F n P Q ⟨t.toArray, ds⟩ w) : (Code.cond c x y).wpIn F n P Q ⟨t.toArray, ds⟩ w :=
  wpIn_cond_false (by rw [ev_eq]; exact hc) h
theorem condT {F : Fence} {c : Operand} {x y : Code} {Q : Exit → Act → World → Prop} {t : Fr} {w : World} (hc : ev t c = .bool true) (h : x.wpIn F n P Q ⟨t.toArray, ds⟩ w) : (Code.cond c x y).wpIn F n P Q ⟨t.toArray, ds⟩ w :=
  wpIn_cond_true (by rw [ev_eq]; exact hc) h
theorem then_n {K : Act → World → Prop} {Q : Exit → Act → World → Prop} {a : Act} {w : World} : Exit.then K Q .normal a w = K a w := (rfl)
theorem then_r {K : Act → World → Prop} {Q : Exit → Act → World → Prop} {a : Act} {w : World} : Exit.then K Q .ret a w = Q .ret a w := (rfl)
theorem then_e {K : Act → World → Prop} {Q : Exit → Act → World → Prop} {a : Act} {w : World} (i : Nat) : Exit.then K Q (.exit i) a w = Q (.exit i) a w := (rfl)
theorem inBlock_n {i : Nat} {Q : Exit → Act → World → Prop} {a : Act} {w : World} : Exit.inBlock i Q .normal a w = Q .normal a w := (rfl)
theorem inBlock_r {i : Nat} {Q : Exit → Act → World → Prop} {a : Act} {w : World} : Exit.inBlock i Q .ret a w = Q .ret a w := (rfl)
theorem inBlock_e {i j : Nat} {Q : Exit → Act → World → Prop} {a : Act} {w : World} : Exit.inBlock i Q (.exit j) a w = if j = i then Q .normal a w else Q (.exit j) a w := (rfl)
theorem zip1 (p : Tmp) (v : Value) (t : Fr) : ((#[p] : Array Tmp).zip #[v]).foldl (fun t (x : Tmp × Value) => t.setIfInBounds x.1 x.2) t.toArray = (t.set p v).toArray := by
  simp
theorem roundQ_n {α : Type} {Z : Nat → Prop} {I : List α → World → Prop} {Ix : Code → List α → World → Prop} {xs : List α} {W W' : World} {a : Act} : roundQ Z I Ix xs W .normal a W' = ((∀ k, Z k → W'.heap[k]? = W.heap[k]?) ∧ I xs W') := (rfl)
theorem roundQ_r {α : Type} {Z : Nat → Prop} {I : List α → World → Prop} {Ix : Code → List α → World → Prop} {xs : List α} {W W' : World} {a : Act} : roundQ Z I Ix xs W .ret a W' = ((∀ k, Z k → W'.heap[k]? = W.heap[k]?) ∧ Ix .ret xs W') := (rfl)
theorem roundQ_e {α : Type} {Z : Nat → Prop} {I : List α → World → Prop} {Ix : Code → List α → World → Prop} {xs : List α} {W W' : World} {a : Act} (i : Nat) : roundQ Z I Ix xs W (.exit i) a W' = ((∀ k, Z k → W'.heap[k]? = W.heap[k]?) ∧ Ix (.exit i) xs W') := (rfl)
/-- The law, with the evaluator's words. -/
theorem rangeV {α : Type} {g : Operand} {q : Tmp} {assign body : Code} {Q : Exit → Act → World → Prop} {t : Fr} {w : World} {gf : Nat} {lb : List Value} (hg : ev t g = .func (.func gf) #[] lb.toArray) (eg : ∀ args w, (callFunc gf args).run P w = .ok (.enter gf args) w)
    {en : α → Value} {B Z : Nat → Prop} {S Sp : List α → Prop} {A : List α → α → Prop} (hB : ∀ k, B k → k < w.heap.size) (hZ : ∀ k, Z k → k < w.heap.size) (hseq : Iter P (n - 1) gf lb.toArray (fun x => #[en x]) B Z S Sp A w)
    (I : List α → World → Prop) (Ix : Code → List α → World → Prop) (hI : ∀ s W W', I s W → Kept (fun k => B k ∨ k = w.heap.size ∨ k = w.heap.size + 1) W W' → I s W') (hIx : ∀ c s W W', Ix c s W → Kept (fun k => B k ∨ k = w.heap.size ∨ k = w.heap.size + 1) W W' → Ix c s W') (h0 : I [] w) (d : Nat)
    (pa : plainB assign = true) (pb : plainB body = true) (hassign : ∀ (x : α) (W : World), vc P assign (fun e t' W' => e = .normal ∧ t' = ((t.set q (en x)).set d (en x)) ∧ W' = W) (t.set q (en x)) W .mk)
    (hbody : ∀ (pre : List α) (x : α) (W : World), I pre W → A pre x → w.heap.size + 1 < W.heap.size → vc P body (fun e t' W' => W.heap.size ≤ W'.heap.size ∧ roundQ (fun k => Z k ∨ k = w.heap.size ∨ k = w.heap.size + 1) I Ix (pre ++ [x]) W e ⟨t'.toArray, []⟩ W') (((t.set q (en x)).set d (en x))) W .mk)
    (hdone : ∀ (xs : List α) (W : World), S xs → I xs W → W.heap[w.heap.size]? = some (.deferred (some [])) → Q .normal ⟨t.toArray, { target := .collected w.heap.size, args := #[] } :: ds⟩ W)
    (hstop : ∀ (c : Code) (pre : List α) (W : World), Sp pre → Ix c pre W → W.heap[w.heap.size]? = some (.deferred (some [])) → c.wpIn (fen none) n P Q ⟨t.toArray, { target := .collected w.heap.size, args := #[] } :: ds⟩ W) :
    (Code.rangeFunc g #[q] assign body).wpIn (fen none) n P Q ⟨t.toArray, ds⟩ w := by
  refine rangeK (a := ⟨t.toArray, ds⟩) (by rw [ev_eq]; exact hg) eg (encs := fun x => #[en x]) (fun _ => rfl) hB hZ hseq I Ix hI hIx h0 (fun x => ⟨((t.set q (en x)).set d (en x)).toArray, []⟩) ?_ ?_ hdone hstop
  · intro x W K hK
    have e : (((#[q] : Array Tmp).zip #[en x]).foldl (fun t (x : Tmp × Value) => t.setIfInBounds x.1 x.2) t.toArray) = (t.set q (en x)).toArray := zip1 q (en x) t
    show assign.wpIn _ _ _ _ ⟨(((#[q] : Array Tmp).zip #[en x]).foldl (fun t (x : Tmp × Value) => t.setIfInBounds x.1 x.2) t.toArray), []⟩ _
    rw [e]
    refine wpIn_mono (vcIn_ok (ds := []) assign pa _ _ _ (hassign x W)) ?_
    rintro e a w' ⟨hd, rfl, ht, rfl⟩
    show K a w'
    rw [act_eqD hd, ht]
    exact hK
  · intro pre x W h1 h2 h3
    refine wpIn_mono (vcIn_ok (ds := []) body pb _ _ _ (hbody pre x W h1 h2 h3)) ?_
    rintro e a w' ⟨hd, h4, h5⟩
    refine ⟨h4, ?_⟩
    rw [act_eqD hd]
    exact h5
end
attribute [push_cast] then_n then_r then_e inBlock_n inBlock_r inBlock_e roundQ_n roundQ_r roundQ_e
end Go.Vc
end
section
namespace Go.Proofs.YtiofleijieepgaaGreatDoor
open Go.Vc Go.Proofs Go.RowKit Cae
set_option maxRecDepth 100000
set_option linter.unusedSimpArgs false
set_option linter.unusedVariables false
attribute [local irreducible] wpL callK valK unitK runK Fun Sl Vc.Own vc vcOps opK pureK
set_option maxHeartbeats 4000000

theorem splitSeq_c (s : List UInt8) (c : UInt8) (w : World) : Fun Tryz.prog 148 [str s, str [c], .int .i64 0] w fun r w' => r = .func (.func 166) #[] #[.pointer (some ⟨w.heap.size + 1, 0, none⟩), .pointer (some ⟨w.heap.size, 0, none⟩), .pointer (some ⟨w.heap.size + 2, 0, none⟩)] ∧ Blk w' w.heap.size 9 [str s] ∧ Blk w' (w.heap.size + 1) 9 [str [c]] ∧ Blk w' (w.heap.size + 2) 3 [.int .i64 0] ∧ w'.heap.size = w.heap.size + 3 ∧ Below w.heap.size w w' := by
  refine fun_of_vc Tryz.func148 rfl (by kernel_rfl) [6] rfl ?_
  push_cast -dsimp (maxSteps := 4000000) [Tryz.ntmps148]
  refine boxK_of ?_
  intro w1 hw1
  have sz1 := hw1.size
  push_cast -dsimp
  refine boxK_of ?_
  intro w2 hw2
  have sz2 := hw2.size
  push_cast -dsimp
  refine boxK_of ?_
  intro w3 hw3
  have sz3 := hw3.size
  push_cast -dsimp [sz1, sz2]
  have b1 := (hw1.blk.below hw2.below (by omega)).below hw3.below (by omega)
  have b2 := hw2.blk.below hw3.below (by omega)
  have b3 := hw3.blk
  rw [sz1] at b2
  rw [sz2, sz1] at b3
  exact ⟨b1, b2, b3, by omega, (hw1.below.trans (hw2.below.mono (by omega))).trans (hw3.below.mono (by omega))⟩
theorem splitSeqs_c (s : List UInt8) (c : UInt8) (w : World) : Fun Tryz.prog 120 [str s, str [c]] w fun r w' => r = .func (.func 166) #[] #[.pointer (some ⟨w.heap.size + 1, 0, none⟩), .pointer (some ⟨w.heap.size, 0, none⟩), .pointer (some ⟨w.heap.size + 2, 0, none⟩)] ∧ Blk w' w.heap.size 9 [str s] ∧ Blk w' (w.heap.size + 1) 9 [str [c]] ∧ Blk w' (w.heap.size + 2) 3 [.int .i64 0] ∧ w'.heap.size = w.heap.size + 3 ∧ Below w.heap.size w w' := by
  refine fun_of_vc Tryz.func120 rfl (by kernel_rfl) [4] rfl ?_
  push_cast -dsimp (maxSteps := 4000000) [Tryz.ntmps120]
  refine callK_of (splitSeq_c s c w) ?_
  rintro _ w1 ⟨rfl, h⟩
  push_cast -dsimp
  exact h

def rdLen (w : World) (b : Nat) : Nat := match w.cell? ⟨b, 0, none⟩ with | some (.string s) => s.size | _ => 0
theorem rdLen_of {w : World} {b : Nat} {s : List UInt8} (h : w.cell? ⟨b, 0, none⟩ = some (str s)) : rdLen w b = s.length := by
  unfold rdLen; rw [h]; rfl
theorem split_it (s : List UInt8) (c : UInt8) (hs : s.length ≤ 1000000000) (n bs bp bv : Nat) (h1' : bs ≠ bp) (h2' : bs ≠ bv) (w : World) (hS : Blk w bs 9 [str s]) (hP : Blk w bp 9 [str [c]]) (hV : Blk w bv 3 [.int .i64 0]) :
    Iter Tryz.prog n 166 #[.pointer (some ⟨bp, 0, none⟩), .pointer (some ⟨bs, 0, none⟩), .pointer (some ⟨bv, 0, none⟩)] (fun x : List UInt8 => #[str x]) (fun k => k = bs) (fun k => k = bs ∨ k = bp ∨ k = bv) (fun xs => xs = splitB c s) (fun pre => pre <+: splitB c s) (fun pre x => pre ++ [x] <+: splitB c s) w := by
  intro l J Jx W hW hWs hJ hJx hY h0
  have hS : Blk W bs 9 [str s] := (hW _ hS.lt).trans hS
  have hP : Blk W bp 9 [str [c]] := (hW _ hP.lt).trans hP
  have hV : Blk W bv 3 [.int .i64 0] := (hW _ hV.lt).trans hV
  refine callsIn_of_wp Tryz.func166 rfl trivial ?_ rfl
  have c0 : W.cell? ⟨bp, 0, none⟩ = some (str [c]) := hP.cell rfl
  simp only [Tryz.ntmps166, List.size_toArray, List.length_cons, List.length_nil, Nat.reduceAdd, Nat.reduceSub, Array.replicate_succ, Array.replicate_zero, List.push_toArray, List.append_toArray, List.nil_append, List.cons_append]
  refine wpIn_seq (seqIn (ro := none) (by rfl) ?_)
  push_cast -dsimp [c0]
  refine condF (by rfl) (wpIn_skip ?_)
  push_cast -dsimp
  refine wpIn_seq (wpIn_block (loopIn (ro := none) [7, 8, 29, 30, 31, 32, 33, 34, 35, 36, 37, 38, 39, 40, 41, 42, 43, 44, 45, 46, 47, 48] (fun z wx => ∃ pre rest, pre ++ splitB c rest = splitB c s ∧ J pre wx ∧ Blk wx bs 9 [str rest] ∧ Blk wx bp 9 [str [c]] ∧ Blk wx bv 3 [.int .i64 0] ∧ rest.length ≤ s.length) (fun _ wx => rdLen wx bs) ?_ ?_))
  · exact ⟨[], s, rfl, h0, hS, hP, hV, Nat.le_refl _⟩
  · intro z wx hI
    obtain ⟨pre, rest, hsp, hj, hS, hP, hV, hlr⟩ := hI
    have hrd := rdLen_of (hS.cell (o := 0) rfl)
    have cS : wx.cell? ⟨bs, 0, none⟩ = some (str rest) := hS.cell rfl
    have cP : wx.cell? ⟨bp, 0, none⟩ = some (str [c]) := hP.cell rfl
    have cV : wx.cell? ⟨bv, 0, none⟩ = some (.int .i64 0) := hV.cell rfl
    have hse := splitB_eq c rest
    refine wpIn_block (seqIn (ro := none) (by rfl) ?_)
    push_cast -dsimp [cS, cP]
    refine callK_of (index_s rest c wx) ?_
    rintro _ w1 ⟨rfl, rfl⟩
    rw [ib_spec]
    push_cast -dsimp
    refine seqIn (ro := none) (by rfl) ?_
    have fin : ∀ (x : Exit) (t : Fr) (w2 : World), (x = .normal ∨ x = .ret) → ((∃ xs, xs = splitB c s ∧ J xs w2) ∨ ∃ pre, pre <+: splitB c s ∧ Jx pre w2) → bodyPost Tryz.prog Tryz.f166 (fun e W' => (∃ v, e = .returned v) ∧ ((∃ xs, xs = splitB c s ∧ J xs W') ∨ ∃ pre, pre <+: splitB c s ∧ Jx pre W')) x ⟨t.toArray, []⟩ w2 := fun x t w2 hx hh => by
      obtain ⟨vs, h1, _⟩ := resultsC_run (P := Tryz.prog) (w := w2) Tryz.f166 [] (by rfl) t (fun _ => True) trivial
      rcases hx with rfl | rfl <;> exact ⟨rfl, _, h1, ⟨_, rfl⟩, hh⟩
    cases hc : rest.contains c with
    | false =>
      simp only [Bool.false_eq_true, if_false]
      push_cast -dsimp
      have hone : splitB c rest = [rest] := by rw [hse, hc, tw_all hc]; rfl
      rw [hone] at hsp
      have hy := hY pre rest w1 hj (by show pre ++ [rest] <+: _; rw [hsp]; exact List.prefix_refl _)
      refine yieldRegion (l := l) (m := n) (l1 := [_, _]) (l2 := []) (by rfl) (by rfl) (by rfl) (by rfl) ?_
      push_cast -dsimp [cS]
      refine ⟨_, hy, ?_⟩
      rintro e w2 hr
      rcases hr with ⟨rfl, h1, _, _⟩ | ⟨rfl, h1⟩
      · refine ⟨true, rfl, ?_⟩
        exact fin .normal _ _ (.inl rfl) (.inl ⟨_, hsp, h1⟩)
      · refine ⟨false, rfl, ?_⟩
        exact fin .normal _ _ (.inl rfl) (.inr ⟨_, by rw [hsp]; exact List.prefix_refl _, h1⟩)
    | true =>
      simp only [if_true]
      have hlt := tw_lt hc
      rw [hc, if_pos rfl] at hse
      have hg : ∃ k, (rest.takeWhile (· != c)).length = k := ⟨_, rfl⟩
      obtain ⟨k, hk⟩ := hg
      have h1 : rest.takeWhile (· != c) = rest.take k := by rw [← hk]; exact (take_tw _ rest).symm
      have h2 : (rest.dropWhile (· != c)).drop 1 = rest.drop (k + 1) := by rw [← drop_tw, List.drop_drop, hk]
      rw [h1, h2] at hse
      rw [hk] at hlt ⊢
      have hge : decide ((k : Int) < 0) = false := decide_eq_false (by omega)
      have hy := hY pre (rest.take k) w1 hj (by show pre ++ [rest.take k] <+: _; rw [← hsp, hse]; exact ⟨splitB c (rest.drop (k + 1)), by simp⟩)
      push_cast -dsimp [hge]
      refine seqIn (ro := none) (by rfl) ?_
      push_cast -dsimp [cS, cV]
      have ek : ((k : Int) + 0).toNat = k := by omega
      refine ⟨by omega, by omega, ?_⟩
      rw [ek]
      refine wpIn_seq (wpIn_seq (yieldRegion (l := l) (m := n) (l1 := [_, _]) (l2 := [_]) (by rfl) (by rfl) (by rfl) (by rfl) ?_))
      push_cast -dsimp
      refine ⟨_, hy, ?_⟩
      rintro e w2 hr
      have hpre : pre ++ [rest.take k] <+: splitB c s := by rw [← hsp, hse]; exact ⟨splitB c (rest.drop (k + 1)), by simp⟩
      rcases hr with ⟨rfl, h1, hz, hsz⟩ | ⟨rfl, h1⟩
      · refine ⟨true, rfl, ?_⟩
        have hS2 : Blk w2 bs 9 [str rest] := (hz _ (.inl rfl)).trans hS
        have hP2 : Blk w2 bp 9 [str [c]] := (hz _ (.inr (.inl rfl))).trans hP
        have hV2 : Blk w2 bv 3 [.int .i64 0] := (hz _ (.inr (.inr rfl))).trans hV
        have dS : w2.cell? ⟨bs, 0, none⟩ = some (str rest) := hS2.cell rfl
        have dP : w2.cell? ⟨bp, 0, none⟩ = some (str [c]) := hP2.cell rfl
        push_cast -dsimp
        refine condF (by rfl) (wpIn_skip ?_)
        push_cast -dsimp
        refine plainIn (ro := none) (by rfl) ?_
        push_cast -dsimp [dS, dP]
        have ek1 : ((k : Int) + 1).toNat = k + 1 := by omega
        refine ⟨by omega, by omega, ?_⟩
        rw [ek1]
        refine storeK_of hS2 (by simp) rfl ?_
        intro w3 hw3
        have hP3 := hP2.kept hw3.kept (fun h => h1' h.symm)
        have hV3 := hV2.kept hw3.kept (fun h => h2' h.symm)
        have hS3 : Blk w3 bs 9 [str (rest.drop (k + 1))] := hw3.blk
        push_cast -dsimp
        refine ⟨⟨_, _, by rw [List.append_assoc, List.singleton_append, ← hse]; exact hsp, hJ _ _ _ h1 hw3.kept, hS3, hP3, hV3, by rw [List.length_drop]; omega⟩, ?_⟩
        rw [rdLen_of (hS3.cell (o := 0) rfl), hrd, List.length_drop]
        omega
      · refine ⟨false, rfl, ?_⟩
        push_cast -dsimp
        refine condT (by rfl) (wpIn_ret ?_)
        push_cast -dsimp
        exact fin .ret _ _ (.inr rfl) (.inr ⟨_, hpre, h1⟩)
end Go.Proofs.YtiofleijieepgaaGreatDoor
end
section
namespace Cae
theorem hexP_head {n : Nat} (hn : n < 4294967296) : ∃ b r, hexP n = b :: r ∧ isHex b = true := by
  cases h : hexP n with
  | nil => exact absurd h (hexP_ne n)
  | cons b r => exact ⟨b, r, rfl, hexP_all hn b (by rw [h]; simp)⟩
end Cae
namespace Go.Proofs.YtiofleijieepgaaGreatDoor
open Go.Vc Go.Proofs Go.RowKit Cae
set_option maxRecDepth 100000
set_option linter.unusedSimpArgs false
set_option linter.unusedVariables false
attribute [local irreducible] wpL callK valK unitK runK Fun Sl Vc.Own vc vcOps opK pureK
set_option maxHeartbeats 8000000

/-- The two variables that hold errors. -/
def SErrs (w : World) : Prop := (∃ t p, w.cell? ⟨6, 0, none⟩ = some (.iface t p)) ∧ (∃ t p, w.cell? ⟨7, 0, none⟩ = some (.iface t p))
theorem SErrs.below {w w' : World} (h : SErrs w) (hb : Below w.heap.size w w') : SErrs w' := by
  obtain ⟨⟨t, p, h1⟩, ⟨t', p', h2⟩⟩ := h
  exact ⟨⟨t, p, (hb.cell (World.block_lt_of_cell? w _ h1)).trans h1⟩, ⟨t', p', (hb.cell (World.block_lt_of_cell? w _ h2)).trans h2⟩⟩
def toErrR_ren : Go.Shelf.Ren := ⟨fun | 245 => 111 | 279 => 133 | 280 => 134 | 281 => 135 | 282 => 136 | 316 => 159 | 171 => 64 | 205 => 160 | 243 => 98 | 246 => 122 | 283 => 150 | 284 => 151 | 285 => 152 | 286 => 153 | 129 => 169 | 317 => 168 | 318 => 170 | 319 => 171 | 320 => 172 | 337 => 179 | 338 => 180 | n => n, fun | 9 => 9 | 3 => 3 | 75 => 29 | 167 => 176 | 4 => 4 | 168 => 177 | 210 => 210 | 37 => 75 | 0 => 0 | 127 => 108 | 145 => 247 | 143 => 245 | 2 => 2 | 171 => 193 | 53 => 194 | 5 => 5 | 173 => 197 | 212 => 229 | 51 => 118 | 20 => 20 | 213 => 230 | 46 => 148 | 232 => 251 | 233 => 252 | 80 => 82 | n => n, fun | 15 => 6 | 16 => 7 | 17 => 10 | 18 => 11 | 19 => 12 | n => n⟩
theorem toErrR : Go.Proofs.LaysC.n245 Tryz.prog toErrR_ren := {
  mixed := by kernel_rfl
  f129 := Tryz.func169.trans (congrArg some (by kernel_rfl))
  f171 := Tryz.func64.trans (congrArg some (by kernel_rfl))
  f205 := Tryz.func160.trans (congrArg some (by kernel_rfl))
  f243 := Tryz.func98.trans (congrArg some (by kernel_rfl))
  f245 := Tryz.func111.trans (congrArg some (by kernel_rfl))
  f246 := Tryz.func122.trans (congrArg some (by kernel_rfl))
  f279 := Tryz.func133.trans (congrArg some (by kernel_rfl))
  f280 := Tryz.func134.trans (congrArg some (by kernel_rfl))
  f281 := Tryz.func135.trans (congrArg some (by kernel_rfl))
  f282 := Tryz.func136.trans (congrArg some (by kernel_rfl))
  f283 := Tryz.func150.trans (congrArg some (by kernel_rfl))
  f284 := Tryz.func151.trans (congrArg some (by kernel_rfl))
  f285 := Tryz.func152.trans (congrArg some (by kernel_rfl))
  f286 := Tryz.func153.trans (congrArg some (by kernel_rfl))
  f316 := Tryz.func159.trans (congrArg some (by kernel_rfl))
  f317 := Tryz.func168.trans (congrArg some (by kernel_rfl))
  f318 := Tryz.func170.trans (congrArg some (by kernel_rfl))
  f319 := Tryz.func171.trans (congrArg some (by kernel_rfl))
  f320 := Tryz.func172.trans (congrArg some (by kernel_rfl))
  f337 := Tryz.func179.trans (congrArg some (by kernel_rfl))
  f338 := Tryz.func180.trans (congrArg some (by kernel_rfl))
  t0 := Tryz.underlying0
  a0 := Tryz.isAgg0
  z0 := Tryz.sizeOf0
  v0 := Tryz.zeroValue0
  t2 := Tryz.underlying2
  a2 := Tryz.isAgg2
  z2 := Tryz.sizeOf2
  v2 := Tryz.zeroValue2
  t3 := Tryz.underlying3
  a3 := Tryz.isAgg3
  z3 := Tryz.sizeOf3
  v3 := Tryz.zeroValue3
  t4 := Tryz.underlying4
  a4 := Tryz.isAgg4
  z4 := Tryz.sizeOf4
  v4 := Tryz.zeroValue4
  t5 := Tryz.underlying5
  a5 := Tryz.isAgg5
  z5 := Tryz.sizeOf5
  v5 := Tryz.zeroValue5
  t9 := Tryz.underlying9
  a9 := Tryz.isAgg9
  z9 := Tryz.sizeOf9
  v9 := Tryz.zeroValue9
  t20 := Tryz.underlying20
  a20 := Tryz.isAgg20
  z20 := Tryz.sizeOf20
  v20 := Tryz.zeroValue20
  t37 := Tryz.underlying75
  a37 := Tryz.isAgg75
  z37 := Tryz.sizeOf75
  v37 := Tryz.zeroValue75
  t46 := Tryz.underlying148
  a46 := Tryz.isAgg148
  z46 := Tryz.sizeOf148
  v46 := Tryz.zeroValue148
  t51 := Tryz.underlying118
  a51 := Tryz.isAgg118
  z51 := Tryz.sizeOf118
  v51 := Tryz.zeroValue118
  t53 := Tryz.underlying194
  a53 := Tryz.isAgg194
  z53 := Tryz.sizeOf194
  v53 := Tryz.zeroValue194
  t75 := Tryz.underlying29
  a75 := Tryz.isAgg29
  z75 := Tryz.sizeOf29
  v75 := Tryz.zeroValue29
  t127 := Tryz.underlying108
  a127 := Tryz.isAgg108
  z127 := Tryz.sizeOf108
  v127 := Tryz.zeroValue108
  t143 := Tryz.underlying245
  a143 := Tryz.isAgg245
  z143 := Tryz.sizeOf245
  v143 := Tryz.zeroValue245
  t145 := Tryz.underlying247
  a145 := Tryz.isAgg247
  z145 := Tryz.sizeOf247
  v145 := Tryz.zeroValue247
  t167 := Tryz.underlying176
  a167 := Tryz.isAgg176
  z167 := Tryz.sizeOf176
  v167 := Tryz.zeroValue176
  t168 := Tryz.underlying177
  a168 := Tryz.isAgg177
  z168 := Tryz.sizeOf177
  v168 := Tryz.zeroValue177
  t171 := Tryz.underlying193
  a171 := Tryz.isAgg193
  z171 := Tryz.sizeOf193
  v171 := Tryz.zeroValue193
  t173 := Tryz.underlying197
  a173 := Tryz.isAgg197
  z173 := Tryz.sizeOf197
  v173 := Tryz.zeroValue197
  t210 := Tryz.underlying210
  a210 := Tryz.isAgg210
  z210 := Tryz.sizeOf210
  v210 := Tryz.zeroValue210
  t212 := Tryz.underlying229
  a212 := Tryz.isAgg229
  z212 := Tryz.sizeOf229
  v212 := Tryz.zeroValue229
  t213 := Tryz.underlying230
  a213 := Tryz.isAgg230
  z213 := Tryz.sizeOf230
  t232 := Tryz.underlying251
  a232 := Tryz.isAgg251
  z232 := Tryz.sizeOf251
  v232 := Tryz.zeroValue251
  t233 := Tryz.underlying252
  a233 := Tryz.isAgg252
  z233 := Tryz.sizeOf252
  v233 := Tryz.zeroValue252
  g15 := by kernel_rfl
  g16 := by kernel_rfl
  g17 := by kernel_rfl
  g18 := by kernel_rfl
  g19 := by kernel_rfl
  t80 := Tryz.underlying82
  a80 := Tryz.isAgg82
  z80 := Tryz.sizeOf82
  v80 := Tryz.zeroValue82
  i0 := by kernel_rfl
  i2 := by kernel_rfl
  i3 := by kernel_rfl
  i4 := by kernel_rfl
  i5 := by kernel_rfl
  i9 := by kernel_rfl
  i20 := by kernel_rfl
  i37 := by kernel_rfl
  i46 := by kernel_rfl
  i51 := by kernel_rfl
  i53 := by kernel_rfl
  i75 := by kernel_rfl
  i80 := by kernel_rfl
  i127 := by kernel_rfl
  i143 := by kernel_rfl
  i145 := by kernel_rfl
  i167 := by kernel_rfl
  i168 := by kernel_rfl
  i171 := by kernel_rfl
  i173 := by kernel_rfl
  i210 := by kernel_rfl
  i212 := by kernel_rfl
  i232 := by kernel_rfl
  i233 := by kernel_rfl
  m15 := by kernel_rfl
  m16 := by kernel_rfl
  m17 := by kernel_rfl
  m18 := by kernel_rfl
  m19 := by kernel_rfl
  c0 := by kernel_rfl
  c2 := by kernel_rfl
  c3 := by kernel_rfl
  c4 := by kernel_rfl
  c5 := by kernel_rfl
  c9 := by kernel_rfl
  c20 := by kernel_rfl
  c37 := by kernel_rfl
  c46 := by kernel_rfl
  c51 := by kernel_rfl
  c53 := by kernel_rfl
  c75 := by kernel_rfl
  c80 := by kernel_rfl
  c127 := by kernel_rfl
  c143 := by kernel_rfl
  c145 := by kernel_rfl
  c167 := by kernel_rfl
  c168 := by kernel_rfl
  c171 := by kernel_rfl
  c173 := by kernel_rfl
  c210 := by kernel_rfl
  c212 := by kernel_rfl
  c213 := by kernel_rfl
  c232 := by kernel_rfl
  c233 := by kernel_rfl }

theorem toErr_c (f s : List UInt8) (base bits : Int) (k : Int) (hk : k = 1 ∨ k = 2) (hs : s.length ≤ 1000000000) (w : World) (h : SErrs w) : Fun Tryz.prog 111 [str f, str s, .int .i64 base, .int .i64 bits, .iface 176 (.int .i64 k)] w fun r w' => (∃ t p, r = .iface t p) ∧ Below w.heap.size w w' := by
  obtain ⟨⟨t1, p1, h1⟩, ⟨t2, p2, h2⟩⟩ := h
  refine fun_of_calls Tryz.func111 (by kernel_rfl) (by kernel_rfl) ?_
  rcases hk with rfl | rfl
  · refine Calls.mono (Any.strconv_toError_range toErrR ⟨f.toArray⟩ ⟨s.toArray⟩ base bits _ w (by show s.length ≤ _; omega) h2 (.inr ⟨_, _, rfl⟩)) ?_
    rintro e w' ⟨N, rfl, _, _, hb⟩
    exact ⟨_, rfl, ⟨_, _, rfl⟩, hb⟩
  · refine Calls.mono (Any.strconv_toError_syntax toErrR ⟨f.toArray⟩ ⟨s.toArray⟩ base bits _ w (by show s.length ≤ _; omega) h1 (.inr ⟨_, _, rfl⟩)) ?_
    rintro e w' ⟨N, rfl, _, _, hb⟩
    exact ⟨_, rfl, ⟨_, _, rfl⟩, hb⟩
theorem parseInt_l (bits : Int) (hbits : bits = 32 ∨ bits = 40) (s : List UInt8) (hs : s.length ≤ 1000000000) (w : World) : Fun Tryz.prog 132 [str s, .int .i64 16, .int .i64 bits] w fun r w' => (∃ (v : Int) (e : Value), r = .tuple #[.int .i64 v, e] ∧ PErr e ∧ (∀ n < 2147483648, s = hexP n → v = n ∧ e = .nilIface)) ∧ Below w.heap.size w w' := by
  refine fun_of_vc Tryz.func132 rfl (by kernel_rfl) [6, 7] rfl ?_
  push_cast -dsimp (maxSteps := 4000000) [Tryz.ntmps132]
  by_cases hne : s = []
  · subst hne
    have e0 : decide (([] : List UInt8) = []) = true := rfl
    push_cast -dsimp (maxSteps := 4000000) [e0]
    refine ⟨⟨0, _, rfl, .inr (.inr rfl), fun n _ h => absurd h.symm (hexP_ne n)⟩, Below.refl _ _⟩
  have hgc : ∃ c r, s = c :: r := List.exists_cons_of_ne_nil hne
  obtain ⟨c, r, rfl⟩ := hgc
  have e0 : decide (c :: r = []) = false := decide_eq_false hne
  have eh : (c :: r).getD 0 0 = c := rfl
  have hsz : (c :: r).length = r.length + 1 := rfl
  have hgb : ∃ b, c.toNat = b := ⟨_, rfl⟩
  obtain ⟨b, hb0⟩ := hgb
  have hnx : (b = 43 ∨ b = 45) → ∀ n < 2147483648, c :: r ≠ hexP n := fun h n hn hh => by
    obtain ⟨b', r', h1, h2⟩ := hexP_head (n := n) (by omega)
    rw [h1] at hh
    cases hh
    unfold isHex at h2
    rw [hb0, Bool.or_eq_true, Bool.and_eq_true, Bool.and_eq_true, decide_eq_true_eq, decide_eq_true_eq, decide_eq_true_eq, decide_eq_true_eq] at h2
    omega
  have ef : decide False = false := rfl
  have et : decide True = true := rfl
  have ed1 : (c :: r).drop (Int.toNat 1) = r := rfl
  push_cast -dsimp (maxSteps := 4000000) [eh, hb0, ef, et, ed1]
  refine ⟨by omega, fun h43 => ⟨by omega, ?_⟩, fun n43 => ⟨fun h45 => ⟨by omega, ?_⟩, fun n45 => ?_⟩⟩
  · have hno := hnx (.inl (by omega))
    refine callK_of (parseUint_c bits hbits r (by first | omega | exact hs) w) ?_
    rintro _ w1 ⟨⟨v, e, rfl, hv, he, hx⟩, hb⟩
    have ecut : ∃ ct : Nat, IntKind.u64.wrap (1 * 2 ^ min (IntKind.u64.wrap (bits - 1)).toNat IntKind.u64.bits) = (ct : Int) ∧ 2147483648 ≤ ct ∧ ct < 1099511627776 := by
      rcases hbits with rfl | rfl
      · exact ⟨2147483648, by decide, by omega, by omega⟩
      · exact ⟨549755813888, by decide, by omega, by omega⟩
    obtain ⟨ct, ecut, hct1, hct2⟩ := ecut
    have ewv : IntKind.i64.wrap (v : Int) = (v : Int) := by rw [wrap_i64 (by omega)]
    rcases he with rfl | rfl | rfl
    · push_cast -dsimp (maxSteps := 4000000) [ef, et]
      rw [ecut]
      refine ⟨fun h => by omega, fun _ => ⟨by omega, by rcases hbits with rfl | rfl <;> decide, fun hge => ⟨⟨_, _, rfl, .inr (.inl rfl), fun n hn h => ?_⟩, hb⟩, fun hlt => ⟨⟨_, _, rfl, .inl rfl, fun n hn h => ?_⟩, hb⟩⟩⟩
      · first | exact absurd h (hno n hn) | (have := (hx n (by omega) h).1; omega)
      · first | exact absurd h (hno n hn) | (have := (hx n (by omega) h).1; exact ⟨by rw [ewv]; omega, rfl⟩)
    · push_cast -dsimp (maxSteps := 4000000) [ef, et]
      refine neqIfaceK (te := 176) (k := .i64) (q := .i64) rfl rfl rfl Tryz.underlying29 (by kernel_rfl) (by kernel_rfl) ?_
      have e12 : (!((1 : Int) == 1)) = false := rfl
      rw [e12]
      push_cast -dsimp (maxSteps := 4000000) [ef, et]
      refine ⟨fun h => by omega, fun _ => ⟨by omega, by rcases hbits with rfl | rfl <;> decide, fun hge => ⟨⟨_, _, rfl, .inr (.inl rfl), fun n hn h => ?_⟩, hb⟩, fun hlt => ⟨⟨_, _, rfl, .inl rfl, fun n hn h => ?_⟩, hb⟩⟩⟩
      · first | exact absurd h (hno n hn) | (have := (hx n (by omega) h).2; cases this)
      · first | exact absurd h (hno n hn) | (have := (hx n (by omega) h).2; cases this)
    · push_cast -dsimp (maxSteps := 4000000) [ef, et]
      refine neqIfaceK (te := 176) (k := .i64) (q := .i64) rfl rfl rfl Tryz.underlying29 (by kernel_rfl) (by kernel_rfl) ?_
      have e12 : (!((2 : Int) == 1)) = true := rfl
      rw [e12]
      push_cast -dsimp (maxSteps := 4000000) [ef, et]
      refine ⟨⟨_, _, rfl, .inr (.inr rfl), fun n hn h => ?_⟩, hb⟩
      first | exact absurd h (hno n hn) | (have := (hx n (by omega) h).2; cases this)
  · have hno := hnx (.inr (by omega))
    refine callK_of (parseUint_c bits hbits r (by first | omega | exact hs) w) ?_
    rintro _ w1 ⟨⟨v, e, rfl, hv, he, hx⟩, hb⟩
    have ecut : ∃ ct : Nat, IntKind.u64.wrap (1 * 2 ^ min (IntKind.u64.wrap (bits - 1)).toNat IntKind.u64.bits) = (ct : Int) ∧ 2147483648 ≤ ct ∧ ct < 1099511627776 := by
      rcases hbits with rfl | rfl
      · exact ⟨2147483648, by decide, by omega, by omega⟩
      · exact ⟨549755813888, by decide, by omega, by omega⟩
    obtain ⟨ct, ecut, hct1, hct2⟩ := ecut
    have ewv : IntKind.i64.wrap (v : Int) = (v : Int) := by rw [wrap_i64 (by omega)]
    rcases he with rfl | rfl | rfl
    · push_cast -dsimp (maxSteps := 4000000) [ef, et]
      rw [ecut]
      refine ⟨fun h => by omega, fun _ => ⟨by omega, by rcases hbits with rfl | rfl <;> decide, fun hge => ⟨⟨_, _, rfl, .inr (.inl rfl), fun n hn h => ?_⟩, hb⟩, fun hlt => ⟨⟨_, _, rfl, .inl rfl, fun n hn h => ?_⟩, hb⟩⟩⟩
      · first | exact absurd h (hno n hn) | (have := (hx n (by omega) h).1; omega)
      · first | exact absurd h (hno n hn) | (have := (hx n (by omega) h).1; exact ⟨by rw [ewv]; omega, rfl⟩)
    · push_cast -dsimp (maxSteps := 4000000) [ef, et]
      refine neqIfaceK (te := 176) (k := .i64) (q := .i64) rfl rfl rfl Tryz.underlying29 (by kernel_rfl) (by kernel_rfl) ?_
      have e12 : (!((1 : Int) == 1)) = false := rfl
      rw [e12]
      push_cast -dsimp (maxSteps := 4000000) [ef, et]
      refine ⟨fun h => by omega, fun _ => ⟨by omega, by rcases hbits with rfl | rfl <;> decide, fun hge => ⟨⟨_, _, rfl, .inr (.inl rfl), fun n hn h => ?_⟩, hb⟩, fun hlt => ⟨⟨_, _, rfl, .inl rfl, fun n hn h => ?_⟩, hb⟩⟩⟩
      · first | exact absurd h (hno n hn) | (have := (hx n (by omega) h).2; cases this)
      · first | exact absurd h (hno n hn) | (have := (hx n (by omega) h).2; cases this)
    · push_cast -dsimp (maxSteps := 4000000) [ef, et]
      refine neqIfaceK (te := 176) (k := .i64) (q := .i64) rfl rfl rfl Tryz.underlying29 (by kernel_rfl) (by kernel_rfl) ?_
      have e12 : (!((2 : Int) == 1)) = true := rfl
      rw [e12]
      push_cast -dsimp (maxSteps := 4000000) [ef, et]
      refine ⟨⟨_, _, rfl, .inr (.inr rfl), fun n hn h => ?_⟩, hb⟩
      first | exact absurd h (hno n hn) | (have := (hx n (by omega) h).2; cases this)
  · skip
    refine callK_of (parseUint_c bits hbits (c :: r) (by first | omega | exact hs) w) ?_
    rintro _ w1 ⟨⟨v, e, rfl, hv, he, hx⟩, hb⟩
    have ecut : ∃ ct : Nat, IntKind.u64.wrap (1 * 2 ^ min (IntKind.u64.wrap (bits - 1)).toNat IntKind.u64.bits) = (ct : Int) ∧ 2147483648 ≤ ct ∧ ct < 1099511627776 := by
      rcases hbits with rfl | rfl
      · exact ⟨2147483648, by decide, by omega, by omega⟩
      · exact ⟨549755813888, by decide, by omega, by omega⟩
    obtain ⟨ct, ecut, hct1, hct2⟩ := ecut
    have ewv : IntKind.i64.wrap (v : Int) = (v : Int) := by rw [wrap_i64 (by omega)]
    rcases he with rfl | rfl | rfl
    · push_cast -dsimp (maxSteps := 4000000) [ef, et]
      rw [ecut]
      refine ⟨fun h => by omega, fun _ => ⟨by omega, by rcases hbits with rfl | rfl <;> decide, fun hge => ⟨⟨_, _, rfl, .inr (.inl rfl), fun n hn h => ?_⟩, hb⟩, fun hlt => ⟨⟨_, _, rfl, .inl rfl, fun n hn h => ?_⟩, hb⟩⟩⟩
      · first | exact absurd h (hno n hn) | (have := (hx n (by omega) h).1; omega)
      · first | exact absurd h (hno n hn) | (have := (hx n (by omega) h).1; exact ⟨by rw [ewv]; omega, rfl⟩)
    · push_cast -dsimp (maxSteps := 4000000) [ef, et]
      refine neqIfaceK (te := 176) (k := .i64) (q := .i64) rfl rfl rfl Tryz.underlying29 (by kernel_rfl) (by kernel_rfl) ?_
      have e12 : (!((1 : Int) == 1)) = false := rfl
      rw [e12]
      push_cast -dsimp (maxSteps := 4000000) [ef, et]
      refine ⟨fun h => by omega, fun _ => ⟨by omega, by rcases hbits with rfl | rfl <;> decide, fun hge => ⟨⟨_, _, rfl, .inr (.inl rfl), fun n hn h => ?_⟩, hb⟩, fun hlt => ⟨⟨_, _, rfl, .inl rfl, fun n hn h => ?_⟩, hb⟩⟩⟩
      · first | exact absurd h (hno n hn) | (have := (hx n (by omega) h).2; cases this)
      · first | exact absurd h (hno n hn) | (have := (hx n (by omega) h).2; cases this)
    · push_cast -dsimp (maxSteps := 4000000) [ef, et]
      refine neqIfaceK (te := 176) (k := .i64) (q := .i64) rfl rfl rfl Tryz.underlying29 (by kernel_rfl) (by kernel_rfl) ?_
      have e12 : (!((2 : Int) == 1)) = true := rfl
      rw [e12]
      push_cast -dsimp (maxSteps := 4000000) [ef, et]
      refine ⟨⟨_, _, rfl, .inr (.inr rfl), fun n hn h => ?_⟩, hb⟩
      first | exact absurd h (hno n hn) | (have := (hx n (by omega) h).2; cases this)
theorem parseInt_c (bits : Int) (hbits : bits = 32 ∨ bits = 40) (s : List UInt8) (hs : s.length ≤ 1000000000) (w : World) (h : SErrs w) : Fun Tryz.prog 109 [str s, .int .i64 16, .int .i64 bits] w fun r w' => (∃ (v : Int) (e : Value), r = .tuple #[.int .i64 v, e] ∧ (e = .nilIface ∨ ∃ t x, e = .iface t x) ∧ (∀ n < 2147483648, s = hexP n → v = n ∧ e = .nilIface)) ∧ Below w.heap.size w w' := by
  refine fun_of_vc Tryz.func109 rfl (by kernel_rfl) [6, 7] rfl ?_
  push_cast -dsimp (maxSteps := 4000000) [Tryz.ntmps109]
  refine callK_of (parseInt_l bits hbits s hs w) ?_
  rintro _ w1 ⟨⟨v, e, rfl, he, hx⟩, hb⟩
  rcases he with rfl | rfl | rfl
  · push_cast -dsimp (maxSteps := 4000000) []
    exact ⟨⟨_, _, rfl, .inl rfl, hx⟩, hb⟩
  · push_cast -dsimp (maxSteps := 4000000) []
    refine callK_of (toErr_c [80, 97, 114, 115, 101, 73, 110, 116] s 16 bits 1 (.inl rfl) hs w1 (h.below hb)) ?_
    rintro _ w2 ⟨⟨t, p, rfl⟩, hb2⟩
    push_cast -dsimp (maxSteps := 4000000) []
    exact ⟨⟨_, _, rfl, .inr ⟨_, _, rfl⟩, fun n hn hh => by have := (hx n hn hh).2; cases this⟩, hb.trans (hb2.mono hb.size)⟩
  · push_cast -dsimp (maxSteps := 4000000) []
    refine callK_of (toErr_c [80, 97, 114, 115, 101, 73, 110, 116] s 16 bits 2 (.inr rfl) hs w1 (h.below hb)) ?_
    rintro _ w2 ⟨⟨t, p, rfl⟩, hb2⟩
    push_cast -dsimp (maxSteps := 4000000) []
    exact ⟨⟨_, _, rfl, .inr ⟨_, _, rfl⟩, fun n hn hh => by have := (hx n hn hh).2; cases this⟩, hb.trans (hb2.mono hb.size)⟩
end Go.Proofs.YtiofleijieepgaaGreatDoor
end
section
namespace Go.Proofs.YtiofleijieepgaaGreatDoor
open Go.Vc Go.Proofs Go.RowKit Cae
set_option maxRecDepth 100000
set_option linter.unusedSimpArgs false
set_option linter.unusedVariables false
attribute [local irreducible] wpL callK valK unitK runK Fun Sl Vc.Own vc vcOps opK pureK
set_option maxHeartbeats 8000000

/-- What Parse hands back. -/
def ParseR (B : Nat) (s : List UInt8) (r : Value) (w : World) : Prop :=
  (∃ v l, r = .tuple #[v, .nilIface] ∧ Go.Vc.Own B 138 2 encR w v l ∧ PrintOf s l) ∨ ((∀ l, ¬ PrintOf s l) ∧ r = .tuple #[.slice none 0 0, .iface 47 (.int .i64 3)])
/-- Between two rounds. -/
def ParI (sz : Nat) (w : World) (s body : List UInt8) (pre : List (List UInt8)) (W : World) : Prop :=
  ∃ v out, Blk W sz 102 [.slice none 0 0] ∧ Blk W (sz + 1) 29 [.nilIface] ∧ Blk W (sz + 2) 9 [str body] ∧ Blk W (sz + 3) 102 [v] ∧ Go.Vc.Own (sz + 9) 138 2 encR W v out ∧ out.length = pre.length ∧ (body = [] → out = []) ∧ (∀ l, PrintOf s l → out = l.take pre.length) ∧ Below sz w W
/-- Where a round has left the loop. -/
def ParX (sz : Nat) (w : World) (s body : List UInt8) (c : Code) (pre : List (List UInt8)) (W : World) : Prop :=
  (c = .ret ∧ Blk W sz 102 [.slice none 0 0] ∧ Blk W (sz + 1) 29 [.iface 47 (.int .i64 3)] ∧ (∀ l, ¬ PrintOf s l) ∧ Below sz w W) ∨ (c = .exit 0 ∧ body = [] ∧ ParI sz w s body [] W)
theorem ParI.kept {sz : Nat} {w W W' : World} {s body : List UInt8} {pre : List (List UInt8)} (hw : sz = w.heap.size) (h : ParI sz w s body pre W) (hk : Kept (fun k => k = sz + 4 ∨ k = sz + 7 ∨ k = sz + 7 + 1) W W') : ParI sz w s body pre W' := by
  obtain ⟨v, out, h1, h2, h3, h4, h5, h6, h7, h8, h9⟩ := h
  exact ⟨v, out, h1.kept hk (by omega), h2.kept hk (by omega), h3.kept hk (by omega), h4.kept hk (by omega), h5.keptX hk (fun g hg hh => by have := (h5.block g hg).1; omega), h6, h7, h8, h9.trans (hk.below (by have := h9.size; omega) (fun i h => by omega))⟩
theorem ParX.kept {sz : Nat} {w W W' : World} {s body : List UInt8} {c : Code} {pre : List (List UInt8)} (hw : sz = w.heap.size) (h : ParX sz w s body c pre W) (hk : Kept (fun k => k = sz + 4 ∨ k = sz + 7 ∨ k = sz + 7 + 1) W W') : ParX sz w s body c pre W' := by
  rcases h with ⟨h0, h1, h2, h3, h9⟩ | ⟨h0, h1, h2⟩
  · exact .inl ⟨h0, h1.kept hk (by omega), h2.kept hk (by omega), h3, h9.trans (hk.below (by have := h9.size; omega) (fun i h => by omega))⟩
  · exact .inr ⟨h0, h1, h2.kept hw hk⟩
theorem parse_end {w W : World} {s : List UInt8} {r1 r2 : Value} {D : Nat} (hD : D = w.heap.size + 7) (P1 : Blk W w.heap.size 102 [r1]) (P2 : Blk W (w.heap.size + 1) 29 [r2]) (hDW : W.heap[D]? = some (.deferred (some []))) (hb : Below w.heap.size w W)
    (hR : ParseR w.heap.size s (.tuple #[r1, r2]) (W.putObj D (.deferred none))) {t : Fr} (h2 : t.getD 2 undef = .pointer (some ⟨w.heap.size, 0, none⟩)) (h3 : t.getD 3 undef = .pointer (some ⟨w.heap.size + 1, 0, none⟩)) :
    bodyPostM Fence.wide 0 Tryz.prog Tryz.f91 (fun e w' => ∃ v, e = .returned v ∧ ParseR w.heap.size s v w' ∧ Below w.heap.size w w') .ret ⟨t.toArray, [{ target := .collected D, args := #[] }]⟩ W := by
  have hk := keptPut (X := fun k => k = D) W D (.deferred none) rfl
  have Q1 := P1.kept hk (by omega)
  have Q2 := P2.kept hk (by omega)
  refine leaveD (rs := [.cell 2 102, .cell 3 29]) (by rfl) hDW ?_
  have d1 : (W.putObj D (.deferred none)).cell? ⟨w.heap.size, 0, none⟩ = some r1 := Q1.cell rfl
  have d2 : (W.putObj D (.deferred none)).cell? ⟨w.heap.size + 1, 0, none⟩ = some r2 := Q2.cell rfl
  have hgW : ∃ V, W.putObj D (.deferred none) = V := ⟨_, rfl⟩
  obtain ⟨V, hV⟩ := hgW
  rw [hV] at d1 d2 hR hk ⊢
  push_cast -dsimp [h2, h3, d1, d2]
  exact ⟨hR, hb.trans (hk.below hb.size (fun i h => by omega))⟩
theorem parse_c (s : List UInt8) (hs : s.length ≤ 1000000) (w : World) (hd : Db w) (he : SErrs w) : Fun Tryz.prog 91 [str s] w fun r w' => ParseR w.heap.size s r w' ∧ Below w.heap.size w w' := by
  refine fun_of_in Tryz.func91 rfl (by kernel_rfl) ?_
  simp -dsimp (maxSteps := 4000000) only [push_cast, fr0, Tryz.ntmps91, List.length_cons, List.length_nil, Nat.reduceAdd, Nat.reduceSub, Nat.reduceBEq, List.replicate_succ, List.replicate_zero]
  refine seqIn (ro := none) (by rfl) ?_
  push_cast -dsimp
  refine allocK (z := [.slice none 0 0]) (by kernel_rfl) ?_
  intro w1 hw1
  have sz1 := hw1.size
  have B1 := hw1.blk
  have b1 := hw1.below
  push_cast -dsimp
  refine allocK (z := [.nilIface]) (by kernel_rfl) ?_
  intro w2 hw2
  have sz2 := hw2.size
  have B12 := B1.below hw2.below (by omega)
  have B22 := hw2.blk
  have b2 := b1.trans (hw2.below.mono (by omega))
  rw [sz1] at B22
  push_cast -dsimp [sz1]
  refine seqIn (ro := none) (by rfl) ?_
  push_cast -dsimp
  refine callK_of (cutPre_c s [91] w2) ?_
  rintro _ w2' ⟨rfl, rfl⟩
  push_cast -dsimp
  refine allocK (z := [str []]) (by kernel_rfl) ?_
  intro w3 hw3
  have sz3 := hw3.size
  have B13 := B12.below hw3.below (by omega)
  have B23 := B22.below hw3.below (by omega)
  have B33 := hw3.blk
  have b3 := b2.trans (hw3.below.mono (by omega))
  have es2 : w2'.heap.size = w.heap.size + 2 := by omega
  rw [es2] at B33
  push_cast -dsimp [es2]
  refine storeK_of B33 (by simp) rfl ?_
  intro w4 hw4
  have sz4 : w4.heap.size = w3.heap.size := hw4.size
  have B14 := B13.kept hw4.kept (by omega)
  have B24 := B23.kept hw4.kept (by omega)
  have B34 : Blk w4 (w.heap.size + 2) 9 [str (Lib.trimPrefix s [91])] := hw4.blk
  have b4 := b3.trans (hw4.kept.below (B := w.heap.size) (by omega) (fun i h => by omega))
  have c34 : w4.cell? ⟨w.heap.size + 2, 0, none⟩ = some (str (Lib.trimPrefix s [91])) := B34.cell rfl
  have htl : (Lib.trimPrefix s [91]).length ≤ s.length := by
    unfold Lib.trimPrefix
    split
    · rw [List.length_drop]; omega
    · exact Nat.le_refl _
  push_cast -dsimp
  refine seqIn (ro := none) (by rfl) ?_
  push_cast -dsimp [c34]
  refine callK_of (cutSuf_c (Lib.trimPrefix s [91]) [93] (by omega) w4) ?_
  rintro _ w4' ⟨rfl, rfl⟩
  push_cast -dsimp
  refine storeK_of B34 (by simp) rfl ?_
  intro w5 hw5
  have sz5 : w5.heap.size = w4'.heap.size := hw5.size
  have B15 := B14.kept hw5.kept (by omega)
  have B25 := B24.kept hw5.kept (by omega)
  have hgb : ∃ body, Lib.trimSuffix (Lib.trimPrefix s [91]) [93] = body := ⟨_, rfl⟩
  obtain ⟨body, hbody⟩ := hgb
  have hbl : body.length ≤ s.length := by
    rw [← hbody]
    unfold Lib.trimSuffix
    split
    · rw [List.length_take]; omega
    · exact htl
  rw [hbody] at hw5
  rw [hbody]
  have B35 : Blk w5 (w.heap.size + 2) 9 [str body] := hw5.blk
  have b5 := b4.trans (hw5.kept.below (B := w.heap.size) (by omega) (fun i h => by omega))
  have c15 : w5.cell? ⟨w.heap.size, 0, none⟩ = some (.slice none 0 0) := B15.cell rfl
  have hgp : ∃ pf, Lib.hasPrefix s [91] = pf := ⟨_, rfl⟩
  obtain ⟨pf, hpf⟩ := hgp
  have hgq : ∃ sf, Lib.hasSuffix (Lib.trimPrefix s [91]) [93] = sf := ⟨_, rfl⟩
  obtain ⟨sf, hsf⟩ := hgq
  rw [hpf, hsf]
  push_cast -dsimp
  refine seqIn (ro := none) (by rfl) ?_
  cases hps : (pf && sf) with
  | false =>
    have hno : ∀ l, ¬ PrintOf s l := fun l h => by
      have := print_pre h
      rw [hpf, hsf] at this
      rw [this.1, this.2.1] at hps
      cases hps
    cases pf <;> cases sf <;> first | (cases hps; done) | skip
    all_goals
      push_cast -dsimp
      refine storeK_of B15 (by simp) rfl ?_
      intro w6 hw6
      have sz6 : w6.heap.size = w5.heap.size := hw6.size
      have B26 := B25.kept hw6.kept (by omega)
      have B16 : Blk w6 w.heap.size 102 [.slice none 0 0] := hw6.blk
      push_cast -dsimp
      refine storeK_of B26 (by simp) rfl ?_
      intro w7 hw7
      have B17 := B16.kept hw7.kept (by omega)
      have B27 : Blk w7 (w.heap.size + 1) 29 [.iface 47 (.int .i64 3)] := hw7.blk
      have b7 := (b5.trans (hw6.kept.below (B := w.heap.size) (by omega) (fun i h => by omega))).trans (hw7.kept.below (B := w.heap.size) (by omega) (fun i h => by omega))
      have d1 : w7.cell? ⟨w.heap.size, 0, none⟩ = some (.slice none 0 0) := B17.cell rfl
      have d2 : w7.cell? ⟨w.heap.size + 1, 0, none⟩ = some (.iface 47 (.int .i64 3)) := B27.cell rfl
      push_cast -dsimp
      refine leave0 (rs := [.cell 2 102, .cell 3 29]) (by rfl) ?_
      push_cast -dsimp [d1, d2]
      exact ⟨.inr ⟨hno, rfl⟩, b7⟩
  | true =>
    cases pf <;> cases sf <;> first | (cases hps; done) | skip
    push_cast -dsimp
    refine seqIn (ro := none) (by rfl) ?_
    push_cast -dsimp
    refine allocK (z := [.slice none 0 0]) (by kernel_rfl) ?_
    intro w6 hw6
    have sz6 := hw6.size
    have B16 := B15.below hw6.below (by omega)
    have B26 := B25.below hw6.below (by omega)
    have B36 := B35.below hw6.below (by omega)
    have B46 := hw6.blk
    have b6 := b5.trans (hw6.below.mono (by omega))
    have es5 : w5.heap.size = w.heap.size + 3 := by omega
    rw [es5] at B46
    have c36 : w6.cell? ⟨w.heap.size + 2, 0, none⟩ = some (str body) := B36.cell rfl
    push_cast -dsimp [es5]
    refine wpIn_seq (seqIn (ro := none) (by rfl) ?_)
    push_cast -dsimp [c36]
    refine callK_of (splitSeqs_c body 32 w6) ?_
    rintro _ w7 ⟨rfl, hS, hP, hV, sz7, hb7⟩
    have es6 : w6.heap.size = w.heap.size + 4 := by omega
    rw [es6] at hS hP hV
    have B17 := B16.below hb7 (by omega)
    have B27 := B26.below hb7 (by omega)
    have B37 := B36.below hb7 (by omega)
    have B47 := B46.below hb7 (by omega)
    have b7 := b6.trans (hb7.mono (by omega))
    push_cast -dsimp [es6]
    have es7 : w7.heap.size = w.heap.size + 7 := by omega
    have hS7 : Blk w7 (w.heap.size + 4) 9 [str body] := hS
    refine wpIn_block (rangeV (α := List UInt8) (gf := 166) (lb := [.pointer (some ⟨w.heap.size + 4 + 1, 0, none⟩), .pointer (some ⟨w.heap.size + 4, 0, none⟩), .pointer (some ⟨w.heap.size + 4 + 2, 0, none⟩)]) (by rfl) (fun args w => callFunc_enter Tryz.func166 (by kernel_rfl) (by kernel_rfl)) (en := fun x => str x) (B := fun k => k = w.heap.size + 4) (Z := fun k => k = w.heap.size + 4 ∨ k = w.heap.size + 4 + 1 ∨ k = w.heap.size + 4 + 2)
      (fun k hk => by omega) (fun k hk => by omega) (split_it body 32 (by omega) _ _ _ _ (by omega) (by omega) w7 hS hP hV) (ParI w.heap.size w s body) (ParX w.heap.size w s body) (fun p W W' h hk => h.kept rfl (by rw [es7] at hk; exact hk)) (fun c p W W' h hk => h.kept rfl (by rw [es7] at hk; exact hk)) ?_ 8 (by rfl) (by rfl) ?_ ?_ ?_ ?_)
    · exact ⟨_, [], B17, B27, B37, B47, Go.Vc.Own.nil (enc := encR) _ _ (fun _ => rfl) _, rfl, fun _ => rfl, fun l _ => rfl, b7⟩
    · intro x W
      push_cast -dsimp
    · intro pre x W hI hA hWs
      obtain ⟨v, out, P1, P2, P3, P4, ho, hol, hob, hol2, hbB⟩ := hI
      have hbs := hbB.size
      have cb : W.cell? ⟨w.heap.size + 2, 0, none⟩ = some (str body) := P3.cell rfl
      have hxm : x ∈ splitB 32 body := hA.subset (by simp)
      have hxl := splitB_mem 32 body x hxm
      have hpreL : pre.length ≤ body.length := by
        have h1 := hA.length_le
        have h2 := splitB_len 32 body
        rw [List.length_append, List.length_singleton] at h1
        omega
      have hpl : ∀ l, PrintOf s l → setRight (-2) l = true ∧ body = bodyP l := fun l hl => ⟨hl.1, by rw [← hbody]; exact (print_pre hl).2.2⟩
      push_cast -dsimp [cb]
      refine ⟨fun hbe => ?_, fun hbne => ?_⟩
      · have hoe := hob hbe
        subst hoe
        exact ⟨Nat.le_refl _, .inr ⟨rfl, hbe, v, [], P1, P2, P3, P4, ho, rfl, fun _ => rfl, fun l _ => rfl, hbB⟩⟩
      · refine callK_of (cut_c x 45 (by omega) W) ?_
        rintro _ w8 ⟨rfl, hb8⟩
        have hgc : ∃ a b two, cutP 45 x = (a, b, two) := ⟨_, _, _, rfl⟩
        obtain ⟨a, b, two, hcut⟩ := hgc
        have hcl := cutP_len 45 x
        rw [hcut] at hcl
        rw [hcut]
        obtain ⟨hla, hlb⟩ := hcl
        dsimp only at hla hlb
        cases two with
        | true =>
          have hcp : ∀ l, PrintOf s l → ∃ r, l[pre.length]? = some r ∧ 0 ≤ r.1 ∧ r.1 ≤ r.2 ∧ r.2 ≤ 1114111 ∧ a = hexP r.1.toNat ∧ b = hexP r.2.toNat := fun l hl => by
            obtain ⟨hr, hbb⟩ := hpl l hl
            obtain ⟨r, hr1, hr0, hr2, hr3, hr4⟩ := round_plain hr hbb hbne hA
            rw [hr0] at hcut
            by_cases hlt : r.1 < r.2
            · rw [cut_rg (by omega) (by omega) (by omega) hlt] at hcut
              exact ⟨r, hr1, hr2, hr3, hr4, (Prod.mk.inj hcut).1.symm, (Prod.mk.inj (Prod.mk.inj hcut).2).1.symm⟩
            · rw [cut_rg1 (by omega) (by omega) hlt] at hcut
              cases (Prod.mk.inj (Prod.mk.inj hcut).2).2
          push_cast -dsimp
          refine callK_of (parseInt_c 32 (.inl rfl) a (by omega) w8 (he.below (hbB.trans (hb8.mono hbs)))) ?_
          rintro _ w9 ⟨⟨v1, e1, rfl, he1, hx1⟩, hb9⟩
          push_cast -dsimp
          refine callK_of (parseInt_c 32 (.inl rfl) b (by omega) w9 (he.below (hbB.trans ((hb8.tr hb9).mono hbs)))) ?_
          rintro _ w10 ⟨⟨v2, e2, rfl, he2, hx2⟩, hb10⟩
          have hb10' := (hb8.tr hb9).tr hb10
          have Q1 := P1.below hb10' (by omega)
          have Q2 := P2.below hb10' (by omega)
          have Q3 := P3.below hb10' (by omega)
          have Q4 := P4.below hb10' (by omega)
          have hoq := ho.below hb10'
          have hbq := hbB.trans (hb10'.mono hbs)
          have hWq := hb10'.size
          have hkq : Kept (fun _ => False) W w10 := Kept.of_below hb10' (fun i h1 h2 => by omega)
          have hval : ∀ l, PrintOf s l → ∃ r, l[pre.length]? = some r ∧ v1 = r.1 ∧ v2 = r.2 ∧ e1 = .nilIface ∧ e2 = .nilIface := fun l hl => by
            obtain ⟨r, hr1, hr2, hr3, hr4, ha1, ha2⟩ := hcp l hl
            have h1 := hx1 _ (by omega) ha1
            have h2 := hx2 _ (by omega) ha2
            exact ⟨r, hr1, by rw [h1.1]; omega, by rw [h2.1]; omega, h1.2, h2.2⟩
          by_cases hee : e1 = .nilIface ∧ e2 = .nilIface
          · obtain ⟨rfl, rfl⟩ := hee
            have cv : w10.cell? ⟨w.heap.size + 3, 0, none⟩ = some v := Q4.cell rfl
            have hsh := hoq.slice
            obtain ⟨oa, oc, rfl⟩ := hsh
            push_cast -dsimp [cv]
            refine rowK elI_102 rfl rfl (by omega) ?_
            intro w11 hw11
            have sz11 := hw11.size
            have ho11 := hoq.new hw11
            have R4 := Q4.below hw11.below (by omega)
            push_cast -dsimp
            refine appendK2 (base := w.heap.size + 9) [(v1, v2)] (enc := encR) elI_102 ho11 (by rfl) (fun j u hu => by simpa [encR] using hw11.cell hu) encR_one (by simp only [List.length_cons, List.length_nil]; omega) (by omega) ?_
            intro v12 w12 ho12 hg12 hn12
            have kg : Kept (fun j => (Value.slice oa out.length oc).ownBlock = some j) w11 w12 := Kept.grown hg12 (fun _ h => h)
            have hown := ho11.block
            have R5 : Blk w12 (w.heap.size + 3) 102 [.slice oa out.length oc] := R4.kept kg (fun h => by have := (hown _ h).1; omega)
            push_cast -dsimp
            have hsh := ho12.slice
            obtain ⟨va, vc, rfl⟩ := hsh
            refine storeK_of R5 (by simp) rfl ?_
            intro w13 hw13
            have k13 : Kept (fun j => j = w.heap.size + 3 ∨ (Value.slice oa out.length oc).ownBlock = some j) w10 w13 := ((Kept.new (X := fun j => j = w.heap.size + 3 ∨ (Value.slice oa out.length oc).ownBlock = some j) hw11).trans kg (fun _ _ h => .inr h)).trans hw13.kept (fun _ _ h => .inl h)
            have hlow : ∀ {k : Nat}, k = w.heap.size + 3 ∨ (Value.slice oa out.length oc).ownBlock = some k → w.heap.size + 9 ≤ k ∨ k = w.heap.size + 3 := fun h => by
              rcases h with h | h
              · exact .inr h
              · exact .inl (hown _ h).1
            have S1 := Q1.kept k13 (fun h => by have := hlow h; omega)
            have S2 := Q2.kept k13 (fun h => by have := hlow h; omega)
            have S3 := Q3.kept k13 (fun h => by have := hlow h; omega)
            have S4 : Blk w13 (w.heap.size + 3) 102 [.slice va (out ++ [(v1, v2)]).length vc] := hw13.blk
            have ho13 := ho12.keptX hw13.kept (fun g hg h => by have := (ho12.block g hg).1; omega)
            have hz : ∀ k, (k = w.heap.size + 4 ∨ k = w.heap.size + 4 + 1 ∨ k = w.heap.size + 4 + 2) ∨ k = w7.heap.size ∨ k = w7.heap.size + 1 → w13.heap[k]? = W.heap[k]? := fun k hk =>
              (k13.block k (by omega) (fun h => by have := hlow h; omega)).trans (hkq.block k (by omega) (fun h => h))
            have hend : ParI w.heap.size w s body (pre ++ [x]) w13 := ⟨_, out ++ [(v1, v2)], S1, S2, S3, S4, ho13, by rw [List.length_append, List.length_append, hol]; rfl, fun h => absurd h hbne, fun l hl => by
                obtain ⟨r, hr1, rfl, rfl, _, _⟩ := hval l hl
                have ht : l.take (pre ++ [x]).length = l.take pre.length ++ [r] := by
                  rw [List.length_append, List.length_singleton, List.take_add_one, hr1]; rfl
                rw [ht, ← hol2 l hl], hbq.trans (k13.below (B := w.heap.size) (by omega) (fun i h => by have := hlow h; omega))⟩
            have hsz13 : W.heap.size ≤ w13.heap.size := by have := k13.size; omega
            push_cast -dsimp
            exact ⟨hsz13, hz, hend⟩
          · have herr : ∀ l, ¬ PrintOf s l := fun l hl => by
              obtain ⟨r, _, _, _, h1, h2⟩ := hval l hl
              exact hee ⟨h1, h2⟩
            have fin : ∀ (w13 : World), Blk w13 w.heap.size 102 [.slice none 0 0] → Blk w13 (w.heap.size + 1) 29 [.iface 47 (.int .i64 3)] → Kept (fun k => k = w.heap.size ∨ k = w.heap.size + 1) w10 w13 → W.heap.size ≤ w13.heap.size ∧ (∀ k, (k = w.heap.size + 4 ∨ k = w.heap.size + 4 + 1 ∨ k = w.heap.size + 4 + 2) ∨ k = w7.heap.size ∨ k = w7.heap.size + 1 → w13.heap[k]? = W.heap[k]?) ∧ ParX w.heap.size w s body .ret (pre ++ [x]) w13 := fun w13 h1 h2 hk =>
              ⟨by have := hk.size; omega, fun k h => (hk.block k (by omega) (by omega)).trans (hkq.block k (by omega) (fun h => h)), .inl ⟨rfl, h1, h2, herr, hbq.trans (hk.below (by omega) (fun i h => by omega))⟩⟩
            rcases he1 with rfl | ⟨t1, x1, rfl⟩
            · rcases he2 with rfl | ⟨t2, x2, rfl⟩
              · exact absurd ⟨rfl, rfl⟩ hee
              · push_cast -dsimp
                refine storeK_of Q1 (by simp) rfl ?_
                intro w11 hw11
                have T2 := Q2.kept hw11.kept (by omega)
                have T1 : Blk w11 w.heap.size 102 [.slice none 0 0] := hw11.blk
                push_cast -dsimp
                refine storeK_of T2 (by simp) rfl ?_
                intro w12 hw12
                have U1 := T1.kept hw12.kept (by omega)
                have hfin := fin w12 U1 hw12.blk ((hw11.kept.weaken (fun i _ h => .inl h)).trans hw12.kept (fun i _ h => .inr h))
                push_cast -dsimp
                exact hfin
            · push_cast -dsimp
              refine storeK_of Q1 (by simp) rfl ?_
              intro w11 hw11
              have T2 := Q2.kept hw11.kept (by omega)
              have T1 : Blk w11 w.heap.size 102 [.slice none 0 0] := hw11.blk
              push_cast -dsimp
              refine storeK_of T2 (by simp) rfl ?_
              intro w12 hw12
              have U1 := T1.kept hw12.kept (by omega)
              have hfin := fin w12 U1 hw12.blk ((hw11.kept.weaken (fun i _ h => .inl h)).trans hw12.kept (fun i _ h => .inr h))
              push_cast -dsimp
              exact hfin
        | false =>
          have hcp : ∀ l, PrintOf s l → ∃ r, l[pre.length]? = some r ∧ 0 ≤ r.1 ∧ r.1 ≤ r.2 ∧ r.2 ≤ 1114111 ∧ a = hexP r.1.toNat ∧ a = hexP r.2.toNat := fun l hl => by
            obtain ⟨hr, hbb⟩ := hpl l hl
            obtain ⟨r, hr1, hr0, hr2, hr3, hr4⟩ := round_plain hr hbb hbne hA
            rw [hr0] at hcut
            by_cases hlt : r.1 < r.2
            · rw [cut_rg (by omega) (by omega) (by omega) hlt] at hcut
              cases (Prod.mk.inj (Prod.mk.inj hcut).2).2
            · rw [cut_rg1 (by omega) (by omega) hlt] at hcut
              have e2 : r.2 = r.1 := by omega
              exact ⟨r, hr1, hr2, hr3, hr4, (Prod.mk.inj hcut).1.symm, by rw [e2]; exact (Prod.mk.inj hcut).1.symm⟩
          push_cast -dsimp
          refine callK_of (parseInt_c 32 (.inl rfl) a (by omega) w8 (he.below (hbB.trans (hb8.mono hbs)))) ?_
          rintro _ w9 ⟨⟨v1, e1, rfl, he1, hx1⟩, hb9⟩
          push_cast -dsimp
          refine callK_of (parseInt_c 32 (.inl rfl) a (by omega) w9 (he.below (hbB.trans ((hb8.tr hb9).mono hbs)))) ?_
          rintro _ w10 ⟨⟨v2, e2, rfl, he2, hx2⟩, hb10⟩
          have hb10' := (hb8.tr hb9).tr hb10
          have Q1 := P1.below hb10' (by omega)
          have Q2 := P2.below hb10' (by omega)
          have Q3 := P3.below hb10' (by omega)
          have Q4 := P4.below hb10' (by omega)
          have hoq := ho.below hb10'
          have hbq := hbB.trans (hb10'.mono hbs)
          have hWq := hb10'.size
          have hkq : Kept (fun _ => False) W w10 := Kept.of_below hb10' (fun i h1 h2 => by omega)
          have hval : ∀ l, PrintOf s l → ∃ r, l[pre.length]? = some r ∧ v1 = r.1 ∧ v2 = r.2 ∧ e1 = .nilIface ∧ e2 = .nilIface := fun l hl => by
            obtain ⟨r, hr1, hr2, hr3, hr4, ha1, ha2⟩ := hcp l hl
            have h1 := hx1 _ (by omega) ha1
            have h2 := hx2 _ (by omega) ha2
            exact ⟨r, hr1, by rw [h1.1]; omega, by rw [h2.1]; omega, h1.2, h2.2⟩
          by_cases hee : e1 = .nilIface ∧ e2 = .nilIface
          · obtain ⟨rfl, rfl⟩ := hee
            have cv : w10.cell? ⟨w.heap.size + 3, 0, none⟩ = some v := Q4.cell rfl
            have hsh := hoq.slice
            obtain ⟨oa, oc, rfl⟩ := hsh
            push_cast -dsimp [cv]
            refine rowK elI_102 rfl rfl (by omega) ?_
            intro w11 hw11
            have sz11 := hw11.size
            have ho11 := hoq.new hw11
            have R4 := Q4.below hw11.below (by omega)
            push_cast -dsimp
            refine appendK2 (base := w.heap.size + 9) [(v1, v2)] (enc := encR) elI_102 ho11 (by rfl) (fun j u hu => by simpa [encR] using hw11.cell hu) encR_one (by simp only [List.length_cons, List.length_nil]; omega) (by omega) ?_
            intro v12 w12 ho12 hg12 hn12
            have kg : Kept (fun j => (Value.slice oa out.length oc).ownBlock = some j) w11 w12 := Kept.grown hg12 (fun _ h => h)
            have hown := ho11.block
            have R5 : Blk w12 (w.heap.size + 3) 102 [.slice oa out.length oc] := R4.kept kg (fun h => by have := (hown _ h).1; omega)
            push_cast -dsimp
            have hsh := ho12.slice
            obtain ⟨va, vc, rfl⟩ := hsh
            refine storeK_of R5 (by simp) rfl ?_
            intro w13 hw13
            have k13 : Kept (fun j => j = w.heap.size + 3 ∨ (Value.slice oa out.length oc).ownBlock = some j) w10 w13 := ((Kept.new (X := fun j => j = w.heap.size + 3 ∨ (Value.slice oa out.length oc).ownBlock = some j) hw11).trans kg (fun _ _ h => .inr h)).trans hw13.kept (fun _ _ h => .inl h)
            have hlow : ∀ {k : Nat}, k = w.heap.size + 3 ∨ (Value.slice oa out.length oc).ownBlock = some k → w.heap.size + 9 ≤ k ∨ k = w.heap.size + 3 := fun h => by
              rcases h with h | h
              · exact .inr h
              · exact .inl (hown _ h).1
            have S1 := Q1.kept k13 (fun h => by have := hlow h; omega)
            have S2 := Q2.kept k13 (fun h => by have := hlow h; omega)
            have S3 := Q3.kept k13 (fun h => by have := hlow h; omega)
            have S4 : Blk w13 (w.heap.size + 3) 102 [.slice va (out ++ [(v1, v2)]).length vc] := hw13.blk
            have ho13 := ho12.keptX hw13.kept (fun g hg h => by have := (ho12.block g hg).1; omega)
            have hz : ∀ k, (k = w.heap.size + 4 ∨ k = w.heap.size + 4 + 1 ∨ k = w.heap.size + 4 + 2) ∨ k = w7.heap.size ∨ k = w7.heap.size + 1 → w13.heap[k]? = W.heap[k]? := fun k hk =>
              (k13.block k (by omega) (fun h => by have := hlow h; omega)).trans (hkq.block k (by omega) (fun h => h))
            have hend : ParI w.heap.size w s body (pre ++ [x]) w13 := ⟨_, out ++ [(v1, v2)], S1, S2, S3, S4, ho13, by rw [List.length_append, List.length_append, hol]; rfl, fun h => absurd h hbne, fun l hl => by
                obtain ⟨r, hr1, rfl, rfl, _, _⟩ := hval l hl
                have ht : l.take (pre ++ [x]).length = l.take pre.length ++ [r] := by
                  rw [List.length_append, List.length_singleton, List.take_add_one, hr1]; rfl
                rw [ht, ← hol2 l hl], hbq.trans (k13.below (B := w.heap.size) (by omega) (fun i h => by have := hlow h; omega))⟩
            have hsz13 : W.heap.size ≤ w13.heap.size := by have := k13.size; omega
            push_cast -dsimp
            exact ⟨hsz13, hz, hend⟩
          · have herr : ∀ l, ¬ PrintOf s l := fun l hl => by
              obtain ⟨r, _, _, _, h1, h2⟩ := hval l hl
              exact hee ⟨h1, h2⟩
            have fin : ∀ (w13 : World), Blk w13 w.heap.size 102 [.slice none 0 0] → Blk w13 (w.heap.size + 1) 29 [.iface 47 (.int .i64 3)] → Kept (fun k => k = w.heap.size ∨ k = w.heap.size + 1) w10 w13 → W.heap.size ≤ w13.heap.size ∧ (∀ k, (k = w.heap.size + 4 ∨ k = w.heap.size + 4 + 1 ∨ k = w.heap.size + 4 + 2) ∨ k = w7.heap.size ∨ k = w7.heap.size + 1 → w13.heap[k]? = W.heap[k]?) ∧ ParX w.heap.size w s body .ret (pre ++ [x]) w13 := fun w13 h1 h2 hk =>
              ⟨by have := hk.size; omega, fun k h => (hk.block k (by omega) (by omega)).trans (hkq.block k (by omega) (fun h => h)), .inl ⟨rfl, h1, h2, herr, hbq.trans (hk.below (by omega) (fun i h => by omega))⟩⟩
            rcases he1 with rfl | ⟨t1, x1, rfl⟩
            · rcases he2 with rfl | ⟨t2, x2, rfl⟩
              · exact absurd ⟨rfl, rfl⟩ hee
              · push_cast -dsimp
                refine storeK_of Q1 (by simp) rfl ?_
                intro w11 hw11
                have T2 := Q2.kept hw11.kept (by omega)
                have T1 : Blk w11 w.heap.size 102 [.slice none 0 0] := hw11.blk
                push_cast -dsimp
                refine storeK_of T2 (by simp) rfl ?_
                intro w12 hw12
                have U1 := T1.kept hw12.kept (by omega)
                have hfin := fin w12 U1 hw12.blk ((hw11.kept.weaken (fun i _ h => .inl h)).trans hw12.kept (fun i _ h => .inr h))
                push_cast -dsimp
                exact hfin
            · push_cast -dsimp
              refine storeK_of Q1 (by simp) rfl ?_
              intro w11 hw11
              have T2 := Q2.kept hw11.kept (by omega)
              have T1 : Blk w11 w.heap.size 102 [.slice none 0 0] := hw11.blk
              push_cast -dsimp
              refine storeK_of T2 (by simp) rfl ?_
              intro w12 hw12
              have U1 := T1.kept hw12.kept (by omega)
              have hfin := fin w12 U1 hw12.blk ((hw11.kept.weaken (fun i _ h => .inl h)).trans hw12.kept (fun i _ h => .inr h))
              push_cast -dsimp
              exact hfin
    · intro xs W hS hI hD
      obtain ⟨v, out, P1, P2, P3, P4, ho, hol, hob, hol2, hbB⟩ := hI
      have hxl : xs.length ≤ body.length + 1 := by rw [hS]; exact splitB_len 32 body
      have hout : ∀ l, PrintOf s l → out = l := fun l hl => by
        have hbb : body = bodyP l := by rw [← hbody]; exact (print_pre hl).2.2
        by_cases hb0 : body = []
        · rw [hob hb0, bodyP_nil (hbb.symm.trans hb0)]
        · have hs2 : xs = l.map rgP := by rw [hS, hbb]; exact split_body hl.1 (by rw [← hbb]; exact hb0)
          rw [hol2 l hl, hs2, List.length_map, List.take_length]
      have hoL : out.length < 10000000 := by omega
      push_cast -dsimp
      refine seqIn (ro := none) (by rfl) ?_
      have c7 : W.cell? ⟨w.heap.size + 3, 0, none⟩ = some v := P4.cell rfl
      have hsh := ho.slice
      obtain ⟨va, vc, rfl⟩ := hsh
      push_cast -dsimp [c7]
      refine callK_of (setRight_c out (by omega) _ _ W ho.sl) ?_
      rintro _ w8 ⟨rfl, hb8⟩
      have hbs := hbB.size
      have l4 := P4.lt
      have E1 := P1.below hb8 (by omega)
      have E2 := P2.below hb8 (by omega)
      have E4 := P4.below hb8 (by omega)
      have ho8 := ho.below hb8
      have hbB8 := hbB.trans (hb8.mono hbs)
      have hD8 := (hb8.block w7.heap.size (Array.getElem?_eq_some_iff.1 hD).1).trans hD
      have c8 : w8.cell? ⟨w.heap.size + 3, 0, none⟩ = some (.slice va out.length vc) := E4.cell rfl
      cases hr : setRight (-2) out with
      | false =>
        have herr : ∀ l, ¬ PrintOf s l := fun l hl => by
          have := hout l hl
          subst this
          rw [hl.1] at hr; cases hr
        push_cast -dsimp
        refine storeK_of E1 (by simp) rfl ?_
        intro wa hwa
        have sza : wa.heap.size = w8.heap.size := hwa.size
        have Ta : Blk wa w.heap.size 102 [.slice none 0 0] := hwa.blk
        have Tb := E2.kept hwa.kept (by omega)
        have hka := hwa.kept
        have hDa := (hka.block w7.heap.size (by have := (Array.getElem?_eq_some_iff.1 hD8).1; omega) (by omega)).trans hD8
        have hba := hbB8.trans (hka.below (B := w.heap.size) (by have := hbB8.size; omega) (fun i h => by omega))
        push_cast -dsimp
        refine storeK_of Tb (by simp) rfl ?_
        intro wb hwb
        have szb : wb.heap.size = wa.heap.size := hwb.size
        have Ub := Ta.kept hwb.kept (by omega)
        have hkb := hwb.kept
        have hDb := (hkb.block w7.heap.size (by have := (Array.getElem?_eq_some_iff.1 hDa).1; omega) (by omega)).trans hDa
        have hbb := hba.trans (hkb.below (B := w.heap.size) (by have := hba.size; omega) (fun i h => by omega))
        push_cast -dsimp
        exact parse_end es7 Ub hwb.blk hDb hbb (.inr ⟨herr, rfl⟩) (by rfl) (by rfl)
      | true =>
        push_cast -dsimp [c8]
        refine callK_of (print_c out (by omega) (wr_right (a := -2) (by omega) hr) _ _ w8 ho8.sl (hd.below hbB8 hd.lt)) ?_
        rintro _ w9 ⟨rfl, hb9⟩
        have l48 := E4.lt
        have E19 := E1.below hb9 (by have := hb8.size; omega)
        have E29 := E2.below hb9 (by have := hb8.size; omega)
        have E49 := E4.below hb9 (by have := hb8.size; omega)
        have ho9 := ho8.below hb9
        have hbB9 := hbB8.trans (hb9.mono hbB8.size)
        have hD9 := (hb9.block w7.heap.size (Array.getElem?_eq_some_iff.1 hD8).1).trans hD8
        have c9 : w9.cell? ⟨w.heap.size + 3, 0, none⟩ = some (.slice va out.length vc) := E49.cell rfl
        push_cast -dsimp
        refine ⟨fun hne => ?_, fun heq => ?_⟩
        · have herr : ∀ l, ¬ PrintOf s l := fun l hl => by
            have := hout l hl
            subst this
            exact hne hl.2
          refine storeK_of E19 (by simp) rfl ?_
          intro wa hwa
          have sza : wa.heap.size = w9.heap.size := hwa.size
          have Ta : Blk wa w.heap.size 102 [.slice none 0 0] := hwa.blk
          have Tb := E29.kept hwa.kept (by omega)
          have hka := hwa.kept
          have hDa := (hka.block w7.heap.size (by have := (Array.getElem?_eq_some_iff.1 hD9).1; omega) (by omega)).trans hD9
          have hba := hbB9.trans (hka.below (B := w.heap.size) (by have := hbB9.size; omega) (fun i h => by omega))
          push_cast -dsimp
          refine storeK_of Tb (by simp) rfl ?_
          intro wb hwb
          have szb : wb.heap.size = wa.heap.size := hwb.size
          have Ub := Ta.kept hwb.kept (by omega)
          have hkb := hwb.kept
          have hDb := (hkb.block w7.heap.size (by have := (Array.getElem?_eq_some_iff.1 hDa).1; omega) (by omega)).trans hDa
          have hbb := hba.trans (hkb.below (B := w.heap.size) (by have := hba.size; omega) (fun i h => by omega))
          push_cast -dsimp
          exact parse_end es7 Ub hwb.blk hDb hbb (.inr ⟨herr, rfl⟩) (by rfl) (by rfl)
        · refine seqIn (ro := none) (by rfl) ?_
          push_cast -dsimp [c9]
          refine storeK_of E19 (by simp) rfl ?_
          intro wa hwa
          have sza : wa.heap.size = w9.heap.size := hwa.size
          have hka := hwa.kept
          have l49 := E49.lt
          have Ta : Blk wa w.heap.size 102 [.slice va out.length vc] := hwa.blk
          have Tb := E29.kept hwa.kept (by omega)
          have hoa := ho9.keptX hwa.kept (fun g hg h => by have := (ho9.block g hg).1; omega)
          have lD := (Array.getElem?_eq_some_iff.1 hD9).1
          have hDa := (hka.block w7.heap.size (by omega) (by omega)).trans hD9
          have hba := hbB9.trans (hka.below (B := w.heap.size) (by omega) (fun i h => by omega))
          push_cast -dsimp
          refine storeK_of Tb (by simp) rfl ?_
          intro wb hwb
          have szb : wb.heap.size = wa.heap.size := hwb.size
          have hkb := hwb.kept
          have Ub := Ta.kept hwb.kept (by omega)
          have hob' := hoa.keptX hwb.kept (fun g hg h => by have := (hoa.block g hg).1; omega)
          have hDb := (hkb.block w7.heap.size (by omega) (by omega)).trans hDa
          have hbb := hba.trans (hkb.below (B := w.heap.size) (by omega) (fun i h => by omega))
          have hoe := hob'.keptX (keptPut (X := fun k => k = w7.heap.size) wb w7.heap.size (.deferred none) rfl) (fun g hg h => by have := (hob'.block g hg).1; omega)
          push_cast -dsimp
          refine wpIn_ret ?_
          exact parse_end es7 Ub hwb.blk hDb hbb (.inl ⟨_, out, rfl, hoe.mono (by omega), hr, Classical.not_not.1 heq⟩) (by rfl) (by rfl)
    · intro c pre W hSp hX hD
      rcases hX with ⟨rfl, h1, h2, herr, hb⟩ | ⟨rfl, hbe, hI⟩
      · refine wpIn_ret ?_
        push_cast -dsimp
        exact parse_end es7 h1 h2 hD hb (.inr ⟨herr, rfl⟩) (by rfl) (by rfl)
      · obtain ⟨v, out, P1, P2, P3, P4, ho, hol, hob, hol2, hbB⟩ := hI
        have hout : ∀ l, PrintOf s l → out = l := fun l hl => by
          have hbb : body = bodyP l := by rw [← hbody]; exact (print_pre hl).2.2
          rw [hob hbe, bodyP_nil (hbb.symm.trans hbe)]
        have hoL : out.length < 10000000 := by rw [hob hbe]; decide
        refine wpIn_exit ?_
        push_cast -dsimp
        refine seqIn (ro := none) (by rfl) ?_
        have c7 : W.cell? ⟨w.heap.size + 3, 0, none⟩ = some v := P4.cell rfl
        have hsh := ho.slice
        obtain ⟨va, vc, rfl⟩ := hsh
        push_cast -dsimp [c7]
        refine callK_of (setRight_c out (by omega) _ _ W ho.sl) ?_
        rintro _ w8 ⟨rfl, hb8⟩
        have hbs := hbB.size
        have l4 := P4.lt
        have E1 := P1.below hb8 (by omega)
        have E2 := P2.below hb8 (by omega)
        have E4 := P4.below hb8 (by omega)
        have ho8 := ho.below hb8
        have hbB8 := hbB.trans (hb8.mono hbs)
        have hD8 := (hb8.block w7.heap.size (Array.getElem?_eq_some_iff.1 hD).1).trans hD
        have c8 : w8.cell? ⟨w.heap.size + 3, 0, none⟩ = some (.slice va out.length vc) := E4.cell rfl
        cases hr : setRight (-2) out with
        | false =>
          have herr : ∀ l, ¬ PrintOf s l := fun l hl => by
            have := hout l hl
            subst this
            rw [hl.1] at hr; cases hr
          push_cast -dsimp
          refine storeK_of E1 (by simp) rfl ?_
          intro wa hwa
          have sza : wa.heap.size = w8.heap.size := hwa.size
          have Ta : Blk wa w.heap.size 102 [.slice none 0 0] := hwa.blk
          have Tb := E2.kept hwa.kept (by omega)
          have hka := hwa.kept
          have hDa := (hka.block w7.heap.size (by have := (Array.getElem?_eq_some_iff.1 hD8).1; omega) (by omega)).trans hD8
          have hba := hbB8.trans (hka.below (B := w.heap.size) (by have := hbB8.size; omega) (fun i h => by omega))
          push_cast -dsimp
          refine storeK_of Tb (by simp) rfl ?_
          intro wb hwb
          have szb : wb.heap.size = wa.heap.size := hwb.size
          have Ub := Ta.kept hwb.kept (by omega)
          have hkb := hwb.kept
          have hDb := (hkb.block w7.heap.size (by have := (Array.getElem?_eq_some_iff.1 hDa).1; omega) (by omega)).trans hDa
          have hbb := hba.trans (hkb.below (B := w.heap.size) (by have := hba.size; omega) (fun i h => by omega))
          push_cast -dsimp
          exact parse_end es7 Ub hwb.blk hDb hbb (.inr ⟨herr, rfl⟩) (by rfl) (by rfl)
        | true =>
          push_cast -dsimp [c8]
          refine callK_of (print_c out (by omega) (wr_right (a := -2) (by omega) hr) _ _ w8 ho8.sl (hd.below hbB8 hd.lt)) ?_
          rintro _ w9 ⟨rfl, hb9⟩
          have l48 := E4.lt
          have E19 := E1.below hb9 (by have := hb8.size; omega)
          have E29 := E2.below hb9 (by have := hb8.size; omega)
          have E49 := E4.below hb9 (by have := hb8.size; omega)
          have ho9 := ho8.below hb9
          have hbB9 := hbB8.trans (hb9.mono hbB8.size)
          have hD9 := (hb9.block w7.heap.size (Array.getElem?_eq_some_iff.1 hD8).1).trans hD8
          have c9 : w9.cell? ⟨w.heap.size + 3, 0, none⟩ = some (.slice va out.length vc) := E49.cell rfl
          push_cast -dsimp
          refine ⟨fun hne => ?_, fun heq => ?_⟩
          · have herr : ∀ l, ¬ PrintOf s l := fun l hl => by
              have := hout l hl
              subst this
              exact hne hl.2
            refine storeK_of E19 (by simp) rfl ?_
            intro wa hwa
            have sza : wa.heap.size = w9.heap.size := hwa.size
            have Ta : Blk wa w.heap.size 102 [.slice none 0 0] := hwa.blk
            have Tb := E29.kept hwa.kept (by omega)
            have hka := hwa.kept
            have hDa := (hka.block w7.heap.size (by have := (Array.getElem?_eq_some_iff.1 hD9).1; omega) (by omega)).trans hD9
            have hba := hbB9.trans (hka.below (B := w.heap.size) (by have := hbB9.size; omega) (fun i h => by omega))
            push_cast -dsimp
            refine storeK_of Tb (by simp) rfl ?_
            intro wb hwb
            have szb : wb.heap.size = wa.heap.size := hwb.size
            have Ub := Ta.kept hwb.kept (by omega)
            have hkb := hwb.kept
            have hDb := (hkb.block w7.heap.size (by have := (Array.getElem?_eq_some_iff.1 hDa).1; omega) (by omega)).trans hDa
            have hbb := hba.trans (hkb.below (B := w.heap.size) (by have := hba.size; omega) (fun i h => by omega))
            push_cast -dsimp
            exact parse_end es7 Ub hwb.blk hDb hbb (.inr ⟨herr, rfl⟩) (by rfl) (by rfl)
          · refine seqIn (ro := none) (by rfl) ?_
            push_cast -dsimp [c9]
            refine storeK_of E19 (by simp) rfl ?_
            intro wa hwa
            have sza : wa.heap.size = w9.heap.size := hwa.size
            have hka := hwa.kept
            have l49 := E49.lt
            have Ta : Blk wa w.heap.size 102 [.slice va out.length vc] := hwa.blk
            have Tb := E29.kept hwa.kept (by omega)
            have hoa := ho9.keptX hwa.kept (fun g hg h => by have := (ho9.block g hg).1; omega)
            have lD := (Array.getElem?_eq_some_iff.1 hD9).1
            have hDa := (hka.block w7.heap.size (by omega) (by omega)).trans hD9
            have hba := hbB9.trans (hka.below (B := w.heap.size) (by omega) (fun i h => by omega))
            push_cast -dsimp
            refine storeK_of Tb (by simp) rfl ?_
            intro wb hwb
            have szb : wb.heap.size = wa.heap.size := hwb.size
            have hkb := hwb.kept
            have Ub := Ta.kept hwb.kept (by omega)
            have hob' := hoa.keptX hwb.kept (fun g hg h => by have := (hoa.block g hg).1; omega)
            have hDb := (hkb.block w7.heap.size (by omega) (by omega)).trans hDa
            have hbb := hba.trans (hkb.below (B := w.heap.size) (by omega) (fun i h => by omega))
            have hoe := hob'.keptX (keptPut (X := fun k => k = w7.heap.size) wb w7.heap.size (.deferred none) rfl) (fun g hg h => by have := (hob'.block g hg).1; omega)
            push_cast -dsimp
            refine wpIn_ret ?_
            exact parse_end es7 Ub hwb.blk hDb hbb (.inl ⟨_, out, rfl, hoe.mono (by omega), hr, Classical.not_not.1 heq⟩) (by rfl) (by rfl)
end Go.Proofs.YtiofleijieepgaaGreatDoor
end
section
set_option linter.unusedSimpArgs false
set_option linter.unusedVariables false
namespace Cae
inductive All2 {α β : Type} (R : α → β → Prop) : List α → List β → Prop
  | nil : All2 R [] []
  | cons {x y l m} : R x y → All2 R l m → All2 R (x :: l) (y :: m)
theorem All2.len {α β : Type} {R : α → β → Prop} {l : List α} {m : List β} (h : All2 R l m) : l.length = m.length := by
  induction h with
  | nil => rfl
  | cons _ _ ih => simp [ih]
end Cae
end
