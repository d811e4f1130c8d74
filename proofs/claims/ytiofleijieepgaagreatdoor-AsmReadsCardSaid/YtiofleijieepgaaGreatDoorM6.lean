/- Texts of this claim, merged: Prul, Stp, Pst, Pasm, Pasm2, Pasm3, Pasm4, Pasm5, Pasm6, Pasm7, At1, At2, Fp, Vq, Vr, At3, At4, AsF, As, Tell, TellP. -/
import Derived.Test.YtiofleijieepgaaGreatDoorM4
import Derived.Lib.AtoiAllCases
import Derived.Lib.AtoiTie
import Derived.Lib.ItoaNum
import Derived.Test.YtiofleijieepgaaGreatDoorM5
import Derived.Lib.CountLaws
import Derived.Lib.Split
import Derived.Lib.LastIndexLaws
import Derived.Lib.IndexBytes
import Derived.Shelf.Strings.Prefix
import Derived.Shelf.Strings.Split
import Derived.Shelf.Strings.LastIndexAll
import Derived.Shelf.Strconv.AtoiAll
import Derived.Shelf.Strconv.Itoa3
import Derived.Shelf.Slices.Turned
import Derived.Lib.AppendIntMem
import Derived.Shelf.Strings.BuilderK
import Derived.Test.YtiofleijieepgaaGreatDoorM1
import Derived.Test.YtiofleijieepgaaGreatDoorM2
section
set_option linter.unusedSimpArgs false
set_option linter.unusedVariables false
namespace Cae

/-! Rules as text: what is read, as the program reads it, in plain Lean. -/
/-- A token: what kind (1 a word, 2 a number, 3 a set, 4 a mark, 5 the end), its text, where. -/
structure Tok where
  kind : Nat
  text : List UInt8
  pos : Nat
  deriving DecidableEq
inductive KindP where
  | lit (pos : Nat) (s : List Rg)
  | ref (pos : Nat) (name : List UInt8)
  | not (pos : Nat) (l : KindP)
  | bin (code : Nat) (pos : Nat) (l r : KindP)
inductive PatP where
  | one (k : KindP)
  | any
  | edge
  | cat (l : List PatP)
  | alt (l : List PatP)
  | many (x : PatP) (lo hi : Int)
structure RuleP where
  pos : Nat
  brk : Bool
  before : PatP
  after : PatP
structure ClassP where
  name : List UInt8
  pos : Nat
  kind : KindP
structure FileP where
  classes : List ClassP
  rules : List RuleP
  els : Bool

/-- The set that a text is. -/
def setP (s : List UInt8) : Option (List Rg) :=
  let body := (s.drop 1).dropLast
  let l : List Rg := if body = [] then [] else (splitB 32 body).map fun p => (((hexV (cutP 45 p).1 : Nat) : Int), if (cutP 45 p).2.2 then ((hexV (cutP 45 p).2.1 : Nat) : Int) else ((hexV (cutP 45 p).1 : Nat) : Int))
  if setRight (-2) l && printP l == s then some l else none

/-- What reads tokens: what it reads, and those that are left; or what is wrong, and where. -/
abbrev Pa (α : Type) := List Tok → Except (Nat × Nat) (α × List Tok)
def hd (l : List Tok) : Tok := l.headD ⟨5, [], 0⟩
/-- One behind the other. -/
def pb {α β : Type} (p : Pa α) (q : α → Pa β) : Pa β := fun l => match p l with
  | .error e => .error e
  | .ok (x, l') => q x l'
/-! How a file is written. -/
def kindText : KindP → Bool → List UInt8
  | .lit _ s, _ => printP s
  | .ref _ n, _ => n
  | .not _ l, _ => 126 :: kindText l true
  | .bin c _ l r, alone =>
    let m : List UInt8 := if c = 3 then [32, 124, 32] else if c = 4 then [32, 38, 32] else [32, 45, 32]
    let s := kindText l false ++ m ++ kindText r true
    if alone then 40 :: (s ++ [41]) else s
/-- A number below a hundred, in decimal digits. -/
def decP (n : Nat) : List UInt8 := if n < 10 then [dig n] else if n < 100 then [dig (n / 10), dig (n % 10)] else []
def timesText (lo hi : Int) : List UInt8 :=
  if lo = 0 ∧ hi < 0 then [42] else if lo = 1 ∧ hi < 0 then [43] else if lo = 0 ∧ hi = 1 then [63]
  else if hi < 0 then 123 :: (decP lo.toNat ++ [44, 125])
  else if hi = lo then 123 :: (decP lo.toNat ++ [125])
  else 123 :: (decP lo.toNat ++ 44 :: (decP hi.toNat ++ [125]))
def inPar (b : Bool) (s : List UInt8) : List UInt8 := if b then 40 :: (s ++ [41]) else s
mutual
def patText : PatP → Nat → List UInt8
  | .one k, _ => kindText k true
  | .any, _ => [46]
  | .edge, _ => [36]
  | .cat l, least => inPar (decide (1 < least)) (Go.Lib.join (patTexts l 2) [32])
  | .alt l, least => inPar (decide (0 < least)) (Go.Lib.join (patTexts l 1) [32, 124, 32])
  | .many x lo hi, _ => patText x 2 ++ timesText lo hi
def patTexts : List PatP → Nat → List (List UInt8)
  | [], _ => []
  | x :: l, least => patText x least :: patTexts l least
end
end Cae
end
section
set_option linter.unusedSimpArgs false
set_option linter.unusedVariables false
namespace Cae
theorem setP_ok {s : List UInt8} {l : List Rg} (h : setP s = some l) : PrintOf s l := by
  have key : ∀ l' : List Rg, (if setRight (-2) l' && printP l' == s then some l' else none) = some l → PrintOf s l := fun l' h => by
    by_cases hc : (setRight (-2) l' && printP l' == s) = true
    · rw [if_pos hc] at h
      obtain rfl := Option.some.inj h
      simp only [Bool.and_eq_true, beq_iff_eq] at hc
      exact ⟨hc.1, hc.2⟩
    · rw [if_neg hc] at h; cases h
  exact key _ h
end Cae
end
section
set_option linter.unusedSimpArgs false
set_option linter.unusedVariables false
namespace Cae
theorem map_same {α : Type} {f : α → α} {l : List α} (h : ∀ r ∈ l, f r = r) : l.map f = l := by
  induction l with
  | nil => rfl
  | cons x l ih => rw [List.map_cons, h x (by simp), ih (fun r hr => h r (by simp [hr]))]
theorem setP_of {s : List UInt8} {l : List Rg} (h : PrintOf s l) : setP s = some l := by
  obtain ⟨hr, rfl⟩ := h
  have hb : ((printP l).drop 1).dropLast = bodyP l := by
    unfold printP bodyP
    simp
  have hmap : (if ((printP l).drop 1).dropLast = [] then ([] : List Rg) else (splitB 32 ((printP l).drop 1).dropLast).map fun p => (((hexV (cutP 45 p).1 : Nat) : Int), if (cutP 45 p).2.2 then ((hexV (cutP 45 p).2.1 : Nat) : Int) else ((hexV (cutP 45 p).1 : Nat) : Int))) = l := by
    rw [hb]
    by_cases h0 : bodyP l = []
    · rw [if_pos h0, bodyP_nil h0]
    · rw [if_neg h0, split_body hr h0, List.map_map]
      refine map_same fun r hrm => ?_
      obtain ⟨h1, h2, h3⟩ := mem_right (by omega) hr r hrm
      simp only [Function.comp]
      by_cases hlt : r.1 < r.2
      · rw [cut_rg h1 (by omega) (by omega) hlt]
        simp only [if_true]
        rw [hexP_val (by omega), hexP_val (by omega)]
        ext <;> simp <;> omega
      · rw [cut_rg1 h1 (by omega) hlt]
        simp only [Bool.false_eq_true, if_false]
        rw [hexP_val (by omega)]
        ext <;> simp <;> omega
  unfold setP
  simp only
  rw [hmap, hr]
  simp
theorem setP_no {s : List UInt8} (h : ∀ l, ¬ PrintOf s l) : setP s = none := by
  cases hs : setP s with
  | none => rfl
  | some l => exact absurd (setP_ok hs) (h l)
/-- A set that may be has not so many ranges. -/
theorem right_few : ∀ {s : List Rg} {a : Int}, setRight a s = true → 2 * (s.length : Int) ≤ max 0 (1114113 - a)
  | [], a, _ => by simp; omega
  | r :: s, a, h => by
    rw [setRight_con] at h
    have := right_few h.2
    have h1 := h.1
    simp only [List.length_cons]
    omega
theorem right_len {s : List Rg} (h : setRight (-2) s = true) : s.length ≤ 557057 := by
  have := right_few h
  omega
end Cae
end
section
set_option linter.unusedSimpArgs false
set_option linter.unusedVariables false
namespace Cae

/-! Programs as text. -/
def wordT (b : Bool) : List UInt8 := if b then [98, 114, 101, 97, 107] else [107, 101, 101, 112]
def ruleW : List UInt8 := [114, 117, 108, 101, 32]
def elseW : List UInt8 := [101, 108, 115, 101, 32]
def afterW : List UInt8 := [97, 102, 116, 101, 114]
def opName (n : Int) : List UInt8 := if n = 1 then [116, 97, 107, 101] else if n = 2 then [115, 112, 108, 105, 116] else if n = 3 then [106, 117, 109, 112] else if n = 4 then [101, 110, 100] else if n = 5 then [121, 101, 115] else []
def itoaT (n : Int) : List UInt8 := Go.Lib.itoa n
def instL (sets : List (List Rg)) (x : I3) : List UInt8 := opName x.op ++ (if x.op = 1 then 32 :: printP (sets.getD x.a.toNat []) else if x.op = 2 then 32 :: (itoaT x.a ++ 32 :: itoaT x.b) else if x.op = 3 then 32 :: itoaT x.a else [])
def codeL (c : CodeP) : List (List UInt8) := c.ins.map (instL c.sets)
def pairL (r : PairP) : List (List UInt8) := (ruleW ++ wordT r.brk) :: (codeL r.before ++ afterW :: codeL r.after)
def progL (p : ProgP) : List (List UInt8) := p.rules.flatMap pairL ++ [elseW ++ wordT p.els]
def linesT (l : List (List UInt8)) : List UInt8 := l.flatMap (· ++ [10])
def progT (p : ProgP) : List UInt8 := linesT (progL p)

/-- A number without a nought ahead. -/
def numA (s : List UInt8) : Option Int := match Go.Lib.atoiAll s with
  | .ok v => if 0 ≤ v ∧ itoaT v = s then some v else none
  | _ => none
def idxS (t : List Rg) (sets : List (List Rg)) : Nat := sets.findIdx (· == t)
def instA (c : CodeP) (s : List UInt8) : Option CodeP :=
  let q := cutP 32 s
  if q.1 = [116, 97, 107, 101] then match setP q.2.1 with
    | none => none
    | some t => some ⟨if idxS t c.sets < c.sets.length then c.sets else c.sets ++ [t], c.ins ++ [⟨1, idxS t c.sets, 0⟩]⟩
  else if q.1 = [115, 112, 108, 105, 116] then
    match numA (cutP 32 q.2.1).1, numA (cutP 32 q.2.1).2.1 with
    | some a, some b => if (cutP 32 q.2.1).2.2 then some ⟨c.sets, c.ins ++ [⟨2, a, b⟩]⟩ else none
    | _, _ => none
  else if q.1 = [106, 117, 109, 112] then match numA q.2.1 with
    | some a => some ⟨c.sets, c.ins ++ [⟨3, a, 0⟩]⟩
    | none => none
  else if q.1 = [101, 110, 100] then (if q.2.2 then none else some ⟨c.sets, c.ins ++ [⟨4, 0, 0⟩]⟩)
  else if q.1 = [121, 101, 115] then (if q.2.2 then none else some ⟨c.sets, c.ins ++ [⟨5, 0, 0⟩]⟩)
  else none
def stopA (s : List UInt8) : Bool := s == afterW || ruleW.isPrefixOf s || elseW.isPrefixOf s
def codeA : CodeP → List (List UInt8) → Except Nat (CodeP × List (List UInt8))
  | c, [] => .ok (c, [])
  | c, s :: l => if stopA s then .ok (c, s :: l) else match instA c s with
    | none => .error (l.length + 1)
    | some c' => codeA c' l
/-- break, or keep, behind a word. -/
def saysA (w : List UInt8) : List (List UInt8) → Except Nat (Bool × List (List UInt8))
  | [] => .error 0
  | s :: l => if s = w ++ wordT true then .ok (true, l) else if s = w ++ wordT false then .ok (false, l) else .error (l.length + 1)
def afterA : List (List UInt8) → Except Nat (List (List UInt8))
  | [] => .error 0
  | s :: l => if s = afterW then .ok l else .error (l.length + 1)
def ruleStartA : List (List UInt8) → Bool
  | [] => false
  | s :: _ => ruleW.isPrefixOf s
def pairA (l : List (List UInt8)) : Except Nat (PairP × List (List UInt8)) := match saysA ruleW l with
  | .error e => .error e
  | .ok (b, l1) => match codeA ⟨[], []⟩ l1 with
    | .error e => .error e
    | .ok (c, l2) => match afterA l2 with
      | .error e => .error e
      | .ok l3 => match codeA ⟨[], []⟩ l3 with
        | .error e => .error e
        | .ok (d, l4) => .ok (⟨b, c, d⟩, l4)
def rulesA : Nat → List PairP → List (List UInt8) → Except Nat (List PairP × List (List UInt8))
  | 0, acc, l => .ok (acc, l)
  | n + 1, acc, l => if ruleStartA l then match pairA l with
      | .error e => .error e
      | .ok (r, l') => rulesA n (acc ++ [r]) l'
    else .ok (acc, l)
def trimA (s : List UInt8) : List UInt8 := if s.getLast? = some 10 then s.dropLast else s
def linesA (s : List UInt8) : List (List UInt8) := splitB 10 (trimA s)
/-- The program that lines are; or how many lines are left where there is none. -/
def bodyA (l : List (List UInt8)) : Except Nat ProgP := match rulesA l.length [] l with
  | .error e => .error e
  | .ok (rs, l1) => match saysA elseW l1 with
    | .error e => .error e
    | .ok (b, l2) => if l2 = [] then .ok ⟨rs, b⟩ else .error l2.length
/-- What a text is: a program, none at a line, or one that may not be. -/
inductive ReadA
  | ok (p : ProgP)
  | form (line : Nat)
  | arg
def parseA (s : List UInt8) : ReadA := match bodyA (linesA s) with
  | .error e => .form ((linesA s).length - e)
  | .ok p => if s.getLast? = some 10 then (if progRight p then .ok p else .arg) else .form (linesA s).length

theorem split_ne (c : UInt8) (s : List UInt8) : splitB c s ≠ [] := by
  cases s with
  | nil => simp [splitB]
  | cons b r =>
    rw [splitB]
    split
    · simp
    · split <;> simp
end Cae
end
section
set_option linter.unusedSimpArgs false
set_option linter.unusedVariables false
namespace Cae

theorem cut_back (c : UInt8) (s : List UInt8) : s = (if (cutP c s).2.2 then (cutP c s).1 ++ c :: (cutP c s).2.1 else (cutP c s).1) ∧ ((cutP c s).2.2 = false → (cutP c s).2.1 = []) := by
  unfold cutP
  by_cases h : s.contains c = true
  · rw [if_pos h]
    simp only [if_true, Bool.true_eq_false, false_implies, and_true]
    have h1 : s = s.takeWhile (· != c) ++ s.dropWhile (· != c) := (List.takeWhile_append_dropWhile).symm
    have h2 : ∀ l : List UInt8, l.contains c = true → l.dropWhile (· != c) = c :: (l.dropWhile (· != c)).drop 1 := by
      intro l
      induction l with
      | nil => intro h; simp at h
      | cons b l ih =>
        intro h
        rw [List.dropWhile_cons]
        by_cases hb : b = c
        · subst hb; simp
        · rw [if_pos (by simpa using hb)]
          refine ih ?_
          rw [List.contains_cons] at h
          simpa [show (c == b) = false by simp; exact fun e => hb e.symm] using h
    rw [← h2 s h]
    exact h1
  · rw [if_neg h]
    simp
theorem cut_app {c : UInt8} {a : List UInt8} (h : a.contains c = false) (b : List UInt8) : cutP c (a ++ c :: b) = (a, b, true) := by
  unfold cutP
  have hc : (a ++ c :: b).contains c = true := by simp
  have hn : ∀ x ∈ a, (x != c) = true := by
    intro x hx
    have : c ∉ a := by simpa using h
    simp
    intro e; subst e; exact this hx
  rw [if_pos hc]
  have h1 : (a ++ c :: b).takeWhile (· != c) = a := by rw [List.takeWhile_append_of_pos hn]; simp
  have h2 : (a ++ c :: b).dropWhile (· != c) = c :: b := by rw [List.dropWhile_append_of_pos hn]; simp
  rw [h1, h2]
  rfl
theorem cut_none {c : UInt8} {a : List UInt8} (h : a.contains c = false) : cutP c a = (a, [], false) := by
  unfold cutP
  rw [if_neg (by rw [h]; decide)]
theorem numA_ok {s : List UInt8} {v : Int} (h : numA s = some v) : 0 ≤ v ∧ itoaT v = s := by
  unfold numA at h
  split at h
  · split at h
    · rename_i hc; cases h; exact hc
    · cases h
  · cases h
/-- Code whose sets are there. -/
def WFc (c : CodeP) : Prop := ∀ x ∈ c.ins, x.op = 1 → x.a.toNat < c.sets.length
theorem instL_more {sets t : List (List Rg)} {x : I3} (h : x.op = 1 → x.a.toNat < sets.length) : instL (sets ++ t) x = instL sets x := by
  unfold instL
  by_cases h1 : x.op = 1
  · rw [if_pos h1, if_pos h1]
    congr 3
    rw [List.getD_eq_getElem?_getD, List.getD_eq_getElem?_getD, List.getElem?_append_left (h h1)]
  · rw [if_neg h1, if_neg h1]
theorem codeL_more {c : CodeP} {t : List (List Rg)} {x : I3} (h : WFc c) : codeL ⟨c.sets ++ t, c.ins ++ [x]⟩ = codeL c ++ [instL (c.sets ++ t) x] := by
  unfold codeL
  rw [List.map_append, List.map_singleton]
  congr 1
  exact List.map_congr_left fun y hy => instL_more (h y hy)
theorem WFc.add {c : CodeP} {t : List (List Rg)} {x : I3} (h : WFc c) (hx : x.op = 1 → x.a.toNat < (c.sets ++ t).length) : WFc ⟨c.sets ++ t, c.ins ++ [x]⟩ := by
  intro y hy h1
  rcases List.mem_append.1 hy with hy | hy
  · have := h y hy h1
    show _ < (c.sets ++ t).length
    rw [List.length_append]
    omega
  · rw [List.mem_singleton.1 hy] at h1 ⊢
    exact hx h1
theorem idxS_at {t : List Rg} {sets : List (List Rg)} (h : idxS t sets < sets.length) : sets.getD (idxS t sets) [] = t := by
  have h1 := List.findIdx_getElem (p := (· == t)) (xs := sets) (w := h)
  rw [List.getD_eq_getElem?_getD, List.getElem?_eq_getElem h]
  exact eq_of_beq h1
theorem idxS_le (t : List Rg) (sets : List (List Rg)) : idxS t sets ≤ sets.length := List.findIdx_le_length
theorem inst_read {c c' : CodeP} {s : List UInt8} (hc : WFc c) (h : instA c s = some c') : WFc c' ∧ codeL c' = codeL c ++ [s] ∧ c'.ins.length = c.ins.length + 1 := by
  have hb := cut_back 32 s
  have plain : ∀ x : I3, x.op ≠ 1 → WFc ⟨c.sets, c.ins ++ [x]⟩ ∧ codeL ⟨c.sets, c.ins ++ [x]⟩ = codeL c ++ [instL c.sets x] ∧ (c.ins ++ [x]).length = c.ins.length + 1 := by
    intro x hx
    have h1 := WFc.add (t := []) (x := x) hc (fun h => absurd h hx)
    have h2 := codeL_more (t := []) (x := x) hc
    rw [List.append_nil] at h1 h2
    exact ⟨h1, h2, by simp⟩
  unfold instA at h
  dsimp only at h
  split at h
  · rename_i h1
    split at h
    · cases h
    · rename_i t ht
      cases h
      rw [h1] at hb
      have hne : (cutP 32 s).2.2 = true := by
        cases hf : (cutP 32 s).2.2 with
        | true => rfl
        | false =>
          rw [hb.2 hf] at ht
          have := (setP_ok ht).2
          simp [printP] at this
      have hpt : printP t = (cutP 32 s).2.1 := (setP_ok ht).2
      have hs : s = [116, 97, 107, 101] ++ 32 :: (cutP 32 s).2.1 := by
        have := hb.1
        rw [hne, if_pos rfl] at this
        exact this
      by_cases hi : idxS t c.sets < c.sets.length
      · rw [if_pos hi]
        have h2 := WFc.add (t := []) (x := ⟨1, idxS t c.sets, 0⟩) hc (fun _ => by rw [List.append_nil]; show ((idxS t c.sets : Int)).toNat < _; omega)
        have h3 := codeL_more (t := []) (x := ⟨1, idxS t c.sets, 0⟩) hc
        rw [List.append_nil] at h2 h3
        refine ⟨h2, ?_, by simp⟩
        rw [h3, hs]
        have : instL c.sets ⟨1, idxS t c.sets, 0⟩ = [116, 97, 107, 101] ++ 32 :: printP t := by
          show [116, 97, 107, 101] ++ 32 :: printP (c.sets.getD ((idxS t c.sets : Int)).toNat []) = _
          rw [Int.toNat_natCast, idxS_at hi]
        rw [this, hpt, ← hs]
      · rw [if_neg hi]
        have hl : idxS t c.sets = c.sets.length := by have := idxS_le t c.sets; omega
        have h2 := WFc.add (t := [t]) (x := ⟨1, idxS t c.sets, 0⟩) hc (fun _ => by rw [List.length_append]; show ((idxS t c.sets : Int)).toNat < _; simp; omega)
        have h3 := codeL_more (t := [t]) (x := ⟨1, idxS t c.sets, 0⟩) hc
        refine ⟨h2, ?_, by simp⟩
        rw [h3, hs]
        have : instL (c.sets ++ [t]) ⟨1, idxS t c.sets, 0⟩ = [116, 97, 107, 101] ++ 32 :: printP t := by
          show [116, 97, 107, 101] ++ 32 :: printP ((c.sets ++ [t]).getD ((idxS t c.sets : Int)).toNat []) = _
          rw [Int.toNat_natCast, hl, List.getD_eq_getElem?_getD, List.getElem?_append_right (Nat.le_refl _)]
          simp
        rw [this, hpt, ← hs]
  · split at h
    · rename_i h1
      split at h
      · rename_i a b ha hb2
        split at h
        · rename_i h2
          cases h
          rw [h1] at hb
          have hb3 := (cut_back 32 (cutP 32 s).2.1).1
          rw [h2, if_pos rfl] at hb3
          have ea := (numA_ok ha).2
          have eb := (numA_ok hb2).2
          have hne : (cutP 32 s).2.2 = true := by
            cases hf : (cutP 32 s).2.2 with
            | true => rfl
            | false => rw [hb.2 hf] at h2; simp [cutP] at h2
          have hs : s = [115, 112, 108, 105, 116] ++ 32 :: (cutP 32 s).2.1 := by
            have := hb.1
            rw [hne, if_pos rfl] at this
            exact this
          obtain ⟨p1, p2, p3⟩ := plain ⟨2, a, b⟩ (by simp)
          refine ⟨p1, ?_, p3⟩
          rw [p2]
          congr 2
          show [115, 112, 108, 105, 116] ++ 32 :: (itoaT a ++ 32 :: itoaT b) = s
          rw [ea, eb, ← hb3, ← hs]
        · cases h
      · cases h
    · split at h
      · rename_i h1
        split at h
        · rename_i a ha
          cases h
          rw [h1] at hb
          have ea := (numA_ok ha).2
          have hne : (cutP 32 s).2.2 = true := by
            cases hf : (cutP 32 s).2.2 with
            | true => rfl
            | false => rw [hb.2 hf] at ha; simp [numA, Go.Lib.atoiAll, Go.Lib.parseMag, Go.Lib.signless] at ha
          have hs : s = [106, 117, 109, 112] ++ 32 :: (cutP 32 s).2.1 := by
            have := hb.1
            rw [hne, if_pos rfl] at this
            exact this
          obtain ⟨p1, p2, p3⟩ := plain ⟨3, a, 0⟩ (by simp)
          refine ⟨p1, ?_, p3⟩
          rw [p2]
          congr 2
          show [106, 117, 109, 112] ++ 32 :: itoaT a = s
          rw [ea, ← hs]
        · cases h
      · split at h
        · rename_i h1
          split at h
          · cases h
          · rename_i hf
            cases h
            rw [h1, if_neg hf] at hb
            obtain ⟨p1, p2, p3⟩ := plain ⟨4, 0, 0⟩ (by simp)
            refine ⟨p1, ?_, p3⟩
            rw [p2, hb.1]
            rfl
        · split at h
          · rename_i h1
            split at h
            · cases h
            · rename_i hf
              cases h
              rw [h1, if_neg hf] at hb
              obtain ⟨p1, p2, p3⟩ := plain ⟨5, 0, 0⟩ (by simp)
              refine ⟨p1, ?_, p3⟩
              rw [p2, hb.1]
              rfl
          · cases h
theorem code_read : ∀ {l l' : List (List UInt8)} {c c' : CodeP}, WFc c → codeA c l = .ok (c', l') → WFc c' ∧ ∃ pre, l = pre ++ l' ∧ codeL c' = codeL c ++ pre
  | [], l', c, c', hc, h => by
    cases h
    exact ⟨hc, [], rfl, by simp⟩
  | s :: l, l', c, c', hc, h => by
    rw [codeA] at h
    split at h
    · cases h
      exact ⟨hc, [], rfl, by simp⟩
    · split at h
      · cases h
      · rename_i c1 h1
        obtain ⟨w1, e1, _⟩ := inst_read hc h1
        obtain ⟨w2, pre, e2, e3⟩ := code_read w1 h
        exact ⟨w2, s :: pre, by rw [e2]; rfl, by rw [e3, e1]; simp⟩
theorem wf_nil : WFc ⟨[], []⟩ := fun x hx => by cases hx
theorem says_read {w : List UInt8} {l l' : List (List UInt8)} {b : Bool} (h : saysA w l = .ok (b, l')) : l = (w ++ wordT b) :: l' := by
  cases l with
  | nil => cases h
  | cons s l =>
    simp only [saysA] at h
    split at h
    · rename_i e; cases h; rw [e]
    · split at h
      · rename_i e; cases h; rw [e]
      · cases h
theorem after_read {l l' : List (List UInt8)} (h : afterA l = .ok l') : l = afterW :: l' := by
  cases l with
  | nil => cases h
  | cons s l =>
    simp only [afterA] at h
    split at h
    · rename_i e; cases h; rw [e]
    · cases h
theorem pair_read {l l' : List (List UInt8)} {r : PairP} (h : pairA l = .ok (r, l')) : l = pairL r ++ l' := by
  unfold pairA at h
  split at h
  · cases h
  · rename_i b l1 h1
    split at h
    · cases h
    · rename_i c l2 h2
      split at h
      · cases h
      · rename_i l3 h3
        split at h
        · cases h
        · rename_i d l4 h4
          cases h
          obtain ⟨_, p1, e1, e2⟩ := code_read wf_nil h2
          obtain ⟨_, p2, e3, e4⟩ := code_read wf_nil h4
          rw [says_read h1, e1, after_read h3, e3]
          have e2' : codeL c = p1 := by rw [e2]; rfl
          have e4' : codeL d = p2 := by rw [e4]; rfl
          simp [pairL, e2', e4']
end Cae
end
section
set_option linter.unusedSimpArgs false
set_option linter.unusedVariables false
namespace Cae

end Cae
end
section
set_option linter.unusedSimpArgs false
set_option linter.unusedVariables false
namespace Cae

/-- An instruction, and what is read of what is written of it. -/
def IE (sets sets' : List (List Rg)) (x y : I3) : Prop := y.op = x.op ∧ y.b = x.b ∧ (x.op = 1 → 0 ≤ y.a ∧ y.a.toNat < sets'.length ∧ sets'.getD y.a.toNat [] = sets.getD x.a.toNat []) ∧ (x.op ≠ 1 → y.a = x.a)
structure Acc2 (c : CodeP) (xs : List I3) (d : CodeP) : Prop where
  rel : All2 (IE c.sets d.sets) xs d.ins
  right : ∀ s ∈ d.sets, setRight (-2) s = true
  few : d.sets.length ≤ d.ins.length
theorem ins_cases {x : I3} {k n : Int} (h : insRight x k n = true) (hn : n ≤ 2000) : (x.op = 1 ∧ 0 ≤ x.a ∧ x.a < k ∧ x.b = 0) ∨ (x.op = 2 ∧ 0 ≤ x.a ∧ x.a ≤ 2000 ∧ 0 ≤ x.b ∧ x.b ≤ 2000) ∨ (x.op = 3 ∧ 0 ≤ x.a ∧ x.a ≤ 2000 ∧ x.b = 0) ∨ (x.op = 4 ∧ x.a = 0 ∧ x.b = 0) ∨ (x.op = 5 ∧ x.a = 0 ∧ x.b = 0) := by
  unfold insRight at h
  split at h
  · have := of_decide_eq_true h; omega
  · split at h
    · have := of_decide_eq_true h; omega
    · split at h
      · have := of_decide_eq_true h; omega
      · split at h
        · have := of_decide_eq_true h; omega
        · cases h
theorem code_parts {c : CodeP} (h : codeRight c = true) : (1 ≤ c.ins.length ∧ c.ins.length ≤ 2000 ∧ c.sets.length ≤ 2000) ∧ (∀ x ∈ c.ins, insRight x c.sets.length c.ins.length = true) ∧ (∀ s ∈ c.sets, setRight (-2) s = true) ∧ ∃ x, c.ins[c.ins.length - 1]? = some x ∧ x.op ≠ 1 ∧ x.op ≠ 4 := by
  unfold codeRight at h
  simp only [Bool.and_eq_true, decide_eq_true_eq, List.all_eq_true] at h
  refine ⟨h.1.1.1, h.1.2, h.2, ?_⟩
  have h2 := h.1.1.2
  split at h2
  · rename_i x hx; exact ⟨x, hx, of_decide_eq_true h2⟩
  · cases h2
theorem take_set {c : CodeP} (hc : codeRight c = true) {x : I3} (hx : x ∈ c.ins) (h1 : x.op = 1) : ∃ t, c.sets.getD x.a.toNat [] = t ∧ setRight (-2) t = true ∧ x.a.toNat < c.sets.length := by
  obtain ⟨_, h2, h3, _⟩ := code_parts hc
  have := h2 x hx
  rcases ins_cases this (by have := (code_parts hc).1.2.1; omega) with h | h | h | h | h <;> (try omega)
  have hlt : x.a.toNat < c.sets.length := by omega
  refine ⟨_, rfl, ?_, hlt⟩
  rw [List.getD_eq_getElem?_getD, List.getElem?_eq_getElem hlt]
  exact h3 _ (List.getElem_mem hlt)
end Cae
end
section
set_option linter.unusedSimpArgs false
set_option linter.unusedVariables false
namespace Cae

def PairOk (r : PairP) : Prop := codeRight r.before = true ∧ codeRight r.after = true
theorem says_put (w : List UInt8) (b : Bool) (l : List (List UInt8)) : saysA w ((w ++ wordT b) :: l) = .ok (b, l) := by
  cases b with
  | true => simp [saysA]
  | false => simp [saysA, wordT]
theorem right_parts {p : ProgP} (h : progRight p = true) : p.rules.length ≤ 20 ∧ ∀ r ∈ p.rules, PairOk r := by
  unfold progRight at h
  simp only [Bool.and_eq_true, decide_eq_true_eq, List.all_eq_true] at h
  exact ⟨h.1, fun r hr => h.2 r hr⟩
/-! The rules of two programs. -/
def rulesT (p : ProgP) : List UInt8 := linesT (p.rules.flatMap pairL)
theorem progT_eq (p : ProgP) : progT p = rulesT p ++ (elseW ++ wordT p.els ++ [10]) := by
  unfold progT rulesT progL linesT
  simp
end Cae
end
section
set_option linter.unusedSimpArgs false
set_option linter.unusedVariables false
namespace Cae

/-! The library's splitting, as lists. -/
theorem takeWhile_split {c : UInt8} {s : List UInt8} (h : s.contains c = true) : s = s.takeWhile (· != c) ++ c :: (s.dropWhile (· != c)).drop 1 := by
  have := (cut_back c s).1
  have e : cutP c s = (s.takeWhile (· != c), (s.dropWhile (· != c)).drop 1, true) := by unfold cutP; rw [if_pos h]
  rw [e] at this
  exact this
theorem takeWhile_no {c : UInt8} (s : List UInt8) : (s.takeWhile (· != c)).contains c = false := by
  induction s with
  | nil => rfl
  | cons b s ih =>
    rw [List.takeWhile_cons]
    by_cases hb : b = c
    · subst hb; simp
    · rw [if_pos (by simpa using hb), List.contains_cons, ih]
      simp
      exact fun e => hb e.symm
theorem splitK_one (c : UInt8) : ∀ (n : Nat) (s : List UInt8), s.length ≤ n → Go.Lib.splitK [c] 0 (Go.Lib.count s [c]) s = splitB c s := by
  intro n
  induction n with
  | zero =>
    intro s hs
    obtain rfl : s = [] := List.eq_nil_of_length_eq_zero (by omega)
    rfl
  | succ n ih =>
    intro s hs
    have hi := ib_spec c s
    rw [← Go.Lib.index_one] at hi
    by_cases hc : s.contains c = true
    · rw [if_pos hc] at hi
      have hsp := takeWhile_split hc
      have hno := takeWhile_no (c := c) s
      generalize s.takeWhile (· != c) = a at hi hsp hno
      generalize (s.dropWhile (· != c)).drop 1 = b at hsp
      subst hsp
      have h1 := Go.Lib.count_hit (sub := [c]) (by simp) hi
      have hd : (a ++ c :: b).drop (a.length + [c].length) = b := by
        rw [List.length_singleton, ← List.drop_drop, List.drop_left]
        rfl
      rw [hd] at h1
      have hle : b.length ≤ n := by
        rw [List.length_append, List.length_cons] at hs
        omega
      rw [h1, Nat.add_comm, Go.Lib.splitK, if_neg (by rw [hi]; simp; try omega), hi, Int.toNat_natCast, Nat.add_zero, hd, ih _ hle, split_app hno, List.take_left]
    · rw [if_neg hc] at hi
      rw [Go.Lib.count_miss hi, Go.Lib.splitK, split_no (by simpa using hc)]
theorem suffix_ten (s : List UInt8) : Go.Lib.hasSuffix s [10] = decide (s.getLast? = some 10) := by
  unfold Go.Lib.hasSuffix
  by_cases h : s.getLast? = some 10
  · rw [decide_eq_true h, List.isSuffixOf_iff_suffix]
    have hne : s ≠ [] := by intro e; rw [e] at h; cases h
    refine ⟨s.dropLast, ?_⟩
    have h1 := List.dropLast_concat_getLast hne
    have h2 : s.getLast hne = 10 := by
      rw [List.getLast?_eq_some_getLast hne] at h
      exact Option.some.inj h
    rw [h2] at h1
    exact h1
  · rw [decide_eq_false h]
    cases hs : List.isSuffixOf [10] s with
    | false => rfl
    | true =>
      obtain ⟨t, ht⟩ := List.isSuffixOf_iff_suffix.1 hs
      rw [← ht] at h
      simp at h
theorem trim_ten (s : List UInt8) : Go.Lib.trimSuffix s [10] = trimA s := by
  unfold Go.Lib.trimSuffix trimA
  rw [suffix_ten]
  by_cases h : s.getLast? = some 10
  · rw [if_pos (by simpa using h), if_pos h, List.dropLast_eq_take]
    rfl
  · rw [if_neg (by simpa using h), if_neg h]
end Cae
end
section
set_option linter.unusedSimpArgs false
set_option linter.unusedVariables false
namespace Cae
def atoiV (l : List UInt8) : Int := match Go.Lib.atoiAll l with
  | .ok v => v
  | .range => Go.Lib.atoiSat l
  | _ => 0
end Cae
end
section
namespace Go.Proofs.YtiofleijieepgaaGreatDoor
open Go.Vc Go.Proofs Go.RowKit Cae
set_option maxRecDepth 100000
set_option linter.unusedSimpArgs false
set_option linter.unusedVariables false
attribute [local irreducible] wpL callK valK unitK runK Fun Sl Vc.Own vc vcOps opK pureK
set_option maxHeartbeats 4000000
def hpR_ren : Go.Shelf.Ren := ⟨fun | 99 => 27 | 206 => 59 | n => n, fun | 9 => 9 | 4 => 4 | 3 => 3 | n => n, fun | n => n⟩
theorem hpR : Go.Proofs.Lays.n99 Tryz.prog hpR_ren := {
  mixed := by kernel_rfl
  f99 := Tryz.func27.trans (congrArg some (by kernel_rfl))
  f206 := Tryz.func59.trans (congrArg some (by kernel_rfl))
  t3 := Tryz.underlying3
  a3 := Tryz.isAgg3
  z3 := Tryz.sizeOf3
  v3 := Tryz.zeroValue3
  t4 := Tryz.underlying4
  a4 := Tryz.isAgg4
  z4 := Tryz.sizeOf4
  v4 := Tryz.zeroValue4
  t9 := Tryz.underlying9
  a9 := Tryz.isAgg9
  z9 := Tryz.sizeOf9
  v9 := Tryz.zeroValue9 }

def hsR_ren : Go.Shelf.Ren := ⟨fun | 100 => 30 | 207 => 61 | n => n, fun | 9 => 9 | 4 => 4 | 3 => 3 | n => n, fun | n => n⟩
theorem hsR : Go.Proofs.Lays.n100 Tryz.prog hsR_ren := {
  mixed := by kernel_rfl
  f100 := Tryz.func30.trans (congrArg some (by kernel_rfl))
  f207 := Tryz.func61.trans (congrArg some (by kernel_rfl))
  t3 := Tryz.underlying3
  a3 := Tryz.isAgg3
  z3 := Tryz.sizeOf3
  v3 := Tryz.zeroValue3
  t4 := Tryz.underlying4
  a4 := Tryz.isAgg4
  z4 := Tryz.sizeOf4
  v4 := Tryz.zeroValue4
  t9 := Tryz.underlying9
  a9 := Tryz.isAgg9
  z9 := Tryz.sizeOf9
  v9 := Tryz.zeroValue9 }

def tsR_ren : Go.Shelf.Ren := ⟨fun | 102 => 25 | 209 => 58 | 207 => 61 | n => n, fun | 9 => 9 | 4 => 4 | 3 => 3 | n => n, fun | n => n⟩
theorem tsR : Go.Proofs.Lays.n102 Tryz.prog tsR_ren := {
  mixed := by kernel_rfl
  f102 := Tryz.func25.trans (congrArg some (by kernel_rfl))
  f207 := Tryz.func61.trans (congrArg some (by kernel_rfl))
  f209 := Tryz.func58.trans (congrArg some (by kernel_rfl))
  t3 := Tryz.underlying3
  a3 := Tryz.isAgg3
  z3 := Tryz.sizeOf3
  v3 := Tryz.zeroValue3
  t4 := Tryz.underlying4
  a4 := Tryz.isAgg4
  z4 := Tryz.sizeOf4
  v4 := Tryz.zeroValue4
  t9 := Tryz.underlying9
  a9 := Tryz.isAgg9
  z9 := Tryz.sizeOf9
  v9 := Tryz.zeroValue9 }

def splitR_ren : Go.Shelf.Ren := ⟨fun | 146 => 24 | 221 => 57 | 268 => 86 | 138 => 87 | 143 => 88 | 195 => 113 | 197 => 114 | 218 => 115 | 219 => 116 | 260 => 141 | 217 => 142 | 225 => 143 | 224 => 144 | 267 => 145 | 266 => 164 | 314 => 165 | n => n, fun | 9 => 9 | 31 => 61 | 3 => 3 | 4 => 4 | 0 => 0 | 105 => 159 | 21 => 21 | 5 => 5 | 46 => 148 | 119 => 166 | 139 => 226 | 138 => 225 | 146 => 119 | 51 => 118 | n => n, fun | 1 => 2 | 3 => 8 | 4 => 9 | n => n⟩
theorem splitR : Go.Proofs.Lays.n146 Tryz.prog splitR_ren := {
  mixed := by kernel_rfl
  f138 := Tryz.func87.trans (congrArg some (by kernel_rfl))
  f143 := Tryz.func88.trans (congrArg some (by kernel_rfl))
  f146 := Tryz.func24.trans (congrArg some (by kernel_rfl))
  f195 := Tryz.func113.trans (congrArg some (by kernel_rfl))
  f197 := Tryz.func114.trans (congrArg some (by kernel_rfl))
  f217 := Tryz.func142.trans (congrArg some (by kernel_rfl))
  f218 := Tryz.func115.trans (congrArg some (by kernel_rfl))
  f219 := Tryz.func116.trans (congrArg some (by kernel_rfl))
  f221 := Tryz.func57.trans (congrArg some (by kernel_rfl))
  f224 := Tryz.func144.trans (congrArg some (by kernel_rfl))
  f225 := Tryz.func143.trans (congrArg some (by kernel_rfl))
  f260 := Tryz.func141.trans (congrArg some (by kernel_rfl))
  f266 := Tryz.func164.trans (congrArg some (by kernel_rfl))
  f267 := Tryz.func145.trans (congrArg some (by kernel_rfl))
  f268 := Tryz.func86.trans (congrArg some (by kernel_rfl))
  f314 := Tryz.func165.trans (congrArg some (by kernel_rfl))
  t0 := Tryz.underlying0
  a0 := Tryz.isAgg0
  z0 := Tryz.sizeOf0
  v0 := Tryz.zeroValue0
  t3 := Tryz.underlying3
  a3 := Tryz.isAgg3
  z3 := Tryz.sizeOf3
  v3 := Tryz.zeroValue3
  t4 := Tryz.underlying4
  a4 := Tryz.isAgg4
  z4 := Tryz.sizeOf4
  v4 := Tryz.zeroValue4
  t5 := Tryz.underlying5
  a5 := Tryz.isAgg5
  z5 := Tryz.sizeOf5
  v5 := Tryz.zeroValue5
  t9 := Tryz.underlying9
  a9 := Tryz.isAgg9
  z9 := Tryz.sizeOf9
  v9 := Tryz.zeroValue9
  t21 := Tryz.underlying21
  a21 := Tryz.isAgg21
  z21 := Tryz.sizeOf21
  v21 := Tryz.zeroValue21
  t31 := Tryz.underlying61
  a31 := Tryz.isAgg61
  z31 := Tryz.sizeOf61
  v31 := Tryz.zeroValue61
  t46 := Tryz.underlying148
  a46 := Tryz.isAgg148
  z46 := Tryz.sizeOf148
  v46 := Tryz.zeroValue148
  t51 := Tryz.underlying118
  a51 := Tryz.isAgg118
  z51 := Tryz.sizeOf118
  v51 := Tryz.zeroValue118
  t105 := Tryz.underlying159
  a105 := Tryz.isAgg159
  z105 := Tryz.sizeOf159
  v105 := Tryz.zeroValue159
  t119 := Tryz.underlying166
  a119 := Tryz.isAgg166
  z119 := Tryz.sizeOf166
  t138 := Tryz.underlying225
  a138 := Tryz.isAgg225
  z138 := Tryz.sizeOf225
  v138 := Tryz.zeroValue225
  t139 := Tryz.underlying226
  a139 := Tryz.isAgg226
  z139 := Tryz.sizeOf226
  v139 := Tryz.zeroValue226
  t146 := Tryz.underlying119
  a146 := Tryz.isAgg119
  z146 := Tryz.sizeOf119
  v146 := Tryz.zeroValue119
  g1 := by kernel_rfl
  g3 := by kernel_rfl
  g4 := by kernel_rfl }

def itoaMR_ren : Go.Shelf.Ren := ⟨fun | 171 => 64 | 243 => 98 | 246 => 122 | 283 => 150 | 284 => 151 | 285 => 152 | 286 => 153 | 129 => 169 | 317 => 168 | 318 => 170 | 319 => 171 | 320 => 172 | 337 => 179 | 338 => 180 | n => n, fun | 3 => 3 | 9 => 9 | 2 => 2 | 4 => 4 | 171 => 193 | 0 => 0 | 53 => 194 | 37 => 75 | 5 => 5 | 173 => 197 | 212 => 229 | 51 => 118 | 20 => 20 | 213 => 230 | 46 => 148 | 232 => 251 | 233 => 252 | n => n, fun | 17 => 10 | 18 => 11 | 19 => 12 | n => n⟩
theorem itoaMR : Go.Proofs.LaysM.n171 Tryz.prog itoaMR_ren := {
  mixed := by kernel_rfl
  f129 := Tryz.func169.trans (congrArg some (by kernel_rfl))
  f171 := Tryz.func64.trans (congrArg some (by kernel_rfl))
  f243 := Tryz.func98.trans (congrArg some (by kernel_rfl))
  f246 := Tryz.func122.trans (congrArg some (by kernel_rfl))
  f283 := Tryz.func150.trans (congrArg some (by kernel_rfl))
  f284 := Tryz.func151.trans (congrArg some (by kernel_rfl))
  f285 := Tryz.func152.trans (congrArg some (by kernel_rfl))
  f286 := Tryz.func153.trans (congrArg some (by kernel_rfl))
  f317 := Tryz.func168.trans (congrArg some (by kernel_rfl))
  f318 := Tryz.func170.trans (congrArg some (by kernel_rfl))
  f319 := Tryz.func171.trans (congrArg some (by kernel_rfl))
  f320 := Tryz.func172.trans (congrArg some (by kernel_rfl))
  f337 := Tryz.func179.trans (congrArg some (by kernel_rfl))
  f338 := Tryz.func180.trans (congrArg some (by kernel_rfl))
  t0 := Tryz.underlying0
  a0 := Tryz.isAgg0
  z0 := Tryz.sizeOf0
  v0 := Tryz.zeroValue0
  t2 := Tryz.underlying2
  a2 := Tryz.isAgg2
  z2 := Tryz.sizeOf2
  v2 := Tryz.zeroValue2
  t3 := Tryz.underlying3
  a3 := Tryz.isAgg3
  z3 := Tryz.sizeOf3
  v3 := Tryz.zeroValue3
  t4 := Tryz.underlying4
  a4 := Tryz.isAgg4
  z4 := Tryz.sizeOf4
  v4 := Tryz.zeroValue4
  t5 := Tryz.underlying5
  a5 := Tryz.isAgg5
  z5 := Tryz.sizeOf5
  v5 := Tryz.zeroValue5
  t9 := Tryz.underlying9
  a9 := Tryz.isAgg9
  z9 := Tryz.sizeOf9
  v9 := Tryz.zeroValue9
  t20 := Tryz.underlying20
  a20 := Tryz.isAgg20
  z20 := Tryz.sizeOf20
  v20 := Tryz.zeroValue20
  t37 := Tryz.underlying75
  a37 := Tryz.isAgg75
  z37 := Tryz.sizeOf75
  v37 := Tryz.zeroValue75
  t46 := Tryz.underlying148
  a46 := Tryz.isAgg148
  z46 := Tryz.sizeOf148
  v46 := Tryz.zeroValue148
  t51 := Tryz.underlying118
  a51 := Tryz.isAgg118
  z51 := Tryz.sizeOf118
  v51 := Tryz.zeroValue118
  t53 := Tryz.underlying194
  a53 := Tryz.isAgg194
  z53 := Tryz.sizeOf194
  v53 := Tryz.zeroValue194
  t171 := Tryz.underlying193
  a171 := Tryz.isAgg193
  z171 := Tryz.sizeOf193
  v171 := Tryz.zeroValue193
  t173 := Tryz.underlying197
  a173 := Tryz.isAgg197
  z173 := Tryz.sizeOf197
  v173 := Tryz.zeroValue197
  t212 := Tryz.underlying229
  a212 := Tryz.isAgg229
  z212 := Tryz.sizeOf229
  v212 := Tryz.zeroValue229
  t213 := Tryz.underlying230
  a213 := Tryz.isAgg230
  z213 := Tryz.sizeOf230
  t232 := Tryz.underlying251
  a232 := Tryz.isAgg251
  z232 := Tryz.sizeOf251
  v232 := Tryz.zeroValue251
  t233 := Tryz.underlying252
  a233 := Tryz.isAgg252
  z233 := Tryz.sizeOf252
  v233 := Tryz.zeroValue252
  g17 := by kernel_rfl
  g18 := by kernel_rfl
  g19 := by kernel_rfl
  i0 := by kernel_rfl
  i2 := by kernel_rfl
  i3 := by kernel_rfl
  i4 := by kernel_rfl
  i5 := by kernel_rfl
  i9 := by kernel_rfl
  i20 := by kernel_rfl
  i37 := by kernel_rfl
  i46 := by kernel_rfl
  i51 := by kernel_rfl
  i53 := by kernel_rfl
  i171 := by kernel_rfl
  i173 := by kernel_rfl
  i212 := by kernel_rfl
  i232 := by kernel_rfl
  i233 := by kernel_rfl
  m17 := by kernel_rfl
  m18 := by kernel_rfl
  m19 := by kernel_rfl }

def atoiR_ren : Go.Shelf.Ren := ⟨fun | 172 => 82 | 244 => 110 | 245 => 111 | 247 => 132 | 279 => 133 | 280 => 134 | 281 => 135 | 282 => 136 | 287 => 158 | 316 => 159 | 171 => 64 | 205 => 160 | 321 => 177 | 322 => 178 | 243 => 98 | 246 => 122 | 283 => 150 | 284 => 151 | 285 => 152 | 286 => 153 | 129 => 169 | 317 => 168 | 318 => 170 | 319 => 171 | 320 => 172 | 337 => 179 | 338 => 180 | n => n, fun | 9 => 9 | 3 => 3 | 75 => 29 | 76 => 78 | 4 => 4 | 5 => 5 | 167 => 176 | 37 => 75 | 0 => 0 | 85 => 153 | 2 => 2 | 168 => 177 | 53 => 194 | 175 => 206 | 46 => 148 | 210 => 210 | 127 => 108 | 145 => 247 | 143 => 245 | 21 => 21 | 171 => 193 | 173 => 197 | 212 => 229 | 51 => 118 | 20 => 20 | 213 => 230 | 232 => 251 | 233 => 252 | 80 => 82 | n => n, fun | 15 => 6 | 16 => 7 | 17 => 10 | 18 => 11 | 19 => 12 | n => n⟩
theorem atoiR : Go.Proofs.LaysC.n172 Tryz.prog atoiR_ren := {
  mixed := by kernel_rfl
  f129 := Tryz.func169.trans (congrArg some (by kernel_rfl))
  f171 := Tryz.func64.trans (congrArg some (by kernel_rfl))
  f172 := Tryz.func82.trans (congrArg some (by kernel_rfl))
  f205 := Tryz.func160.trans (congrArg some (by kernel_rfl))
  f243 := Tryz.func98.trans (congrArg some (by kernel_rfl))
  f244 := Tryz.func110.trans (congrArg some (by kernel_rfl))
  f245 := Tryz.func111.trans (congrArg some (by kernel_rfl))
  f246 := Tryz.func122.trans (congrArg some (by kernel_rfl))
  f247 := Tryz.func132.trans (congrArg some (by kernel_rfl))
  f279 := Tryz.func133.trans (congrArg some (by kernel_rfl))
  f280 := Tryz.func134.trans (congrArg some (by kernel_rfl))
  f281 := Tryz.func135.trans (congrArg some (by kernel_rfl))
  f282 := Tryz.func136.trans (congrArg some (by kernel_rfl))
  f283 := Tryz.func150.trans (congrArg some (by kernel_rfl))
  f284 := Tryz.func151.trans (congrArg some (by kernel_rfl))
  f285 := Tryz.func152.trans (congrArg some (by kernel_rfl))
  f286 := Tryz.func153.trans (congrArg some (by kernel_rfl))
  f287 := Tryz.func158.trans (congrArg some (by kernel_rfl))
  f316 := Tryz.func159.trans (congrArg some (by kernel_rfl))
  f317 := Tryz.func168.trans (congrArg some (by kernel_rfl))
  f318 := Tryz.func170.trans (congrArg some (by kernel_rfl))
  f319 := Tryz.func171.trans (congrArg some (by kernel_rfl))
  f320 := Tryz.func172.trans (congrArg some (by kernel_rfl))
  f321 := Tryz.func177.trans (congrArg some (by kernel_rfl))
  f322 := Tryz.func178.trans (congrArg some (by kernel_rfl))
  f337 := Tryz.func179.trans (congrArg some (by kernel_rfl))
  f338 := Tryz.func180.trans (congrArg some (by kernel_rfl))
  t0 := Tryz.underlying0
  a0 := Tryz.isAgg0
  z0 := Tryz.sizeOf0
  v0 := Tryz.zeroValue0
  t2 := Tryz.underlying2
  a2 := Tryz.isAgg2
  z2 := Tryz.sizeOf2
  v2 := Tryz.zeroValue2
  t3 := Tryz.underlying3
  a3 := Tryz.isAgg3
  z3 := Tryz.sizeOf3
  v3 := Tryz.zeroValue3
  t4 := Tryz.underlying4
  a4 := Tryz.isAgg4
  z4 := Tryz.sizeOf4
  v4 := Tryz.zeroValue4
  t5 := Tryz.underlying5
  a5 := Tryz.isAgg5
  z5 := Tryz.sizeOf5
  v5 := Tryz.zeroValue5
  t9 := Tryz.underlying9
  a9 := Tryz.isAgg9
  z9 := Tryz.sizeOf9
  v9 := Tryz.zeroValue9
  t20 := Tryz.underlying20
  a20 := Tryz.isAgg20
  z20 := Tryz.sizeOf20
  v20 := Tryz.zeroValue20
  t21 := Tryz.underlying21
  a21 := Tryz.isAgg21
  z21 := Tryz.sizeOf21
  v21 := Tryz.zeroValue21
  t37 := Tryz.underlying75
  a37 := Tryz.isAgg75
  z37 := Tryz.sizeOf75
  v37 := Tryz.zeroValue75
  t46 := Tryz.underlying148
  a46 := Tryz.isAgg148
  z46 := Tryz.sizeOf148
  v46 := Tryz.zeroValue148
  t51 := Tryz.underlying118
  a51 := Tryz.isAgg118
  z51 := Tryz.sizeOf118
  v51 := Tryz.zeroValue118
  t53 := Tryz.underlying194
  a53 := Tryz.isAgg194
  z53 := Tryz.sizeOf194
  v53 := Tryz.zeroValue194
  t75 := Tryz.underlying29
  a75 := Tryz.isAgg29
  z75 := Tryz.sizeOf29
  v75 := Tryz.zeroValue29
  t76 := Tryz.underlying78
  a76 := Tryz.isAgg78
  z76 := Tryz.sizeOf78
  v76 := Tryz.zeroValue78
  t85 := Tryz.underlying153
  a85 := Tryz.isAgg153
  z85 := Tryz.sizeOf153
  v85 := Tryz.zeroValue153
  t127 := Tryz.underlying108
  a127 := Tryz.isAgg108
  z127 := Tryz.sizeOf108
  v127 := Tryz.zeroValue108
  t143 := Tryz.underlying245
  a143 := Tryz.isAgg245
  z143 := Tryz.sizeOf245
  v143 := Tryz.zeroValue245
  t145 := Tryz.underlying247
  a145 := Tryz.isAgg247
  z145 := Tryz.sizeOf247
  v145 := Tryz.zeroValue247
  t167 := Tryz.underlying176
  a167 := Tryz.isAgg176
  z167 := Tryz.sizeOf176
  v167 := Tryz.zeroValue176
  t168 := Tryz.underlying177
  a168 := Tryz.isAgg177
  z168 := Tryz.sizeOf177
  v168 := Tryz.zeroValue177
  t171 := Tryz.underlying193
  a171 := Tryz.isAgg193
  z171 := Tryz.sizeOf193
  v171 := Tryz.zeroValue193
  t173 := Tryz.underlying197
  a173 := Tryz.isAgg197
  z173 := Tryz.sizeOf197
  v173 := Tryz.zeroValue197
  t175 := Tryz.underlying206
  a175 := Tryz.isAgg206
  z175 := Tryz.sizeOf206
  v175 := Tryz.zeroValue206
  t210 := Tryz.underlying210
  a210 := Tryz.isAgg210
  z210 := Tryz.sizeOf210
  v210 := Tryz.zeroValue210
  t212 := Tryz.underlying229
  a212 := Tryz.isAgg229
  z212 := Tryz.sizeOf229
  v212 := Tryz.zeroValue229
  t213 := Tryz.underlying230
  a213 := Tryz.isAgg230
  z213 := Tryz.sizeOf230
  t232 := Tryz.underlying251
  a232 := Tryz.isAgg251
  z232 := Tryz.sizeOf251
  v232 := Tryz.zeroValue251
  t233 := Tryz.underlying252
  a233 := Tryz.isAgg252
  z233 := Tryz.sizeOf252
  v233 := Tryz.zeroValue252
  g15 := by kernel_rfl
  g16 := by kernel_rfl
  g17 := by kernel_rfl
  g18 := by kernel_rfl
  g19 := by kernel_rfl
  t80 := Tryz.underlying82
  a80 := Tryz.isAgg82
  z80 := Tryz.sizeOf82
  v80 := Tryz.zeroValue82
  i0 := by kernel_rfl
  i2 := by kernel_rfl
  i3 := by kernel_rfl
  i4 := by kernel_rfl
  i5 := by kernel_rfl
  i9 := by kernel_rfl
  i20 := by kernel_rfl
  i21 := by kernel_rfl
  i37 := by kernel_rfl
  i46 := by kernel_rfl
  i51 := by kernel_rfl
  i53 := by kernel_rfl
  i75 := by kernel_rfl
  i76 := by kernel_rfl
  i80 := by kernel_rfl
  i85 := by kernel_rfl
  i127 := by kernel_rfl
  i143 := by kernel_rfl
  i145 := by kernel_rfl
  i167 := by kernel_rfl
  i168 := by kernel_rfl
  i171 := by kernel_rfl
  i173 := by kernel_rfl
  i175 := by kernel_rfl
  i210 := by kernel_rfl
  i212 := by kernel_rfl
  i232 := by kernel_rfl
  i233 := by kernel_rfl
  m15 := by kernel_rfl
  m16 := by kernel_rfl
  m17 := by kernel_rfl
  m18 := by kernel_rfl
  m19 := by kernel_rfl
  c0 := by kernel_rfl
  c2 := by kernel_rfl
  c3 := by kernel_rfl
  c4 := by kernel_rfl
  c5 := by kernel_rfl
  c9 := by kernel_rfl
  c20 := by kernel_rfl
  c21 := by kernel_rfl
  c37 := by kernel_rfl
  c46 := by kernel_rfl
  c51 := by kernel_rfl
  c53 := by kernel_rfl
  c75 := by kernel_rfl
  c76 := by kernel_rfl
  c80 := by kernel_rfl
  c85 := by kernel_rfl
  c127 := by kernel_rfl
  c143 := by kernel_rfl
  c145 := by kernel_rfl
  c167 := by kernel_rfl
  c168 := by kernel_rfl
  c171 := by kernel_rfl
  c173 := by kernel_rfl
  c175 := by kernel_rfl
  c210 := by kernel_rfl
  c212 := by kernel_rfl
  c213 := by kernel_rfl
  c232 := by kernel_rfl
  c233 := by kernel_rfl }

/-- The library's bound, whatever it is. -/
def Mx (w : World) : Prop := ∃ m, w.cell? ⟨2, 0, none⟩ = some (.int .i64 m)
/-- The table of powers of ten. -/
def Pw (w : World) : Prop := Lib.TabIs Tryz.prog w "internal/strconv.uint64pow10" .u64 Lib.pow10Tab
theorem hasPre_c (s p : List UInt8) (w : World) : Fun Tryz.prog 27 [str s, str p] w fun r w' => r = .bool (p.isPrefixOf s) ∧ w' = w := by
  refine fun_of_calls Tryz.func27 (by kernel_rfl) (by kernel_rfl) ?_
  refine Calls.mono (Any.strings_HasPrefix hpR ⟨s.toArray⟩ ⟨p.toArray⟩ w) ?_
  rintro e w' ⟨rfl, rfl⟩
  exact ⟨_, rfl, rfl, rfl⟩
theorem hasSufTen_c (s : List UInt8) (hs : s.length ≤ 1000000000) (w : World) : Fun Tryz.prog 30 [str s, str [10]] w fun r w' => r = .bool (decide (s.getLast? = some 10)) ∧ w' = w := by
  refine fun_of_calls Tryz.func30 (by kernel_rfl) (by kernel_rfl) ?_
  refine Calls.mono (Any.strings_HasSuffix hsR ⟨s.toArray⟩ ⟨[(10 : UInt8)].toArray⟩ w (by show s.length ≤ _; omega)) ?_
  rintro e w' ⟨rfl, rfl⟩
  exact ⟨_, rfl, congrArg Value.bool (suffix_ten s), rfl⟩
theorem trimTen_c (s : List UInt8) (hs : s.length ≤ 1000000000) (w : World) : Fun Tryz.prog 25 [str s, str [10]] w fun r w' => r = str (trimA s) ∧ w' = w := by
  refine fun_of_calls Tryz.func25 (by kernel_rfl) (by kernel_rfl) ?_
  refine Calls.mono (Any.strings_TrimSuffix tsR ⟨s.toArray⟩ ⟨[(10 : UInt8)].toArray⟩ w (by show s.length ≤ _; omega)) ?_
  rintro e w' ⟨rfl, rfl⟩
  exact ⟨_, rfl, congrArg str (trim_ten s), rfl⟩
theorem itoaN_c (n : Int) (h0 : -9223372036854775808 ≤ n) (h1 : n ≤ 9223372036854775807) (w : World) (hp : Pw w) : Fun Tryz.prog 64 [.int .i64 n] w fun r w' => r = str (itoaT n) ∧ Below w.heap.size w w' := by
  refine fun_of_calls Tryz.func64 (by kernel_rfl) (by kernel_rfl) ?_
  refine Calls.mono (Any.strconv_Itoa itoaMR n h0 h1 w hp) ?_
  rintro e w' ⟨rfl, k, os, rfl⟩
  exact ⟨_, rfl, rfl, Lib.below_grow _ w (Nat.le_refl _) k os⟩
/-- What Atoi answers: a number, or an error and a number. -/
def AtoiR (s : List UInt8) (r : Value) : Prop := (∃ v, Lib.atoiAll s = .ok v ∧ r = .tuple #[.int .i64 v, .nilIface]) ∨ ((∀ v, Lib.atoiAll s ≠ .ok v) ∧ ∃ t p, r = .tuple #[.int .i64 (atoiV s), .iface t p])
theorem atoiN_c (s : List UInt8) (hs : s.length ≤ 1000000) (w : World) (h : SErrs w) : Fun Tryz.prog 82 [str s] w fun r w' => AtoiR s r ∧ Below w.heap.size w w' := by
  obtain ⟨⟨t1, p1, h1⟩, ⟨t2, p2, h2⟩⟩ := h
  refine fun_of_calls Tryz.func82 (by kernel_rfl) (by kernel_rfl) ?_
  cases ha : Lib.atoiAll s with
  | ok v =>
    refine Calls.mono (Any.strconv_Atoi_ok atoiR ⟨s.toArray⟩ (by show s.length ≤ _; omega) _ ha w) ?_
    rintro e w' ⟨rfl, hw⟩
    refine ⟨_, rfl, .inl ⟨v, ha, rfl⟩, ?_⟩
    rcases hw with rfl | ⟨t, rfl⟩
    · exact Below.refl _ _
    · exact Lib.bytesWorld_below _ _ _
  | range =>
    refine Calls.mono (Any.strconv_Atoi_range atoiR ⟨s.toArray⟩ (by show s.length ≤ _; omega) ha _ w h2 (.inr ⟨_, _, rfl⟩)) ?_
    rintro e w' ⟨N, rfl, _, _, hw⟩
    exact ⟨_, rfl, .inr ⟨fun v hv => (by rw [ha] at hv; cases hv), _, _, by unfold atoiV; rw [ha]⟩, hw⟩
  | _ =>
    refine Calls.mono (Any.strconv_Atoi_syntax atoiR ⟨s.toArray⟩ (by show s.length ≤ _; omega) ha _ w h1 (.inr ⟨_, _, rfl⟩)) ?_
    rintro e w' ⟨N, rfl, _, _, hw⟩
    exact ⟨_, rfl, .inr ⟨fun v hv => (by rw [ha] at hv; cases hv), _, _, by unfold atoiV; rw [ha]⟩, hw⟩
theorem split10_c (s : List UInt8) (hs : s.length ≤ 1000000) (w : World) (hm : Mx w) : Fun Tryz.prog 24 [str s, str [10]] w fun r w' => Sl (fun b => b < w.heap.size) 1 (En encS) w' r (splitB 10 s) ∧ Below w.heap.size w w' := by
  obtain ⟨m, hm⟩ := hm
  refine fun_of_calls Tryz.func24 (by kernel_rfl) (by kernel_rfl) ?_
  refine Calls.mono (Any.strings_Split splitR (by kernel_rfl) ⟨s.toArray⟩ ⟨[(10 : UInt8)].toArray⟩ m w (by show s.length < _; omega) hm (by decide)) ?_
  rintro e w' ⟨rfl, rfl⟩
  have hk : Lib.splitK [10] 0 (Lib.count s [10]) s = splitB 10 s := splitK_one 10 _ s (Nat.le_refl _)
  have hl : (Lib.splitB ⟨[(10 : UInt8)].toArray⟩ 0 (Lib.countB ⟨s.toArray⟩ ⟨[(10 : UInt8)].toArray⟩) ⟨s.toArray⟩).map (·.data.toList) = splitB 10 s := by
    rw [Lib.splitB_data]
    exact hk
  have hlen := Lib.splitB_all ⟨[(10 : UInt8)].toArray⟩ (by decide) 0 _ ⟨s.toArray⟩ rfl
  generalize Lib.splitB ⟨[(10 : UInt8)].toArray⟩ 0 (Lib.countB ⟨s.toArray⟩ ⟨[(10 : UInt8)].toArray⟩) ⟨s.toArray⟩ = L at hl hlen
  generalize Lib.countB ⟨s.toArray⟩ ⟨[(10 : UInt8)].toArray⟩ + 1 = n at hlen
  have hnew : New w (w.alloc (.cells (L.map Value.string).toArray 9)) 9 (L.map Value.string) := ⟨rfl⟩
  refine ⟨_, rfl, ?_, hnew.below⟩
  unfold Sl
  refine ⟨some ⟨w.heap.size, 0, none⟩, n, ?_, by rw [← hl, List.length_map, hlen]; exact Nat.le_refl _, ?_⟩
  · rw [← hl, List.length_map, hlen]
  · intro i x hx
    refine ⟨_, _, [str x], rfl, by omega, rfl, ?_, rfl⟩
    intro j u hu
    rw [← hl, List.getElem?_map] at hx
    cases hL : L[i]? with
    | none => rw [hL] at hx; cases hx
    | some y =>
      rw [hL] at hx
      cases hx
      have hj : j = 0 := by cases j with
        | zero => rfl
        | succ j => simp at hu
      subst hj
      cases hu
      have := hnew.cell (j := 0 + i * 1 + 0) (u := Value.string y) (by rw [List.getElem?_map, show 0 + i * 1 + 0 = i by omega, hL]; rfl)
      exact this
end Go.Proofs.YtiofleijieepgaaGreatDoor
end
section
namespace Go.Proofs.YtiofleijieepgaaGreatDoor
open Go.Vc Go.Proofs Go.RowKit Cae
set_option maxRecDepth 100000
set_option linter.unusedSimpArgs false
set_option linter.unusedVariables false
attribute [local irreducible] wpL callK valK unitK runK Fun Sl Vc.Own vc vcOps opK pureK
set_option maxHeartbeats 4000000
/-- A builder of the call's own, that holds l. -/
def Bu (B b : Nat) (l : List UInt8) (w : World) : Prop := Lib.IsBuilderF 77 5 B b (Lib.byteCells l) w
theorem Bu.below {B b : Nat} {l : List UInt8} {w w' : World} (h : Bu B b l w) (hb : Below w.heap.size w w') : Bu B b l w' := by
  have one : ∀ {p : Value}, Lib.BuilderAtF 77 5 B b p (Lib.byteCells l) w → Lib.BuilderAtF 77 5 B b p (Lib.byteCells l) w' := by
    intro p h
    have hlt := h.lt
    obtain ⟨hB, v, hv, hown, hne⟩ := h
    exact ⟨hB, v, (hb.block b hlt).trans hv, hown.kept (row := none) ⟨hb.os, hb.tape, hb.output, hb.size, fun k hk _ => hb.block k hk⟩ (Classical.em _), hne⟩
  exact h.elim (fun x => .inl (one x)) (fun x => .inr (one x))
theorem Bu.lt {B b : Nat} {l : List UInt8} {w : World} (h : Bu B b l w) : b < w.heap.size := h.elim (fun x => x.lt) (fun x => x.lt)
/-- What a write keeps: all below B, and all that is neither the builder nor a row of bytes. -/
def BuK (B b : Nat) (w w' : World) : Prop := Below B w w' ∧ Lib.OthersKept 5 (some b) w w'
theorem write_c (B b : Nat) (l s : List UInt8) (w : World) (h : Bu B b l w) (hlen : l.length + s.length ≤ 1000000000) (hB : B ≤ w.heap.size) :
    Fun Tryz.prog 31 [.pointer (some ⟨b, 0, none⟩), str s] w fun _ w' => Bu B b (l ++ s) w' ∧ BuK B b w w' := by
  refine fun_of_calls Tryz.func31 (by kernel_rfl) (by kernel_rfl) ?_
  have e : (⟨s.toArray⟩ : ByteArray).size = s.length := by simp [ByteArray.size]
  refine Calls.mono (Any.Builder_WriteString_k { joinR with } joinX B b (Lib.byteCells l) ⟨s.toArray⟩ w h (by rw [e, Lib.byteCells_length]; omega) hB) ?_
  rintro _ w' ⟨rfl, h1, h2, h3⟩
  refine ⟨_, rfl, .inr ?_, h2, h3⟩
  rw [Lib.byteCells_append]
  exact h1
theorem BuK.blk {B b k : Nat} {w w' : World} {T : TypeId} {cs : List Value} (h : BuK B b w w') (hB : Blk w k T cs) (hT : T ≠ 5) (hk : k ≠ b) : Blk w' k T cs :=
  h.2 k _ hB (fun e => hk (Option.some.inj e)) (fun c fz e => hT (by injection e))
theorem BuK.trans {B b : Nat} {w w' w'' : World} (h : BuK B b w w') (k : BuK B b w' w'') : BuK B b w w'' := ⟨h.1.trans k.1, h.2.trans k.2⟩
theorem BuK.of_below {B b : Nat} {w w' : World} (h : Below w.heap.size w w') (hB : B ≤ w.heap.size) : BuK B b w w' :=
  ⟨h.mono hB, fun k o hk _ _ => by
    have hlt : k < w.heap.size := by
      rcases Nat.lt_or_ge k w.heap.size with h' | h'
      · exact h'
      · rw [Array.getElem?_eq_none h'] at hk; cases hk
    rw [h.block k hlt]; exact hk⟩
theorem bstring_c (B b : Nat) (l : List UInt8) (w : World) (h : Bu B b l w) (hB : B ≤ w.heap.size) :
    Fun Tryz.prog 34 [.pointer (some ⟨b, 0, none⟩)] w fun r w' => r = str l ∧ Below B w w' := by
  refine fun_of_calls Tryz.func34 (by kernel_rfl) (by kernel_rfl) ?_
  refine Calls.mono (Any.Builder_String_any_k { joinR with } joinX B b l w h hB) ?_
  rintro _ w' ⟨rfl, h1, h2, _⟩
  exact ⟨_, rfl, rfl, h2⟩
theorem Bu.fresh {w w' : World} {b : Nat} (h : New w w' 77 [.pointer none, .slice none 0 0]) (hb : b = w.heap.size) (B : Nat) (hB : B ≤ b) : Bu B b [] w' := by
  subst hb
  refine .inl ⟨hB, .slice none 0 0, h.blk, ?_, by simp [Value.ownBlock]⟩
  exact ⟨by simp, .inl ⟨rfl, rfl⟩⟩
theorem Pw.below {B : Nat} {w w' : World} (h : Pw w) (hb : Below B w w') (hB : 14 ≤ B) : Pw w' := by
  have e : w'.heap[10]? = w.heap[10]? := hb.block _ (Nat.lt_of_lt_of_le (by decide) hB)
  unfold Pw Lib.TabIs World.var? at h ⊢
  rw [show Tryz.prog.globalNamed "internal/strconv.uint64pow10" = some 10 by kernel_rfl] at h ⊢
  simp only [Option.bind_some] at h ⊢
  rw [e]
  exact h
theorem word_c (b : Bool) (w : World) : Fun Tryz.prog 32 [.bool b] w fun r w' => r = str (wordT b) ∧ w' = w := by
  cases b with
  | true =>
    (refine fun_of_vc Tryz.func32 rfl (by kernel_rfl) [2] rfl ?_; push_cast -dsimp (maxSteps := 4000000) [Tryz.ntmps32])
    rfl
  | false =>
    (refine fun_of_vc Tryz.func32 rfl (by kernel_rfl) [2] rfl ?_; push_cast -dsimp (maxSteps := 4000000) [Tryz.ntmps32])
    rfl
theorem number_c (s : List UInt8) (hs : s.length ≤ 1000000) (w : World) (h : SErrs w) (hp : Pw w) (hg : 14 ≤ w.heap.size) : Fun Tryz.prog 94 [str s] w fun r w' => ((∃ v, numA s = some v ∧ r = .tuple #[.int .i64 v, .bool true]) ∨ (numA s = none ∧ ∃ v, r = .tuple #[.int .i64 v, .bool false])) ∧ Below w.heap.size w w' := by
  refine fun_of_vc Tryz.func94 rfl (by kernel_rfl) [2, 3] rfl ?_
  push_cast -dsimp (maxSteps := 4000000) [Tryz.ntmps94]
  refine callK_of (atoiN_c s hs w h) ?_
  rintro r w1 ⟨hr, hb⟩
  rcases hr with ⟨v, hv, rfl⟩ | ⟨hno, t, p, rfl⟩
  · have hbd := Lib.atoiAll_bounds hv
    push_cast -dsimp
    refine ⟨fun h0 => ?_, fun h0 => ?_⟩
    · refine callK_of (itoaN_c v (by omega) (by omega) w1 (hp.below hb hg)) ?_
      rintro _ w2 ⟨rfl, hb2⟩
      push_cast -dsimp
      refine ⟨?_, hb.trans (hb2.mono hb.size)⟩
      by_cases he : itoaT v = s
      · exact .inl ⟨v, by unfold numA; rw [hv]; exact if_pos ⟨h0, he⟩, by simp [he]⟩
      · exact .inr ⟨by unfold numA; rw [hv]; exact if_neg (fun h => he h.2), v, by simp [he]⟩
    · refine ⟨.inr ⟨?_, v, rfl⟩, hb⟩
      unfold numA
      rw [hv]
      exact if_neg (fun h => h0 h.1)
  · push_cast -dsimp
    refine ⟨.inr ⟨?_, _, rfl⟩, hb⟩
    unfold numA
    split
    · rename_i v hv; exact absurd hv (hno v)
    · rfl
end Go.Proofs.YtiofleijieepgaaGreatDoor
end
section
set_option linter.unusedSimpArgs false
set_option linter.unusedVariables false
namespace Go.Vc
open Go.RowKit
section
variable {P : Program} {t : Fr} {w : World} {K : VK} {Q : EP}
/-- What a call does that may panic. -/
def Fun2 (P : Program) (f : FuncId) (args : List Value) (w : World) (R : VK) (E : List PanicEntry → World → Prop) : Prop :=
  (callFunc f args.toArray).run P w = .ok (.enter f args.toArray) w ∧ Calls P f args.toArray w fun e w' => match e with
    | .returned v => R v w'
    | .panicked c => E c w'
    | .outgrown => False
theorem Fun.two {f : FuncId} {args : List Value} {R : VK} (h : Fun P f args w R) : Fun2 P f args w R (fun _ _ => False) :=
  ⟨h.1, h.2.mono fun e w' ⟨v, he, hr⟩ => by subst he; exact hr⟩
def retE (P : Program) (rs : List ResultVar) (R : VK) (E : List PanicEntry → World → Prop) (_ : Ph (R, E)) : EP
  | .normal, t, w => retL P t w rs fun vs => R (tup vs) w
  | .ret, t, w => retL P t w rs fun vs => R (tup vs) w
  | .panic c, _, w => E c w
  | _, _, _ => False
variable {R : VK} {E : List PanicEntry → World → Prop}
theorem retE_normal (rs) (p) : retE P rs R E p .normal t w = retL P t w rs fun vs => R (tup vs) w := (rfl)
theorem retE_ret (rs) (p) : retE P rs R E p .ret t w = retL P t w rs fun vs => R (tup vs) w := (rfl)
theorem retE_panic (rs) (c) (p) : retE P rs R E p (.panic c) t w = E c w := (rfl)
end
attribute [push_cast] retE_normal retE_ret retE_panic seqQ_panic blockQ_panic
end Go.Vc
end
section
/- (its rules are those of V, since V lets nil checks float.) -/
end
section
/- (its rules are those of V, since V lets nil checks float.) -/
end
section
namespace Go.Proofs.YtiofleijieepgaaGreatDoor
open Go.Vc Go.Proofs Go.RowKit Cae
set_option maxRecDepth 100000
set_option linter.unusedSimpArgs false
set_option linter.unusedVariables false
attribute [local irreducible] wpL callK valK unitK runK Fun Sl Vc.Own vc vcOps opK pureK
set_option maxHeartbeats 4000000
/-- The names of operations. -/
def Nms (w : World) : Prop := ∀ i, i < 6 → w.cell? ⟨1, i, none⟩ = some (str (opName (i : Nat)))
theorem Nms.below {B : Nat} {w w' : World} (h : Nms w) (hb : Below B w w') (hB : 14 ≤ B) : Nms w' := fun i hi => by
  rw [← h i hi]
  have := hb.block 1 (Nat.lt_of_lt_of_le (by decide) hB)
  simp only [World.cell?, this]
theorem below_drewA (w : World) : Below w.heap.size w w.drew := ((Kept.refl (fun _ => False) w).drew).below (Nat.le_refl _) (fun _ h => h.elim)
theorem Db.kept' {B : Nat} {w w' : World} (h : Db w) (hb : Below B w w') (hg : 14 ≤ B) : Db w' := (hb.cell (Nat.lt_of_lt_of_le (by decide) hg)).trans h
theorem codeT_c (B b : Nat) (c : CodeP) (hc : codeRight c = true) (l : List UInt8) (hlen : l.length + (linesT (codeL c)).length ≤ 1000000000) (cv : Value) (w : World) (hU : Bu B b l w) (hcv : CodeV (fun j => B ≤ j) w cv c) (hd : Db w) (hp : Pw w) (hn : Nms w) (hB : B ≤ w.heap.size) (hg : 14 ≤ B) :
    Fun Tryz.prog 33 [.pointer (some ⟨b, 0, none⟩), cv] w fun _ w' => Bu B b (l ++ linesT (codeL c)) w' ∧ BuK B b w w' := by
  obtain ⟨sv, iv, rfl, hsv, hiv⟩ := hcv
  obtain ⟨a1, c1, rfl, hc1⟩ := hsv.shape
  obtain ⟨a2, c2, rfl, hc2⟩ := hiv.shape
  refine fun_of_vc Tryz.func33 rfl (by kernel_rfl) [] rfl ?_
  push_cast -dsimp (maxSteps := 4000000) [Tryz.ntmps33]
  refine boxK_of ?_
  intro w1 hw1
  have B1 := hw1.blk
  have z1 := hw1.size
  have U1 := hU.below hw1.below
  have K1 : BuK B b w w1 := BuK.of_below hw1.below hB
  have d0 : w1.cell? ⟨w.heap.size, 1, none⟩ = some (.slice a2 c.ins.length c2) := B1.cell rfl
  push_cast -dsimp [d0]
  refine wpL_loop [5, 9, 10, 11, 12, 13, 14, 15, 16, 17, 18, 19, 20, 21, 22, 23, 24, 25, 26, 27, 28, 29, 30, 31, 32, 33, 34, 35, 36, 37, 38, 39, 40, 41, 42, 43, 44, 45, 46, 47, 48, 49, 50, 51, 52, 53, 54, 55, 56] (fun z wx => ∃ i : Nat, z 9 = .int .i64 i ∧ i ≤ c.ins.length ∧ Bu B b (l ++ linesT ((c.ins.take i).map (instL c.sets))) wx ∧ BuK B b w1 wx) (fun z _ => c.ins.length - (intOf (z 9)).toNat) ?_ ?_
  · exact ⟨0, rfl, Nat.zero_le _, by simpa [linesT] using U1, BuK.of_below (Below.refl _ _) (by omega)⟩
  · intro z wx hI
    obtain ⟨i, h9, hi, hUx, hKx⟩ := hI
    have zx := hKx.1.size
    push_cast -dsimp [h9]
    refine ⟨fun hlt => ?_, fun hge => ?_⟩
    · obtain ⟨x, hx, hxm, _, ht⟩ := lt_get (l := c.ins) (i := i) (by omega)
      have hwx := (K1.trans hKx).1
      have hivx : Sl (fun j => B ≤ j) 3 (En encIn) wx (.slice a2 c.ins.length c2) c.ins := Sl.mono hiv (fun j hj hlt => hwx.block j (by omega)) (fun _ _ _ h => h) (fun _ h => h)
      have hsvx : SetsV (fun j => B ≤ j) wx (.slice a1 c.sets.length c1) c.sets := hsv.mono (fun j hj hlt => hwx.block j (by omega)) (fun _ h => h)
      obtain ⟨b2, o, rfl, hnb, hcell⟩ := hivx.get hx
      have cx : cellsAt wx ⟨b2, o + i * 3, none⟩ 0 3 = some [.int .i64 x.op, .int .i64 x.a, .int .i64 x.b] := cellsAt_of (encIn x) 0 (fun j u hu => by simpa using hcell j u hu)
      have Bx := hKx.blk B1 (by decide) (by have := hU.lt; omega)
      have hbl := hU.lt
      have hln : (linesT ((c.ins.take i).map (instL c.sets))).length + (instL c.sets x).length + 1 ≤ (linesT (codeL c)).length := by
        have e : codeL c = (c.ins.take i).map (instL c.sets) ++ (instL c.sets x :: (c.ins.drop (i + 1)).map (instL c.sets)) := by
          unfold codeL
          rw [← List.map_cons, ← List.map_append]
          congr 1
          obtain ⟨y, hy, _, hd2, _⟩ := lt_get (l := c.ins) (i := i) (by omega)
          rw [hx] at hy
          cases hy
          rw [← hd2, List.take_append_drop]
        rw [e]
        unfold linesT
        rw [List.flatMap_append, List.flatMap_cons, List.length_append, List.length_append, List.length_append]
        simp
        omega
      have hcp := code_parts hc
      have hcs := ins_cases (hcp.2.1 x hxm) (by omega)
      push_cast -dsimp [cx]
      refine ⟨⟨by omega, by omega⟩, ?_⟩
      refine allocK (z := [.int .i64 0, .int .i64 0, .int .i64 0]) (by kernel_rfl) ?_
      intro w3 hw3
      have z3 := hw3.size
      push_cast -dsimp
      refine storeAgg (n := 3) (by kernel_rfl) hw3.blk rfl (by simp) (by simp; exact ⟨rfl, rfl, rfl⟩) ?_
      intro w4 hw4
      have z4 := hw4.size
      have B4 := hw4.blk
      have hb4 : Below wx.heap.size wx w4 := hw3.below.trans (hw4.kept.below (B := wx.heap.size) (by omega) (fun i h => by omega))
      have K4 : BuK B b wx w4 := BuK.of_below hb4 (by omega)
      have U4 := hUx.below hb4
      have hw4a := hwx.trans K4.1
      have hn4 := hn.below hw4a hg
      have Bx4 := K4.blk Bx (by decide) (by omega)
      obtain ⟨op, xa, xb⟩ := x
      have hil0 : (opName op).length ≤ (instL c.sets ⟨op, xa, xb⟩).length := by unfold instL; rw [List.length_append]; exact Nat.le_add_right _ _
      rcases hcs with hh | hh | hh | hh | hh
      ·
        simp only at hh
        have h0 := hh.1
        subst h0
        have hil : ([116, 97, 107, 101] : List UInt8).length ≤ (instL c.sets ⟨1, xa, xb⟩).length := hil0
        simp only [List.length_cons, List.length_nil] at hil
        have nm : w4.cell? ⟨1, 1, none⟩ = some (str [116, 97, 107, 101]) := hn4 1 (by decide)
        have d40 : w4.cell? ⟨wx.heap.size, 0, none⟩ = some (.int .i64 1) := B4.cell rfl
        have tn : Int.toNat (1 : Int) = 1 := rfl
        push_cast -dsimp [d40, tn, nm]
        refine callK_of (write_c B b _ [116, 97, 107, 101] w4 U4 (by simp only [List.length_append, List.length_cons, List.length_nil]; omega) (by omega)) ?_
        rintro _ w5 ⟨U5, k5⟩
        have z5 := k5.1.size
        have B5 := k5.blk B4 (by decide) (by omega)
        have d50 : w5.cell? ⟨wx.heap.size, 0, none⟩ = some (.int .i64 1) := B5.cell rfl
        have K5 := K4.trans k5
        obtain ⟨t, ht0, htr, htl⟩ := take_set hc hxm rfl
        simp only at ht0 htl
        have hat : (c.sets)[xa.toNat]? = some t := by rw [List.getElem?_eq_getElem htl, ← ht0, List.getD_eq_getElem?_getD, List.getElem?_eq_getElem htl]; rfl
        have hw5 := hwx.trans K5.1
        have hsv5 : SetsV (fun j => B ≤ j) w5 (.slice a1 c.sets.length c1) c.sets := hsv.mono (fun j hj hlt => hw5.block j (by omega)) (fun _ h => h)
        obtain ⟨b3, o3, cs3, rfl, hX3, hk3, hcell3, u, rfl, hu⟩ := Sl.getR hsv5 hat
        have cu : w5.cell? ⟨b3, o3 + xa.toNat, none⟩ = some u := by simpa using hcell3 0 u rfl
        obtain ⟨a3, c3, rfl, hc3⟩ := hu.shape
        have Bx5 := k5.blk Bx4 (by decide) (by omega)
        have d5s : w5.cell? ⟨w.heap.size, 0, none⟩ = some (.slice (some ⟨b3, o3, none⟩) c.sets.length c1) := Bx5.cell rfl
        have d51 : w5.cell? ⟨wx.heap.size, 1, none⟩ = some (.int .i64 xa) := B5.cell rfl
        have hil2 : (instL c.sets ⟨1, xa, xb⟩).length = 5 + (printP t).length := by
          show ([116, 97, 107, 101] ++ 32 :: printP (c.sets.getD xa.toNat [])).length = _
          rw [ht0]; simp; omega
        push_cast -dsimp [d50, d5s, d51, cu, Nat.mul_one]
        refine ⟨⟨by omega, by omega⟩, ?_⟩
        have htl2 := right_len htr
        refine callK_of (print_c t (by omega) (wr_right (a := -2) (by omega) htr) _ _ w5 hu (hd.kept' hw5 hg)) ?_
        rintro _ w6 ⟨rfl, hb6⟩
        have z6 := hb6.size
        have K6 := K5.trans (BuK.of_below hb6 (by omega))
        have U6 := U5.below hb6
        push_cast -dsimp
        refine ⟨by omega, ?_⟩
        refine callK_of (write_c B b _ (32 :: printP t) w6 U6 (by simp only [List.length_append, List.length_cons, List.length_nil]; omega) (by omega)) ?_
        rintro _ w7 ⟨U7, k7⟩
        have z7 := k7.1.size
        have K7 := K6.trans k7
        push_cast -dsimp
        refine callK_of (write_c B b _ [10] w7 U7 (by simp only [List.length_append, List.length_cons, List.length_nil]; omega) (by omega)) ?_
        rintro _ w9 ⟨U9, k9⟩
        push_cast -dsimp
        refine ⟨⟨by omega, by omega⟩, ⟨i + 1, rfl, by omega, ?_, hKx.trans ((K7).trans k9)⟩, by rw [h9]; simp only [intOf]; omega⟩
        rw [ht, List.map_append, List.map_singleton]
        have eI : instL c.sets ⟨1, xa, xb⟩ = [116, 97, 107, 101] ++ 32 :: printP t := by
          show [116, 97, 107, 101] ++ 32 :: printP (c.sets.getD xa.toNat []) = _
          rw [ht0]
        rw [eI]
        simpa [linesT, List.append_assoc] using U9
      ·
        simp only at hh
        have h0 := hh.1
        subst h0
        have hil : ([115, 112, 108, 105, 116] : List UInt8).length ≤ (instL c.sets ⟨2, xa, xb⟩).length := hil0
        simp only [List.length_cons, List.length_nil] at hil
        have nm : w4.cell? ⟨1, 2, none⟩ = some (str [115, 112, 108, 105, 116]) := hn4 2 (by decide)
        have d40 : w4.cell? ⟨wx.heap.size, 0, none⟩ = some (.int .i64 2) := B4.cell rfl
        have tn : Int.toNat (2 : Int) = 2 := rfl
        push_cast -dsimp [d40, tn, nm]
        refine callK_of (write_c B b _ [115, 112, 108, 105, 116] w4 U4 (by simp only [List.length_append, List.length_cons, List.length_nil]; omega) (by omega)) ?_
        rintro _ w5 ⟨U5, k5⟩
        have z5 := k5.1.size
        have B5 := k5.blk B4 (by decide) (by omega)
        have d50 : w5.cell? ⟨wx.heap.size, 0, none⟩ = some (.int .i64 2) := B5.cell rfl
        have K5 := K4.trans k5
        push_cast -dsimp [d50]
        have hil2 : (instL c.sets ⟨2, xa, xb⟩).length = 7 + (itoaT xa).length + (itoaT xb).length := by
          show ([115, 112, 108, 105, 116] ++ 32 :: (itoaT xa ++ 32 :: itoaT xb)).length = _
          simp; omega
        have Bd := B5.drew
        have e1 : ∀ w'', Below w5.drew.heap.size w5.drew w'' → w''.cell? ⟨wx.heap.size, 1, none⟩ = some (.int .i64 xa) := fun w'' h => (Bd.below h Bd.lt).cell rfl
        have e2 : ∀ w'', Below w5.drew.heap.size w5.drew w'' → w''.cell? ⟨wx.heap.size, 2, none⟩ = some (.int .i64 xb) := fun w'' h => (Bd.below h Bd.lt).cell rfl
        have hr := Below.refl w5.drew.heap.size w5.drew
        refine wpL_last (fun w' => Below w5.drew.heap.size w5.drew w') mixed (by kernel_rfl) (by simp) (Below.refl _ _) ?_
        push_cast -dsimp [e1 _ hr]
        refine ⟨fun w'' h => by rw [e1 _ h]; exact rfl, ?_⟩
        have hd5 : Below B w w5.drew := (hwx.trans K5.1).trans ((below_drewA w5).mono (by omega))
        refine callK_of (itoaN_c xa (by omega) (by omega) w5.drew (hp.below hd5 hg)) ?_
        rintro _ w6 ⟨rfl, hb6⟩
        refine ⟨hb6, ?_⟩
        have z6 : w5.heap.size ≤ w6.heap.size := hb6.size
        push_cast -dsimp [e2 _ hb6]
        simp only [List.length_append, List.length_cons, List.length_nil]
        refine ⟨by omega, by omega, fun w'' h => by rw [e2 _ h]; exact rfl, ?_⟩
        refine callK_of (itoaN_c xb (by omega) (by omega) w6 (hp.below (hd5.trans (hb6.mono (by show B ≤ w5.heap.size; omega))) hg)) ?_
        rintro _ w7 ⟨rfl, hb7⟩
        have hb67 := hb6.trans (hb7.mono hb6.size)
        refine ⟨hb67, ?_⟩
        have z7 : w6.heap.size ≤ w7.heap.size := hb7.size
        have hb57 : Below w5.heap.size w5 w7 := (below_drewA w5).trans hb67
        have K7 := K5.trans (BuK.of_below hb57 (by omega))
        have U7 := U5.below hb57
        push_cast -dsimp
        simp only [List.length_append, List.length_cons, List.length_nil]
        refine ⟨by omega, ?_⟩
        have es : [32] ++ itoaT xa ++ [32] ++ itoaT xb = 32 :: (itoaT xa ++ 32 :: itoaT xb) := by simp
        rw [es]
        refine callK_of (write_c B b _ (32 :: (itoaT xa ++ 32 :: itoaT xb)) w7 U7 (by simp only [List.length_append, List.length_cons, List.length_nil]; omega) (by omega)) ?_
        rintro _ w8 ⟨U8, k8⟩
        refine ⟨trivial, ?_⟩
        have z8 := k8.1.size
        have K8 := K7.trans k8
        push_cast -dsimp
        refine callK_of (write_c B b _ [10] w8 U8 (by simp only [List.length_append, List.length_cons, List.length_nil]; omega) (by omega)) ?_
        rintro _ w9 ⟨U9, k9⟩
        push_cast -dsimp
        refine ⟨⟨by omega, by omega⟩, ⟨i + 1, rfl, by omega, ?_, hKx.trans ((K8).trans k9)⟩, by rw [h9]; simp only [intOf]; omega⟩
        rw [ht, List.map_append, List.map_singleton]
        simpa [linesT, instL, opName, List.append_assoc] using U9
      ·
        simp only at hh
        have h0 := hh.1
        subst h0
        have hil : ([106, 117, 109, 112] : List UInt8).length ≤ (instL c.sets ⟨3, xa, xb⟩).length := hil0
        simp only [List.length_cons, List.length_nil] at hil
        have nm : w4.cell? ⟨1, 3, none⟩ = some (str [106, 117, 109, 112]) := hn4 3 (by decide)
        have d40 : w4.cell? ⟨wx.heap.size, 0, none⟩ = some (.int .i64 3) := B4.cell rfl
        have tn : Int.toNat (3 : Int) = 3 := rfl
        push_cast -dsimp [d40, tn, nm]
        refine callK_of (write_c B b _ [106, 117, 109, 112] w4 U4 (by simp only [List.length_append, List.length_cons, List.length_nil]; omega) (by omega)) ?_
        rintro _ w5 ⟨U5, k5⟩
        have z5 := k5.1.size
        have B5 := k5.blk B4 (by decide) (by omega)
        have d50 : w5.cell? ⟨wx.heap.size, 0, none⟩ = some (.int .i64 3) := B5.cell rfl
        have K5 := K4.trans k5
        have d51 : w5.cell? ⟨wx.heap.size, 1, none⟩ = some (.int .i64 xa) := B5.cell rfl
        have hil2 : (instL c.sets ⟨3, xa, xb⟩).length = 5 + (itoaT xa).length := by
          show ([106, 117, 109, 112] ++ 32 :: itoaT xa).length = _
          simp; omega
        push_cast -dsimp [d50, d51]
        refine callK_of (itoaN_c xa (by omega) (by omega) w5 (hp.below (hwx.trans K5.1) hg)) ?_
        rintro _ w6 ⟨rfl, hb6⟩
        have z6 := hb6.size
        have K6 := K5.trans (BuK.of_below hb6 (by omega))
        have U6 := U5.below hb6
        push_cast -dsimp
        refine ⟨by omega, ?_⟩
        refine callK_of (write_c B b _ (32 :: itoaT xa) w6 U6 (by simp only [List.length_append, List.length_cons, List.length_nil]; omega) (by omega)) ?_
        rintro _ w7 ⟨U7, k7⟩
        have z7 := k7.1.size
        have K7 := K6.trans k7
        push_cast -dsimp
        refine callK_of (write_c B b _ [10] w7 U7 (by simp only [List.length_append, List.length_cons, List.length_nil]; omega) (by omega)) ?_
        rintro _ w9 ⟨U9, k9⟩
        push_cast -dsimp
        refine ⟨⟨by omega, by omega⟩, ⟨i + 1, rfl, by omega, ?_, hKx.trans ((K7).trans k9)⟩, by rw [h9]; simp only [intOf]; omega⟩
        rw [ht, List.map_append, List.map_singleton]
        simpa [linesT, instL, opName, List.append_assoc] using U9
      ·
        simp only at hh
        have h0 := hh.1
        subst h0
        have hil : ([101, 110, 100] : List UInt8).length ≤ (instL c.sets ⟨4, xa, xb⟩).length := hil0
        simp only [List.length_cons, List.length_nil] at hil
        have nm : w4.cell? ⟨1, 4, none⟩ = some (str [101, 110, 100]) := hn4 4 (by decide)
        have d40 : w4.cell? ⟨wx.heap.size, 0, none⟩ = some (.int .i64 4) := B4.cell rfl
        have tn : Int.toNat (4 : Int) = 4 := rfl
        push_cast -dsimp [d40, tn, nm]
        refine callK_of (write_c B b _ [101, 110, 100] w4 U4 (by simp only [List.length_append, List.length_cons, List.length_nil]; omega) (by omega)) ?_
        rintro _ w5 ⟨U5, k5⟩
        have z5 := k5.1.size
        have B5 := k5.blk B4 (by decide) (by omega)
        have d50 : w5.cell? ⟨wx.heap.size, 0, none⟩ = some (.int .i64 4) := B5.cell rfl
        have K5 := K4.trans k5
        push_cast -dsimp [d50]
        refine callK_of (write_c B b _ [10] w5 U5 (by simp only [List.length_append, List.length_cons, List.length_nil]; omega) (by omega)) ?_
        rintro _ w9 ⟨U9, k9⟩
        push_cast -dsimp
        refine ⟨⟨by omega, by omega⟩, ⟨i + 1, rfl, by omega, ?_, hKx.trans ((K5).trans k9)⟩, by rw [h9]; simp only [intOf]; omega⟩
        rw [ht, List.map_append, List.map_singleton]
        simpa [linesT, instL, opName, List.append_assoc] using U9
      ·
        simp only at hh
        have h0 := hh.1
        subst h0
        have hil : ([121, 101, 115] : List UInt8).length ≤ (instL c.sets ⟨5, xa, xb⟩).length := hil0
        simp only [List.length_cons, List.length_nil] at hil
        have nm : w4.cell? ⟨1, 5, none⟩ = some (str [121, 101, 115]) := hn4 5 (by decide)
        have d40 : w4.cell? ⟨wx.heap.size, 0, none⟩ = some (.int .i64 5) := B4.cell rfl
        have tn : Int.toNat (5 : Int) = 5 := rfl
        push_cast -dsimp [d40, tn, nm]
        refine callK_of (write_c B b _ [121, 101, 115] w4 U4 (by simp only [List.length_append, List.length_cons, List.length_nil]; omega) (by omega)) ?_
        rintro _ w5 ⟨U5, k5⟩
        have z5 := k5.1.size
        have B5 := k5.blk B4 (by decide) (by omega)
        have d50 : w5.cell? ⟨wx.heap.size, 0, none⟩ = some (.int .i64 5) := B5.cell rfl
        have K5 := K4.trans k5
        push_cast -dsimp [d50]
        refine callK_of (write_c B b _ [10] w5 U5 (by simp only [List.length_append, List.length_cons, List.length_nil]; omega) (by omega)) ?_
        rintro _ w9 ⟨U9, k9⟩
        push_cast -dsimp
        refine ⟨⟨by omega, by omega⟩, ⟨i + 1, rfl, by omega, ?_, hKx.trans ((K5).trans k9)⟩, by rw [h9]; simp only [intOf]; omega⟩
        rw [ht, List.map_append, List.map_singleton]
        simpa [linesT, instL, opName, List.append_assoc] using U9
    · have hin : i = c.ins.length := by omega
      subst hin
      rw [List.take_length] at hUx
      exact ⟨hUx, K1.trans hKx⟩
end Go.Proofs.YtiofleijieepgaaGreatDoor
end
section
namespace Go.Proofs.YtiofleijieepgaaGreatDoor
open Go.Vc Go.Proofs Go.RowKit Cae
set_option maxRecDepth 100000
set_option linter.unusedSimpArgs false
set_option linter.unusedVariables false
attribute [local irreducible] wpL callK valK unitK runK Fun Sl Vc.Own vc vcOps opK pureK
set_option maxHeartbeats 4000000
theorem linesT_app (a b : List (List UInt8)) : linesT (a ++ b) = linesT a ++ linesT b := by simp [linesT]
theorem asmPrint_c (p : ProgP) (hl : ProgLen p) (hlen0 : progRight p = true → (progT p).length ≤ 1000000000) (X : Nat → Prop) (v : Value) (w : World) (hv : ProgV X w v p) (hd : Db w) (hp : Pw w) (hn : Nms w) (hg : 14 ≤ w.heap.size) :
    Fun Tryz.prog 9 [v] w fun r w' => r = (if progRight p = true then .tuple #[str (progT p), .nilIface] else .tuple #[str [], .iface 47 (.int .i64 1)]) ∧ Below w.heap.size w w' := by
  obtain ⟨rv, rfl, hr⟩ := hv
  obtain ⟨a, c, rfl, hc⟩ := hr.shape
  refine fun_of_vc Tryz.func9 rfl (by kernel_rfl) [2, 3] rfl ?_
  push_cast -dsimp (maxSteps := 4000000) [Tryz.ntmps9]
  refine boxK_of ?_
  intro w1 hw1
  have hw1 : New w w1 24 [.slice a p.rules.length c, .bool p.els] := hw1
  have z1 := hw1.size
  have B1 := hw1.blk
  have hb1 := hw1.below
  have d1 : cellsAt w1 ⟨w.heap.size, 0, none⟩ 0 2 = some [.slice a p.rules.length c, .bool p.els] := hw1.blk.cellsAt
  push_cast -dsimp [d1]
  refine callK_of (rightProgram_c p hl X _ w1 ⟨_, rfl, PairsV.below hr hb1⟩) ?_
  rintro _ w2 ⟨rfl, hb2⟩
  have z2 := hb2.size
  have hbw2 := hb1.trans (hb2.mono (by omega))
  cases hR : progRight p with
  | false =>
    push_cast -dsimp
    first | exact hbw2 | exact ⟨by simp, hbw2⟩
  | true =>
    have hlen := hlen0 hR
    have hok := (right_parts hR).2
    have h20 := (right_parts hR).1
    have B2 := B1.below hb2 B1.lt
    push_cast -dsimp
    refine allocK (z := [.pointer none, .slice none 0 0]) (by kernel_rfl) ?_
    intro w3 hw3
    have z3 := hw3.size
    have hbw3 := hbw2.trans (hw3.below.mono (by omega))
    have U3 : Bu w2.heap.size w2.heap.size [] w3 := Bu.fresh hw3 rfl _ (Nat.le_refl _)
    have B3 := B2.below hw3.below B2.lt
    have d3 : w3.cell? ⟨w.heap.size, 0, none⟩ = some (.slice a p.rules.length c) := B3.cell rfl
    have hr3 : Sl (fun j => w2.heap.size ≤ j) 5 (PairR (fun j => w2.heap.size ≤ j) w3) w3 (.slice a p.rules.length c) p.rules := by
      have h1 : ProgV (fun j => w.heap.size ≤ j) w (.agg #[.slice a p.rules.length c, .bool p.els]) p := ProgV.narrow ⟨_, rfl, hr⟩ (fun b hb hh => by omega)
      obtain ⟨rv', e, h2⟩ := h1
      cases e
      exact PairsV.mono h2 (fun j hj hlt => hbw3.block j hlt) (fun j hj => by omega)
    push_cast -dsimp [d3]
    refine wpL_loop [6, 14, 15, 16, 17, 18, 19, 20, 21, 22, 23, 24, 25, 26, 27, 28, 29, 30, 31] (fun z wx => ∃ i : Nat, z 14 = .int .i64 i ∧ i ≤ p.rules.length ∧ Bu w2.heap.size w2.heap.size (linesT ((p.rules.take i).flatMap pairL)) wx ∧ BuK w2.heap.size w2.heap.size w3 wx) (fun z _ => p.rules.length - (intOf (z 14)).toNat) ?_ ?_
    · exact ⟨0, rfl, Nat.zero_le _, U3, BuK.of_below (Below.refl _ _) (by omega)⟩
    · intro z wx hI
      obtain ⟨i, h14, hi, hUx, hKx⟩ := hI
      have zx := hKx.1.size
      have hbwx : Below w.heap.size w wx := hbw3.trans (hKx.1.mono (by omega))
      have hKw : Below w2.heap.size w3 wx := hKx.1
      push_cast -dsimp [h14]
      refine ⟨fun hlt => ?_, fun hge => ?_⟩
      · obtain ⟨x, hx, hxm, _, ht⟩ := lt_get (l := p.rules) (i := i) (by omega)
        have hrx : Sl (fun j => w2.heap.size ≤ j) 5 (PairR (fun j => w2.heap.size ≤ j) wx) wx (.slice a p.rules.length c) p.rules := PairsV.mono hr3 (fun j hj hlt => hKw.block j (by omega)) (fun _ h => h)
        obtain ⟨b2, o, cs, rfl, hnb, hk5, hcell, s1, i1, s2, i2, rfl, hv1, hv2⟩ := Sl.getR hrx hx
        have cx : cellsAt wx ⟨b2, o + i * 5, none⟩ 0 5 = some [.bool x.brk, s1, i1, s2, i2] := cellsAt_of _ 0 (fun j u hu => by simpa using hcell j u hu)
        push_cast -dsimp [cx]
        refine ⟨⟨by omega, by omega⟩, ?_⟩
        have hv1' := hv1
        have hv2' := hv2
        obtain ⟨sv1, iv1, e1, hs1, hi1⟩ := hv1'
        simp only [Value.agg.injEq, Array.mk.injEq, List.cons.injEq, and_true] at e1
        obtain ⟨rfl, rfl⟩ := e1
        obtain ⟨sv2, iv2, e2, hs2, hi2⟩ := hv2'
        simp only [Value.agg.injEq, Array.mk.injEq, List.cons.injEq, and_true] at e2
        obtain ⟨rfl, rfl⟩ := e2
        obtain ⟨a1, c1, rfl, hc1⟩ := hs1.shape
        obtain ⟨a2, c2, rfl, hc2⟩ := hi1.shape
        obtain ⟨a3, c3, rfl, hc3⟩ := hs2.shape
        obtain ⟨a4, c4, rfl, hc4⟩ := hi2.shape
        have hxo := hok x hxm
        have hls : (linesT ((p.rules.take i).flatMap pairL)).length + (linesT (pairL x)).length + 20 ≤ (progT p).length + 20 := by
          have hsp : p.rules = p.rules.take (i + 1) ++ p.rules.drop (i + 1) := (List.take_append_drop _ _).symm
          rw [progT_eq, List.length_append]
          unfold rulesT
          conv => rhs; rw [hsp]
          rw [ht, List.flatMap_append, List.flatMap_append, List.flatMap_singleton, linesT_app, linesT_app]
          simp only [List.length_append]
          omega
        have hpx : linesT (pairL x) = (ruleW ++ wordT x.brk ++ [10]) ++ (linesT (codeL x.before) ++ ((afterW ++ [10]) ++ linesT (codeL x.after))) := by simp [pairL, linesT]
        have hpl : (linesT (pairL x)).length = (ruleW ++ wordT x.brk ++ [10]).length + ((linesT (codeL x.before)).length + (6 + (linesT (codeL x.after)).length)) := by
          have ha : afterW.length = 5 := rfl
          rw [hpx]
          simp only [List.length_append, List.length_singleton]
          omega
        have hwl : (wordT x.brk).length ≤ 5 := by cases x.brk <;> decide
        refine allocK (z := [.bool false, .slice none 0 0, .slice none 0 0, .slice none 0 0, .slice none 0 0]) (by kernel_rfl) ?_
        intro w4 hw4
        have z4 := hw4.size
        push_cast -dsimp
        refine storeAgg (n := 5) (by kernel_rfl) hw4.blk rfl (by simp) (by simp; exact ⟨rfl, rfl, rfl, rfl, rfl⟩) ?_
        intro w5 hw5
        have z5 := hw5.size
        have B5 := hw5.blk
        have hb5 : Below wx.heap.size wx w5 := hw4.below.trans (hw5.kept.below (B := wx.heap.size) (by omega) (fun i h => by omega))
        have K5 : BuK w2.heap.size w2.heap.size wx w5 := BuK.of_below hb5 (by omega)
        have U5 := hUx.below hb5
        have d50 : w5.cell? ⟨wx.heap.size, 0, none⟩ = some (.bool x.brk) := B5.cell rfl
        push_cast -dsimp [d50]
        refine callK_of (word_c x.brk w5) ?_
        rintro _ w5' ⟨rfl, hw5e⟩
        obtain rfl : w5 = w5' := hw5e.symm
        push_cast -dsimp
        simp only [List.length_append, List.length_cons, List.length_nil]
        refine ⟨by omega, by omega, ?_⟩
        have hrl : (ruleW ++ wordT x.brk ++ [10]).length ≤ 20 := by simp [ruleW]; omega
        refine callK_of (write_c _ _ _ (ruleW ++ wordT x.brk ++ [10]) w5 U5 (by omega) (by omega)) ?_
        rintro _ w6 ⟨U6, k6⟩
        have z6 := k6.1.size
        have K6 := K5.trans k6
        have B6 := k6.blk B5 (by decide) (by omega)
        have d61 : cellsAt w6 ⟨wx.heap.size, 1, none⟩ 0 2 = some [.slice a1 x.before.sets.length c1, .slice a2 x.before.ins.length c2] := blkSome B6 1 rfl rfl
        have hK06 : Below w2.heap.size wx w6 := K6.1
        have hv16 : CodeV (fun j => w2.heap.size ≤ j) w6 (.agg #[.slice a1 x.before.sets.length c1, .slice a2 x.before.ins.length c2]) x.before := hv1.mono (fun j hj hlt => hK06.block j (by omega)) (fun _ h => h)
        have hw6 : Below w.heap.size w w6 := hbwx.trans (hK06.mono (by omega))
        push_cast -dsimp [d61]
        refine callK_of (codeT_c _ _ x.before hxo.1 _ (by simp only [List.length_append] at *; omega) _ w6 U6 hv16 (hd.kept' hw6 hg) (hp.below hw6 hg) (hn.below hw6 hg) (by omega) (by omega)) ?_
        rintro _ w7 ⟨U7, k7⟩
        have z7 := k7.1.size
        have K7 := K6.trans k7
        have B7 := k7.blk B6 (by decide) (by omega)
        push_cast -dsimp
        refine callK_of (write_c _ _ _ (afterW ++ [10]) w7 U7 (by simp only [List.length_append] at *; show _ + 6 ≤ _; omega) (by omega)) ?_
        rintro _ w8 ⟨U8, k8⟩
        have z8 := k8.1.size
        have K8 := K7.trans k8
        have B8 := k8.blk B7 (by decide) (by omega)
        have d83 : cellsAt w8 ⟨wx.heap.size, 3, none⟩ 0 2 = some [.slice a3 x.after.sets.length c3, .slice a4 x.after.ins.length c4] := blkSome B8 3 rfl rfl
        have hK08 : Below w2.heap.size wx w8 := K8.1
        have hv28 : CodeV (fun j => w2.heap.size ≤ j) w8 (.agg #[.slice a3 x.after.sets.length c3, .slice a4 x.after.ins.length c4]) x.after := hv2.mono (fun j hj hlt => hK08.block j (by omega)) (fun _ h => h)
        have hw8 : Below w.heap.size w w8 := hbwx.trans (hK08.mono (by omega))
        push_cast -dsimp [d83]
        refine callK_of (codeT_c _ _ x.after hxo.2 _ (by simp only [List.length_append] at *; show _ + 6 + _ ≤ _; omega) _ w8 U8 hv28 (hd.kept' hw8 hg) (hp.below hw8 hg) (hn.below hw8 hg) (by omega) (by omega)) ?_
        rintro _ w9 ⟨U9, k9⟩
        have K9 := K8.trans k9
        push_cast -dsimp
        refine ⟨⟨by omega, by omega⟩, ⟨i + 1, rfl, by omega, ?_, hKx.trans K9⟩, by rw [h14]; simp only [intOf]; omega⟩
        rw [ht, List.flatMap_append, List.flatMap_singleton, linesT_app, hpx]
        simpa [List.append_assoc] using U9
      · have hin : i = p.rules.length := by omega
        subst hin
        rw [List.take_length] at hUx
        have Bx : Blk wx w.heap.size 24 [.slice a p.rules.length c, .bool p.els] := hKx.blk B3 (by decide) (by omega)
        have dx1 : wx.cell? ⟨w.heap.size, 1, none⟩ = some (.bool p.els) := Bx.cell rfl
        have hwl : (wordT p.els).length ≤ 5 := by cases p.els <;> decide
        have hpt := progT_eq p
        have hpl : (progT p).length = (linesT (p.rules.flatMap pairL)).length + (elseW ++ wordT p.els ++ [10]).length := by rw [hpt, List.length_append]; rfl
        push_cast -dsimp [dx1]
        refine callK_of (word_c p.els wx) ?_
        rintro _ wx' ⟨rfl, hxe⟩
        obtain rfl : wx = wx' := hxe.symm
        push_cast -dsimp
        simp only [List.length_append, List.length_cons, List.length_nil]
        refine ⟨by omega, by omega, ?_⟩
        refine callK_of (write_c _ _ _ (elseW ++ wordT p.els ++ [10]) wx hUx (by omega) (by omega)) ?_
        rintro _ w6 ⟨U6, k6⟩
        have z6 := k6.1.size
        push_cast -dsimp
        refine callK_of (bstring_c _ _ _ w6 U6 (by omega)) ?_
        rintro _ w7 ⟨rfl, hb7⟩
        push_cast -dsimp
        refine ⟨?_, (hbwx.trans (k6.1.mono (by omega))).trans (hb7.mono (by omega))⟩
        rw [hpt]
        simp [rulesT]
end Go.Proofs.YtiofleijieepgaaGreatDoor
end
section
namespace Go.Proofs.YtiofleijieepgaaGreatDoor
open Go.Vc Go.Proofs Go.RowKit
set_option maxRecDepth 100000
open Go.RowKit Go.Extern.Stop Go.Stop Go.Extern

/-! errors.As, its target a *api.Errno. -/
def ErrVar (w : World) : Prop := w.cell? ⟨4, 0, none⟩ = some (.iface 213 (.agg #[.pointer (some ⟨14, 29, none⟩)]))

theorem valueOfPE (a : Addr) (w : World) : (ReflectliteValue.unpack (.iface 157 (.pointer (some a)))).run Tryz.prog w
    = .ok (.agg #[.pointer (some ⟨14, 157, none⟩), .pointer (some ⟨w.heap.size, 0, none⟩), .int .u64 150]) (w.alloc (.cells #[.pointer (some a)] 157)) := by kernel_rfl
theorem typePE (a : Addr) (w : World) : (ReflectliteValue.methodAny (ReflectliteValue.valueError "reflectlite.Value.Type" 0) (fun t _ _ _ => ReflectliteType.toType t) #[.agg #[.pointer (some ⟨14, 157, none⟩), .pointer (some a), .int .u64 150]]).run Tryz.prog w
    = .ok (.iface 213 (.agg #[.pointer (some ⟨14, 157, none⟩)])) w := by kernel_rfl
theorem mKind (h : Value) (w : World) : (Go.method (Tryz.prog.types.size + Made.depth) 213 (.agg #[h]) "Kind").run Tryz.prog w = .ok (197, h) w := by kernel_rfl
theorem mElem (h : Value) (w : World) : (Go.method (Tryz.prog.types.size + Made.depth) 213 (.agg #[h]) "Elem").run Tryz.prog w = .ok (213, .agg #[h]) w := by kernel_rfl
theorem mImplements (h : Value) (w : World) : (Go.method (Tryz.prog.types.size + Made.depth) 213 (.agg #[h]) "Implements").run Tryz.prog w = .ok (214, .agg #[h]) w := by kernel_rfl
theorem mAssignableTo (h : Value) (w : World) : (Go.method (Tryz.prog.types.size + Made.depth) 213 (.agg #[h]) "AssignableTo").run Tryz.prog w = .ok (211, .agg #[h]) w := by kernel_rfl
theorem mUnwrap (a : Addr) (w : World) : (Go.method (Tryz.prog.types.size + Made.depth) 67 (.pointer (some a)) "Unwrap").run Tryz.prog w = .ok (202, .pointer (some a)) w := by kernel_rfl
theorem kindPE (w : World) : ((ReflectliteType.abiMethod fun t => (fun a : Nat => Value.int IntKind.u8 (a : Int)) <$> Rtype.kind t) #[.pointer (some ⟨14, 157, none⟩)]).run Tryz.prog w = .ok (.int .u8 22) w := by kernel_rfl
theorem kindE (w : World) : ((ReflectliteType.abiMethod fun t => (fun a : Nat => Value.int IntKind.u8 (a : Int)) <$> Rtype.kind t) #[.pointer (some ⟨14, 47, none⟩)]).run Tryz.prog w = .ok (.int .u8 2) w := by kernel_rfl

theorem rlm (z : Sem Value) (f : TypeId → Addr → Nat → Nat → Sem Value) (a : Addr) (W : World) : (ReflectliteValue.method z f #[.agg #[.pointer (some ⟨14, 157, none⟩), .pointer (some a), .int .u64 150]]).run Tryz.prog W = (f 157 a 150 22).run Tryz.prog W := by kernel_rfl
theorem isNilPE (a p : Addr) (W : World) (ha : W.cell? a = some (.pointer (some p))) :
    (ReflectliteValue.method (ReflectliteValue.valueError "reflectlite.Value.IsNil" 0) ReflectliteValue.isNil #[.agg #[.pointer (some ⟨14, 157, none⟩), .pointer (some a), .int .u64 150]]).run Tryz.prog W = .ok (.bool false) W := by
  rw [rlm]
  simp [ReflectliteValue.isNil, loadVar, isAgg, underlying, Tryz.underlying157, ha, Result.andThen]
theorem elemPE (w : World) : (ReflectliteType.method ReflectliteType.elem #[.agg #[.pointer (some ⟨14, 157, none⟩)]]).run Tryz.prog w = .ok (.iface 213 (.agg #[.pointer (some ⟨14, 47, none⟩)])) w := by kernel_rfl
theorem implementsE (w : World) : (ReflectliteType.relation "Implements" ReflectliteType.implements_ #[.agg #[.pointer (some ⟨14, 47, none⟩)], .iface 213 (.agg #[.pointer (some ⟨14, 29, none⟩)])]).run Tryz.prog w = .ok (.bool true) w := by kernel_rfl
theorem typeOfE (v : Value) (w : World) : (ReflectliteType.typeOf #[.iface 47 v]).run Tryz.prog w = .ok (.iface 213 (.agg #[.pointer (some ⟨14, 47, none⟩)])) w := by kernel_rfl
theorem typeOfA (v : Value) (w : World) : (ReflectliteType.typeOf #[.iface 67 v]).run Tryz.prog w = .ok (.iface 213 (.agg #[.pointer (some ⟨14, 67, none⟩)])) w := by kernel_rfl
theorem assignE (w : World) : (ReflectliteType.relation "AssignableTo" ReflectliteType.assignableTo #[.agg #[.pointer (some ⟨14, 47, none⟩)], .iface 213 (.agg #[.pointer (some ⟨14, 47, none⟩)])]).run Tryz.prog w = .ok (.bool true) w := by kernel_rfl
theorem assignA (w : World) : (ReflectliteType.relation "AssignableTo" ReflectliteType.assignableTo #[.agg #[.pointer (some ⟨14, 67, none⟩)], .iface 213 (.agg #[.pointer (some ⟨14, 47, none⟩)])]).run Tryz.prog w = .ok (.bool false) w := by kernel_rfl
theorem valueOfE (n : Int) (w : World) : (ReflectliteValue.unpack (.iface 47 (.int .i64 n))).run Tryz.prog w
    = .ok (.agg #[.pointer (some ⟨14, 47, none⟩), .pointer (some ⟨w.heap.size, 0, none⟩), .int .u64 130]) (w.alloc (.cells #[.int .i64 n] 47)) := by kernel_rfl
theorem elemOfPE (w : World) : (Rtype.elem? 157).run Tryz.prog w = .ok (some 47) w := by kernel_rfl
theorem mkE (p : Addr) (w : World) : (ReflectliteValue.mk 47 p ReflectliteValue.flagAddr).run Tryz.prog w = .ok (.agg #[.pointer (some ⟨14, 47, none⟩), .pointer (some p), .int .u64 386]) w := by kernel_rfl
theorem elemVPE (a p : Addr) (W : World) (ha : W.cell? a = some (.pointer (some p))) :
    (ReflectliteValue.method (ReflectliteValue.valueError "reflectlite.Value.Elem" 0) ReflectliteValue.elem #[.agg #[.pointer (some ⟨14, 157, none⟩), .pointer (some a), .int .u64 150]]).run Tryz.prog W
      = .ok (.agg #[.pointer (some ⟨14, 47, none⟩), .pointer (some p), .int .u64 386]) W := by
  rw [rlm]
  simp [ReflectliteValue.elem, loadVar, isAgg, underlying, Tryz.underlying157, ha, Result.andThen, elemOfPE, mkE]
theorem rls (ta b : Addr) (W : World) : (ReflectliteValue.set #[.agg #[.pointer (some ⟨14, 47, none⟩), .pointer (some ta), .int .u64 386], .agg #[.pointer (some ⟨14, 47, none⟩), .pointer (some b), .int .u64 130]]).run Tryz.prog W = ((loadVar 47 b >>= fun x => storeVar 47 ta x >>= fun _ => pure (.tuple #[])) : Sem Value).run Tryz.prog W := by kernel_rfl
theorem setE (ta b : Addr) (n : Int) (old : Value) (W : World) (hb : W.cell? b = some (.int .i64 n)) (ht : W.cell? ta = some old) (hf : W.frozen? ta = false) :
    (ReflectliteValue.set #[.agg #[.pointer (some ⟨14, 47, none⟩), .pointer (some ta), .int .u64 386], .agg #[.pointer (some ⟨14, 47, none⟩), .pointer (some b), .int .u64 130]]).run Tryz.prog W
      = .ok (.tuple #[]) (W.setCell ta (.int .i64 n)) := by
  rw [rls]
  simp [loadVar, isAgg, underlying, Tryz.underlying47, hb, Result.andThen, storeVar, Value.cells, storeCells, Addr.add]
  rw [run_store Tryz.prog W ta _ _ (by rfl)]
  simp [ht, hf]

end Go.Proofs.YtiofleijieepgaaGreatDoor
end
section
namespace Go.Proofs.YtiofleijieepgaaGreatDoor
open Go.Vc Go.Proofs Go.RowKit Cae
set_option maxRecDepth 100000
set_option linter.unusedSimpArgs false
set_option linter.unusedVariables false
attribute [local irreducible] wpL callK valK unitK runK Fun Sl Vc.Own vc vcOps opK pureK
open Go.RowKit Go.Extern.Stop Go.Stop Go.Extern
set_option maxHeartbeats 4000000

/-- (*At).Unwrap. -/
theorem unwrap_c (b : Nat) (n : Int) (w : World) (hB : w.cell? ⟨b, 0, none⟩ = some (.int .i64 n)) : Fun Tryz.prog 202 [.pointer (some ⟨b, 0, none⟩)] w fun v w' => v = .iface 47 (.int .i64 n) ∧ w' = w := by
  refine fun_of_vc Tryz.func202 rfl (by kernel_rfl) [2] rfl ?_
  push_cast -dsimp (maxSteps := 4000000) [Tryz.ntmps202]
  push_cast -dsimp [hB]

/-- An error that errors.As finds an Errno in: the number. -/
inductive IsErr (w : World) : Value → Int → Prop
  | bare (n : Int) : IsErr w (.iface 47 (.int .i64 n)) n
  | at_ (b : Nat) (n : Int) : w.cell? ⟨b, 0, none⟩ = some (.int .i64 n) → IsErr w (.iface 67 (.pointer (some ⟨b, 0, none⟩))) n

theorem IsErr.mono {w w' : World} {v : Value} {n : Int} {X : Nat → Prop} (h : IsErr w v n) (hk : Kept X w w') (hX : ∀ a, v = .iface 67 (.pointer (some a)) → ¬ X a.block) : IsErr w' v n := by
  cases h with
  | bare n => exact .bare n
  | at_ b n hb => exact .at_ b n (hk.cell hb (hX _ rfl))

theorem as_c (v u : Value) (n : Int) (b c : Nat) (w : World) (hv : IsErr w v n) (hB : Blk w b 47 [u]) (hc : w.cell? ⟨c, 0, none⟩ = some (.pointer (some ⟨b, 0, none⟩))) :
    Fun Tryz.prog 140 [v, .iface 157 (.pointer (some ⟨b, 0, none⟩)), .agg #[.pointer (some ⟨14, 157, none⟩), .pointer (some ⟨c, 0, none⟩), .int .u64 150], .iface 213 (.agg #[.pointer (some ⟨14, 47, none⟩)])] w
      fun r w' => r = .bool true ∧ Blk w' b 47 [.int .i64 n] ∧ Kept (· = b) w w' := by
  refine fun_of_vc Tryz.func140 rfl (by kernel_rfl) [8] rfl ?_
  push_cast -dsimp (maxSteps := 4000000) [Tryz.ntmps140]
  refine boxK_of ?_
  intro w1 hw1
  push_cast -dsimp
  refine wpL_loop [0, 8, 9, 10, 11, 12, 14, 15, 16, 17, 18, 19, 20, 21, 22, 23, 24, 25, 26, 27, 28, 29, 30, 31, 32, 33, 34, 35, 36, 37, 38, 39, 40, 41, 42, 43, 44, 45, 46, 47, 48, 49, 50, 51, 52, 53, 54, 55, 56, 57, 58, 59, 60, 61] (fun z wx => IsErr wx (z 0) n ∧ Kept (fun _ => False) w1 wx) (fun z _ => match z 0 with | .iface _ (.pointer _) => 1 | _ => 0) ?_ ?_
  · exact ⟨hv.mono (Kept.new hw1 (X := fun _ => False)) (fun _ _ => id), Kept.refl _ _⟩
  · intro z wx hI
    obtain ⟨hv, hk⟩ := hI
    have hk0 : Kept (fun _ => False) w wx := (Kept.new hw1).trans hk (fun _ _ => id)
    have hB := hB.kept hk0 id
    have hc := hk0.cell hc id
    have c1 : cellsAt wx ⟨w.heap.size, 0, none⟩ 0 3 = some [.pointer (some ⟨14, 157, none⟩), .pointer (some ⟨c, 0, none⟩), .int .u64 150] :=
      cellsAt_of (b := w.heap.size) (o := 0) [.pointer (some ⟨14, 157, none⟩), .pointer (some ⟨c, 0, none⟩), .int .u64 150] 0 (fun j u hu => hk.cell (by simpa using hw1.cell hu) id)
    generalize hz : z 0 = v0 at hv
    cases hv with
    | bare n =>
      push_cast -dsimp [hz]
      refine callK_ext (e := ReflectliteType.typeOf) Tryz.func161 (by kernel_rfl) (by kernel_rfl) (by kernel_rfl) (by kernel_rfl) (typeOfE _ _) ?_
      push_cast -dsimp
      refine invK_of (mAssignableTo _ _) ?_
      refine callK_ext (e := ReflectliteType.relation "AssignableTo" ReflectliteType.assignableTo) Tryz.func211 (by kernel_rfl) (by kernel_rfl) (by kernel_rfl) (by kernel_rfl) (assignE _) ?_
      push_cast -dsimp [c1]
      refine callK_ext (e := ReflectliteValue.method (ReflectliteValue.valueError "reflectlite.Value.Elem" 0) ReflectliteValue.elem) Tryz.func162 (by kernel_rfl) (by kernel_rfl) (by kernel_rfl) (by kernel_rfl) (elemVPE _ _ _ hc) ?_
      push_cast -dsimp
      refine callK_ext (e := fun args => ReflectliteValue.unpack (args.getD 0 (.tuple #[]))) Tryz.func137 (by kernel_rfl) (by kernel_rfl) (by kernel_rfl) (by kernel_rfl) (valueOfE _ _) ?_
      push_cast -dsimp
      have hN : New wx (wx.alloc (.cells #[.int .i64 n] 47)) 47 [.int .i64 n] := ⟨rfl⟩
      generalize wx.alloc (.cells #[.int .i64 n] 47) = w2 at hN
      have hB2 := hB.kept (Kept.new hN (X := fun _ => False)) id
      have hf : w2.frozen? ⟨b, 0, none⟩ = false := by
        simp only [World.frozen?]
        rw [show w2.heap[b]? = _ from hB2]
        simp
      refine callK_ext (e := ReflectliteValue.set) Tryz.func163 (by kernel_rfl) (by kernel_rfl) (by kernel_rfl) (by kernel_rfl) (setE _ _ n u _ (hN.cell rfl) (hB2.cell rfl) hf) ?_
      push_cast -dsimp
      have hP := Put.of_setRow (cs := [.int .i64 n]) hB2
      rw [setCell_eq_setRow w2 b 0 _ _ (0, 0) _ hB2]
      exact ⟨hP.blk, (hk0.trans (Kept.new hN (X := fun _ => False)) (fun _ _ => id)).weaken (fun _ _ h => h.elim) |>.trans hP.kept (fun _ _ => id)⟩
    | at_ a n ha =>
      push_cast -dsimp [hz]
      refine callK_ext (e := ReflectliteType.typeOf) Tryz.func161 (by kernel_rfl) (by kernel_rfl) (by kernel_rfl) (by kernel_rfl) (typeOfA _ _) ?_
      push_cast -dsimp
      refine invK_of (mAssignableTo _ _) ?_
      refine callK_ext (e := ReflectliteType.relation "AssignableTo" ReflectliteType.assignableTo) Tryz.func211 (by kernel_rfl) (by kernel_rfl) (by kernel_rfl) (by kernel_rfl) (assignA _) ?_
      push_cast -dsimp [c1]
      refine assert_lacks (z := .nilIface) Tryz.underlying218 (by kernel_rfl) (by kernel_rfl) ?_
      push_cast -dsimp
      refine assert_has Tryz.underlying126 (by kernel_rfl) ?_
      push_cast -dsimp
      refine invK_of (mUnwrap _ _) (callK_of (unwrap_c a n wx ha) ?_)
      rintro _ _ ⟨rfl, rfl⟩
      push_cast -dsimp
      exact ⟨.bare n, hk⟩
end Go.Proofs.YtiofleijieepgaaGreatDoor
end
section
namespace Go.Proofs.YtiofleijieepgaaGreatDoor
open Go.Vc Go.Proofs Go.RowKit Cae
set_option maxRecDepth 100000
set_option linter.unusedSimpArgs false
set_option linter.unusedVariables false
attribute [local irreducible] wpL callK valK unitK runK Fun Sl Vc.Own vc vcOps opK pureK
open Go.RowKit Go.Extern.Stop Go.Stop Go.Extern
set_option maxHeartbeats 4000000

theorem asE_c (v u : Value) (n : Int) (b : Nat) (w : World) (hE : ErrVar w) (hv : IsErr w v n) (hB : Blk w b 47 [u]) :
    Fun Tryz.prog 112 [v, .iface 157 (.pointer (some ⟨b, 0, none⟩))] w
      fun r w' => r = .bool true ∧ Blk w' b 47 [.int .i64 n] ∧ Kept (· = b) w w' := by
  obtain ⟨ty, vv, hvv⟩ : ∃ ty vv, v = .iface ty vv := by cases hv <;> exact ⟨_, _, rfl⟩
  refine fun_of_vc Tryz.func112 rfl (by kernel_rfl) [4] rfl ?_
  push_cast -dsimp (maxSteps := 4000000) [Tryz.ntmps112]
  subst hvv
  push_cast -dsimp
  refine callK_ext (e := fun args => ReflectliteValue.unpack (args.getD 0 (.tuple #[]))) Tryz.func137 (by kernel_rfl) (by kernel_rfl) (by kernel_rfl) (by kernel_rfl) (valueOfPE _ _) ?_
  have hN : New w (w.alloc (.cells #[.pointer (some ⟨b, 0, none⟩)] 157)) 157 [.pointer (some ⟨b, 0, none⟩)] := ⟨rfl⟩
  generalize w.alloc (.cells #[.pointer (some ⟨b, 0, none⟩)] 157) = w1 at hN
  have k1 : Kept (fun _ => False) w w1 := Kept.new hN
  push_cast -dsimp
  refine allocK (z := [.pointer none, .pointer none, .int .u64 0]) (by kernel_rfl) ?_
  intro w2 hw2
  have k2 := k1.trans (Kept.new (X := fun _ => False) hw2) (fun _ _ => id)
  push_cast -dsimp
  refine storeAgg (n := 3) (by kernel_rfl) hw2.blk rfl (by simp) (by simp [Value.oneCell']) ?_
  intro w3 hw3
  have k3 : Kept (fun k => w.heap.size ≤ k) w w3 := (k2.weaken (fun _ _ h => h.elim)).trans hw3.kept (fun i _ h => by have := hN.size; show w.heap.size ≤ i; omega)
  have hB3 := hB.kept k3 (by have := hB.lt; omega)
  have c3 : cellsAt w3 ⟨w1.heap.size, 0, none⟩ 0 3 = some [.pointer (some ⟨14, 157, none⟩), .pointer (some ⟨w.heap.size, 0, none⟩), .int .u64 150] :=
    cellsAt_of (b := w1.heap.size) (o := 0) [.pointer (some ⟨14, 157, none⟩), .pointer (some ⟨w.heap.size, 0, none⟩), .int .u64 150] 0 (fun j u hu => by simpa using hw3.blk.cell (by simpa using hu))
  push_cast -dsimp [c3]
  refine callK_ext (e := ReflectliteValue.methodAny (ReflectliteValue.valueError "reflectlite.Value.Type" 0) (fun t _ _ _ => ReflectliteType.toType t)) Tryz.func138 (by kernel_rfl) (by kernel_rfl) (by kernel_rfl) (by kernel_rfl) (typePE _ _) ?_
  have k3' : Kept (fun _ => False) w w3 := ⟨k3.os, k3.tape, k3.output, k3.size, fun i hi _ => k3.block i hi (by omega)⟩
  have hE3 : ErrVar w3 := k3'.cell hE id
  have hs3 : w3.cell? ⟨w.heap.size, 0, none⟩ = some (.pointer (some ⟨b, 0, none⟩)) := hw3.kept.cell (World.cell?_of_block (w := w1) (hw2.below.block w.heap.size (by have := hN.size; omega)) |>.trans (hN.cell rfl)) (by have := hN.size; show ¬ w.heap.size = w1.heap.size; omega)
  unfold ErrVar at hE3
  push_cast -dsimp
  refine invK_of (mKind _ _) ?_
  refine callK_ext (e := ReflectliteType.abiMethod fun t => do pure (.int .u8 (← Rtype.kind t))) Tryz.func197 (by kernel_rfl) (by kernel_rfl) (by kernel_rfl) (by kernel_rfl) (kindPE _) ?_
  push_cast -dsimp [c3]
  refine callK_ext (e := ReflectliteValue.method (ReflectliteValue.valueError "reflectlite.Value.IsNil" 0) ReflectliteValue.isNil) Tryz.func139 (by kernel_rfl) (by kernel_rfl) (by kernel_rfl) (by kernel_rfl) (isNilPE _ _ _ hs3) ?_
  push_cast -dsimp
  refine invK_of (mElem _ _) ?_
  refine callK_ext (e := ReflectliteType.method ReflectliteType.elem) Tryz.func213 (by kernel_rfl) (by kernel_rfl) (by kernel_rfl) (by kernel_rfl) (elemPE _) ?_
  push_cast -dsimp
  refine invK_of (mKind _ _) ?_
  refine callK_ext (e := ReflectliteType.abiMethod fun t => do pure (.int .u8 (← Rtype.kind t))) Tryz.func197 (by kernel_rfl) (by kernel_rfl) (by kernel_rfl) (by kernel_rfl) (kindE _) ?_
  push_cast -dsimp [hE3]
  refine invK_of (mImplements _ _) ?_
  refine callK_ext (e := ReflectliteType.relation "Implements" ReflectliteType.implements_) Tryz.func214 (by kernel_rfl) (by kernel_rfl) (by kernel_rfl) (by kernel_rfl) (implementsE _) ?_
  push_cast -dsimp [c3]
  refine callK_of (as_c _ u n b w.heap.size w3 (hv.mono k3' (fun _ _ => id)) hB3 hs3) ?_
  rintro _ w4 ⟨rfl, hB4, hk4⟩
  push_cast -dsimp
  exact ⟨hB4, (k3'.weaken (fun _ _ h => h.elim)).trans hk4 (fun _ _ => id)⟩

/-- api.Tell. -/
theorem tell0_c (w : World) : Fun Tryz.prog 83 [.nilIface] w fun r w' => r = .int .i64 0 ∧ w' = w := by
  refine fun_of_vc Tryz.func83 rfl (by kernel_rfl) [2] rfl ?_
  push_cast -dsimp (maxSteps := 4000000) [Tryz.ntmps83]

theorem tell_c (v : Value) (n : Int) (w : World) (hE : ErrVar w) (hv : IsErr w v n) : Fun Tryz.prog 83 [v] w fun r w' => r = .int .i64 n ∧ Below w.heap.size w w' := by
  obtain ⟨ty, vv, hvv⟩ : ∃ ty vv, v = .iface ty vv := by cases hv <;> exact ⟨_, _, rfl⟩
  refine fun_of_vc Tryz.func83 rfl (by kernel_rfl) [2] rfl ?_
  push_cast -dsimp (maxSteps := 4000000) [Tryz.ntmps83]
  subst hvv
  push_cast -dsimp
  refine allocK (z := [.int .i64 0]) (by kernel_rfl) ?_
  intro w1 hw1
  have k1 : Kept (fun _ => False) w w1 := Kept.new hw1
  push_cast -dsimp
  refine callK_of (asE_c _ _ n _ w1 (k1.cell hE id) (hv.mono k1 (fun _ _ => id)) hw1.blk) ?_
  rintro _ w2 ⟨rfl, hB2, hk2⟩
  have c2 := hB2.cell (o := 0) rfl
  push_cast -dsimp [c2]
  exact hw1.below.trans (hk2.below (Nat.le_of_lt (by have := hw1.size; omega)) (fun i h => by subst h; exact Nat.le_refl _))

end Go.Proofs.YtiofleijieepgaaGreatDoor
end
section
namespace Go.Proofs.YtiofleijieepgaaGreatDoor
open Go.Vc Go.Proofs Go.RowKit Cae
set_option maxRecDepth 100000
set_option linter.unusedSimpArgs false
set_option linter.unusedVariables false
attribute [local irreducible] wpL callK valK unitK runK Fun Sl Vc.Own vc vcOps opK pureK
open Go.RowKit Go.Extern.Stop Go.Stop Go.Extern
set_option maxHeartbeats 4000000

/-- What plain.Place says of an error. -/
inductive Placed (w : World) : Value → Int → Int → Prop
  | bare (n : Int) : Placed w (.iface 47 (.int .i64 n)) n (-1)
  | at_ (b : Nat) (n p : Int) : w.cell? ⟨b, 0, none⟩ = some (.int .i64 n) → w.cell? ⟨b, 1, none⟩ = some (.int .i64 p) → Placed w (.iface 67 (.pointer (some ⟨b, 0, none⟩))) n p

theorem Placed.isErr {w : World} {v : Value} {n p : Int} (h : Placed w v n p) : IsErr w v n := by
  cases h with
  | bare => exact .bare _
  | at_ b _ _ h1 _ => exact .at_ b _ h1
theorem Placed.below {w w' : World} {v : Value} {n p : Int} (h : Placed w v n p) (hk : Below w.heap.size w w') : Placed w' v n p := by
  cases h with
  | bare n => exact .bare n
  | at_ b n p h1 h2 => exact .at_ b n p ((hk.cell (World.block_lt_of_cell? w _ h1)).trans h1) ((hk.cell (World.block_lt_of_cell? w _ h2)).trans h2)

theorem place0_c (w : World) : Fun Tryz.prog 52 [.nilIface] w fun r w' => r = .tuple #[.int .i64 0, .int .i64 (-1)] ∧ w' = w := by
  refine fun_of_vc Tryz.func52 rfl (by kernel_rfl) [2, 3] rfl ?_
  push_cast -dsimp (maxSteps := 4000000) [Tryz.ntmps52]
  refine callK_of (tell0_c w) ?_
  rintro _ w1 ⟨rfl, hw1⟩
  push_cast -dsimp
  refine wpL_loop [0, 2, 3, 5, 6, 7, 8, 11, 12, 13, 14, 15, 16, 17, 18, 19, 20, 21, 22, 23, 24, 25, 26, 27, 28, 29, 30, 31, 32, 33, 34, 35, 36] (fun z wx => z 0 = .nilIface ∧ wx = w1) (fun _ _ => 0) ⟨rfl, rfl⟩ ?_
  intro z wx hI
  obtain ⟨h0, hw⟩ := hI
  push_cast -dsimp [h0]
  exact hw.trans hw1

theorem place_c (v : Value) (n p : Int) (w : World) (hE : ErrVar w) (hv : Placed w v n p) : Fun Tryz.prog 52 [v] w fun r w' => r = .tuple #[.int .i64 n, .int .i64 p] ∧ Below w.heap.size w w' := by
  refine fun_of_vc Tryz.func52 rfl (by kernel_rfl) [2, 3] rfl ?_
  push_cast -dsimp (maxSteps := 4000000) [Tryz.ntmps52]
  refine callK_of (tell_c v n w hE hv.isErr) ?_
  rintro _ w1 ⟨rfl, hb1⟩
  push_cast -dsimp
  refine wpL_loop [0, 2, 3, 5, 6, 7, 8, 11, 12, 13, 14, 15, 16, 17, 18, 19, 20, 21, 22, 23, 24, 25, 26, 27, 28, 29, 30, 31, 32, 33, 34, 35, 36] (fun z wx => z 0 = v ∧ wx = w1) (fun _ _ => 0) ⟨rfl, rfl⟩ ?_
  rintro z wx ⟨h0, rfl⟩
  have hv1 := hv.below hb1
  cases hv1 with
  | bare n =>
    push_cast -dsimp [h0]
    refine valK_of (v := .tuple #[.pointer none, .bool false]) (w' := wx) (by kernel_rfl) ?_
    push_cast -dsimp
    refine assert_lacks (z := .nilIface) Tryz.underlying126 (by kernel_rfl) (by kernel_rfl) ?_
    push_cast -dsimp
    exact hb1
  | at_ b n p h1 h2 =>
    push_cast -dsimp [h0]
    refine valK_of (v := .tuple #[.pointer (some ⟨b, 0, none⟩), .bool true]) (w' := wx) (by kernel_rfl) ?_
    push_cast -dsimp
    refine wpL_draw (fun w' => w' = wx.drew) mixed (by kernel_rfl) rfl ?_
    have d2 : wx.drew.cell? ⟨b, 1, none⟩ = some (.int .i64 p) := h2
    push_cast -dsimp [d2]
    exact ⟨fun w'' hw => by subst hw; rw [d2]; exact rfl, hb1.drew⟩
end Go.Proofs.YtiofleijieepgaaGreatDoor
end
