/- Texts of this claim, merged: P, Set, Right, Rgt, OpenC. -/
import Derived.Test.YtiofleijieepgaaGreatDoorM1
import Derived.Test.YtiofleijieepgaaGreatDoorM2
section
section
set_option linter.unusedSimpArgs false
set_option linter.unusedVariables false
namespace Cae
open Go Go.Vc

theorem wrap_i64 {n : Int} (h : -9223372036854775808 ≤ n ∧ n ≤ 9223372036854775807) : IntKind.i64.wrap n = n := by rw [IntKind.wrap_i64]; omega
theorem wrap_u8 (n : Int) : IntKind.u8.wrap n = n % 256 := by simp [IntKind.wrap, IntKind.bits, IntKind.signed]
theorem wrap_u8_nat (n : Nat) : IntKind.u8.wrap (n : Int) = ((n % 256 : Nat) : Int) := by rw [wrap_u8]; omega
theorem wrap_u64_nat (n : Nat) : IntKind.u64.wrap (n : Int) = ((n % 18446744073709551616 : Nat) : Int) := by simp [IntKind.wrap, IntKind.bits, IntKind.signed]

theorem ofInt_nat (n x : Nat) : BitVec.ofInt n (x : Int) = BitVec.ofNat n x := by
  apply BitVec.eq_of_toNat_eq
  simp

theorem and_lt {x y n : Nat} (h : x < 2 ^ n) : x &&& y < 2 ^ n := Nat.lt_of_le_of_lt Nat.and_le_left h
theorem and_mask (x k : Nat) : x &&& (2 ^ k - 1) = x % 2 ^ k := Nat.and_two_pow_sub_one_eq_mod x k
theorem shr_nat {p k : Nat} {b : Int} {kd : IntKind} (hb : b.toNat = k) (hk : k ≤ kd.bits) : ((p : Int).fdiv (2 ^ min b.toNat kd.bits)) = ((p / 2 ^ k : Nat) : Int) := by
  rw [hb, Nat.min_eq_left hk]
  rw [show (2 : Int) ^ k = ((2 ^ k : Nat) : Int) by first | (push_cast; done) | (push_cast; rfl), Int.fdiv_eq_ediv_of_nonneg _ (Int.natCast_nonneg _)]
  rfl
end Cae
end

section
set_option linter.unusedSimpArgs false
set_option linter.unusedVariables false
namespace Cae

/-! Sets, instructions, code: as they are read. -/
abbrev Rg := Int × Int
structure I3 where
  op : Int
  a : Int
  b : Int
  deriving DecidableEq
structure CodeP where
  sets : List (List Rg)
  ins : List I3
  deriving DecidableEq

def setRight : Int → List Rg → Bool
  | _, [] => true
  | last, r :: s => if r.1 ≤ last + 1 ∨ r.2 < r.1 ∨ 1114111 < r.2 then false else setRight r.2 s

def hasP (s : List Rg) (p : Int) : Bool := s.any fun r => decide (r.1 ≤ p ∧ p ≤ r.2)

def insRight (x : I3) (sets n : Int) : Bool :=
  if x.op = 1 then decide (0 ≤ x.a ∧ x.a < sets ∧ x.b = 0)
  else if x.op = 2 then decide ((0 ≤ x.a ∧ x.a < n) ∧ (0 ≤ x.b ∧ x.b < n))
  else if x.op = 3 then decide ((0 ≤ x.a ∧ x.a < n) ∧ x.b = 0)
  else if x.op = 4 ∨ x.op = 5 then decide (x.a = 0 ∧ x.b = 0)
  else false

def codeRight (c : CodeP) : Bool :=
  decide (1 ≤ c.ins.length ∧ c.ins.length ≤ 2000 ∧ c.sets.length ≤ 2000) &&
  (match c.ins[c.ins.length - 1]? with | some x => decide (x.op ≠ 1 ∧ x.op ≠ 4) | none => false) &&
  c.ins.all (fun x => insRight x c.sets.length c.ins.length) && c.sets.all (setRight (-2))

/-- What comes of a place's list: found, or the list, the next place's, and how many were looked at. -/
inductive Lk
  | yes (st : Nat)
  | no (q nx : List Nat) (st : Nat)

/-! Lists of places: each once, each a place. -/
def Places (n : Nat) (q : List Nat) : Prop := q.Nodup ∧ ∀ k ∈ q, k < n

theorem Places.one {n k : Nat} (h : k < n) : Places n [k] := ⟨by simp, fun j hj => by rw [List.mem_singleton] at hj; omega⟩
theorem nodup_bound : ∀ (n : Nat) (q : List Nat), q.Nodup → (∀ k ∈ q, k < n) → q.length ≤ n
  | 0, [], _, _ => Nat.le_refl _
  | 0, x :: q, _, h => absurd (h x (by simp)) (by omega)
  | n + 1, q, h1, h2 => by
    have h3 := nodup_bound n (q.erase n) (h1.erase n) (fun k hk => by
      have := (h1.mem_erase_iff).1 hk
      have := h2 k this.2
      omega)
    rw [List.length_erase] at h3
    split at h3 <;> omega
theorem Places.len {n : Nat} {q : List Nat} (h : Places n q) : q.length ≤ n := nodup_bound n q h.1 h.2

/-- What codeRight says. -/
structure CR (c : CodeP) : Prop where
  one : 1 ≤ c.ins.length
  many : c.ins.length ≤ 2000
  sets : c.sets.length ≤ 2000
  ins : ∀ (i : Nat) (x : I3), c.ins[i]? = some x → insRight x c.sets.length c.ins.length = true
  next : ∀ (i : Nat) (x : I3), c.ins[i]? = some x → (x.op = 1 ∨ x.op = 4) → i + 1 < c.ins.length
  set : ∀ s ∈ c.sets, setRight (-2) s = true
theorem CR.of {c : CodeP} (h : codeRight c = true) : CR c := by
  unfold codeRight at h
  simp only [Bool.and_eq_true, decide_eq_true_eq, List.all_eq_true] at h
  obtain ⟨⟨⟨⟨h1, h2, h3⟩, hl⟩, hi⟩, hs⟩ := h
  refine ⟨h1, h2, h3, fun i x hx => hi x (List.mem_of_getElem? hx), fun i x hx hop => ?_, hs⟩
  have hlt := (List.getElem?_eq_some_iff.1 hx).1
  rcases Nat.lt_or_ge (i + 1) c.ins.length with h | h
  · exact h
  · have e : i = c.ins.length - 1 := by omega
    subst e
    rw [hx] at hl
    simp only [decide_eq_true_eq] at hl
    rcases hop with h | h
    · exact absurd h hl.1
    · exact absurd h hl.2

end Cae
end

section
set_option linter.unusedSimpArgs false
set_option linter.unusedVariables false
namespace Cae

/-! Programs as bytes. -/
structure PairP where
  brk : Bool
  before : CodeP
  after : CodeP
  deriving DecidableEq
structure ProgP where
  rules : List PairP
  els : Bool
  deriving DecidableEq

def bt (n : Nat) : UInt8 := UInt8.ofNat n
def progRight (p : ProgP) : Bool := decide (p.rules.length ≤ 20) && p.rules.all fun r => codeRight r.before && codeRight r.after

/-! Reading. -/
structure St where
  s : List UInt8
  bad : Bool
  deriving DecidableEq

end Cae
end

section
set_option linter.unusedSimpArgs false
set_option linter.unusedVariables false
namespace Cae

theorem progRight_spec {p : ProgP} (h : progRight p = true) : p.rules.length ≤ 20 ∧ ∀ r ∈ p.rules, codeRight r.before = true ∧ codeRight r.after = true := by
  unfold progRight at h
  simp only [Bool.and_eq_true, decide_eq_true_eq, List.all_eq_true] at h
  exact h
end Cae
end

section
set_option linter.unusedSimpArgs false
set_option linter.unusedVariables false
namespace Cae

end Cae
end

section
set_option linter.unusedSimpArgs false
set_option linter.unusedVariables false
namespace Cae

end Cae
end

section
set_option linter.unusedSimpArgs false
set_option linter.unusedVariables false
namespace Cae

end Cae
end

section
set_option linter.unusedSimpArgs false
set_option linter.unusedVariables false
namespace Cae

end Cae
end

section
set_option linter.unusedSimpArgs false
set_option linter.unusedVariables false
namespace Cae

end Cae
end

section
set_option linter.unusedSimpArgs false
set_option linter.unusedVariables false
namespace Cae

/-! What is left out. -/
/-- Where an instruction may lead to. -/
def Leads (c : CodeP) (x : I3) (i j : Nat) : Prop :=
  (x.op = 2 ∧ (j = x.a.toNat ∨ j = x.b.toNat)) ∨ (x.op = 3 ∧ j = x.a.toNat) ∨ (x.op = 4 ∧ j = i + 1) ∨ (x.op = 1 ∧ c.sets.getD x.a.toNat [] ≠ [] ∧ j = i + 1)
structure Closed (c : CodeP) (is : List Bool) : Prop where
  len : is.length = c.ins.length
  zero : is[0]? = some true
  leads : ∀ (i : Nat) (x : I3), is[i]? = some true → c.ins[i]? = some x → ∀ j, Leads c x i j → is[j]? = some true

/-- The next one that is reached. -/
def nextFrom (is : List Bool) : Nat → Nat → Nat
  | 0, k => is.length
  | f + 1, k => if is[k]? = some true then k else if k < is.length then nextFrom is f (k + 1) else is.length
def nextP (is : List Bool) (i : Nat) : Nat := nextFrom is is.length (i + 1)
/-- A jump to the next one that is reached. -/
def skipP (c : CodeP) (is : List Bool) (i : Nat) : Bool := match c.ins[i]? with
  | none => false
  | some x => decide (x.op = 3 ∧ (nextP is i : Int) = x.a ∧ (i : Int) < x.a)
def keepP (c : CodeP) (is : List Bool) (i : Nat) : Bool := decide (is[i]? = some true) && !skipP c is i
def toP (c : CodeP) (is : List Bool) : Nat → Nat
  | 0 => 0
  | i + 1 => if keepP c is i then toP c is i + 1 else toP c is i

/-! What is written. -/
structure LS where
  used : List Nat
  ins : List I3
/-- What an instruction is written as, with the sets of what is written. -/
def Turned (c : CodeP) (is : List Bool) (sets : List (List Rg)) (x y : I3) : Prop :=
  y.op = x.op ∧ (x.op = 1 → y.b = x.b ∧ 0 ≤ y.a ∧ y.a.toNat < sets.length ∧ sets.getD y.a.toNat [] = c.sets.getD x.a.toNat []) ∧ (x.op = 3 → y.a = toP c is x.a.toNat ∧ y.b = x.b) ∧ (x.op = 2 → y.a = toP c is x.a.toNat ∧ y.b = toP c is x.b.toNat) ∧
  (x.op ≠ 1 → x.op ≠ 2 → x.op ≠ 3 → y = x)
structure LInv (c : CodeP) (is : List Bool) (i : Nat) (s : LS) : Prop where
  len : s.ins.length = toP c is i
  nodup : s.used.Nodup
  used : ∀ a ∈ s.used, a < c.sets.length
  at_ : ∀ (j : Nat) (x : I3), j < i → keepP c is j = true → c.ins[j]? = some x → ∃ y, s.ins[toP c is j]? = some y ∧ Turned c is (s.used.map (fun a => c.sets.getD a [])) x y
  all : ∀ (k : Nat) (y : I3), s.ins[k]? = some y → ∃ j x, j < i ∧ keepP c is j = true ∧ toP c is j = k ∧ c.ins[j]? = some x ∧ Turned c is (s.used.map (fun a => c.sets.getD a [])) x y

end Cae
end
end
section
namespace Go.Proofs.YtiofleijieepgaaGreatDoor
open Go.Vc Go.Proofs Go.RowKit Cae
set_option maxRecDepth 100000
set_option linter.unusedSimpArgs false
set_option linter.unusedVariables false
attribute [local irreducible] wpL callK valK unitK runK Fun Sl Vc.Own vc vcOps opK pureK
set_option maxHeartbeats 4000000

def encR (r : Rg) : List Value := [.int .i64 r.1, .int .i64 r.2]

theorem setRight_cons (last : Int) (r : Rg) (s : List Rg) : setRight last (r :: s) = if r.1 ≤ last + 1 ∨ r.2 < r.1 ∨ 1114111 < r.2 then false else setRight r.2 s := rfl

theorem setRight_c (s : List Rg) (hs : s.length < 1000000000) (X : Nat → Prop) (v : Value) (w : World) (hv : Sl X 2 (En encR) w v s) :
    Fun Tryz.prog 69 [v] w fun r w' => r = .bool (setRight (-2) s) ∧ Below w.heap.size w w' := by
  obtain ⟨a, c, rfl, hc⟩ := hv.shape
  refine fun_of_vc Tryz.func69 rfl (by kernel_rfl) [2] rfl ?_
  push_cast -dsimp (maxSteps := 4000000) [Tryz.ntmps69]
  refine wpL_loop [2, 3, 5, 8, 9, 10, 11, 12, 13, 14, 15, 16, 17, 18, 19, 20, 21, 22, 23, 24, 25, 26, 27, 28, 29, 30, 31] (fun z wx => ∃ (i : Nat) (last : Int), z 8 = .int .i64 i ∧ z 3 = .int .i64 last ∧ i ≤ s.length ∧ (-2 ≤ last ∧ last ≤ 1114111) ∧ setRight last (s.drop i) = setRight (-2) s ∧ Below w.heap.size w wx) (fun z _ => s.length - (intOf (z 8)).toNat) ?_ ?_
  · exact ⟨0, -2, rfl, rfl, Nat.zero_le _, by omega, rfl, Below.refl _ _⟩
  · intro z wx hI
    obtain ⟨i, last, h8, h3, hi, hl, hd, hb⟩ := hI
    push_cast -dsimp [h8, h3]
    refine ⟨fun hlt => ?_, fun hge => ?_⟩
    · obtain ⟨x, hx, hxm, hdx, ht⟩ := lt_get (l := s) (i := i) (by omega)
      obtain ⟨b, o, rfl, hX, hcell⟩ := (hv.below hb).get hx
      have c0 : cellsAt wx ⟨b, o + i * 2, none⟩ 0 2 = some [.int .i64 x.1, .int .i64 x.2] := cellsAt_of (encR x) 0 (fun j u hu => by simpa using hcell j u hu)
      push_cast -dsimp [c0]
      refine ⟨⟨by omega, by omega⟩, ?_⟩
      refine allocK (z := [.int .i64 0, .int .i64 0]) (by kernel_rfl) ?_
      intro w1 hw1
      push_cast -dsimp
      refine storeAgg (n := 2) (by kernel_rfl) hw1.blk rfl (by simp) (by simp [Value.oneCell']) ?_
      intro w2 hw2
      have c1 : w2.cell? ⟨wx.heap.size, 0, none⟩ = some (.int .i64 x.1) := hw2.blk.cell rfl
      have c2 : w2.cell? ⟨wx.heap.size, 1, none⟩ = some (.int .i64 x.2) := hw2.blk.cell rfl
      have hb2 : Below w.heap.size w w2 := hb.trans ((hw1.below.mono hb.size).trans (hw2.kept.below (by have := hw1.size; have := hb.size; omega) (fun _ h => by have := hb.size; omega)))
      rw [hdx, setRight_cons] at hd
      push_cast -dsimp [c1, c2]
      refine ⟨⟨by omega, by omega⟩, fun h1 => ⟨fun h2 => ⟨fun h3 => ?_, fun h3 => ?_⟩, fun h2 => ?_⟩, fun h1 => ?_⟩
      · rw [if_pos (by omega)] at hd; exact ⟨by rw [hd], hb2⟩
      · rw [if_neg (by omega)] at hd
        exact ⟨⟨by omega, by omega⟩, ⟨i + 1, x.2, rfl, rfl, by omega, by omega, hd, hb2⟩, by rw [h8]; simp only [intOf]; omega⟩
      · rw [if_pos (by omega)] at hd; exact ⟨by rw [hd], hb2⟩
      · rw [if_pos (by omega)] at hd; exact ⟨by rw [hd], hb2⟩
    · rw [List.drop_eq_nil_of_le (by omega)] at hd
      exact ⟨by rw [← hd]; rfl, hb⟩
end Go.Proofs.YtiofleijieepgaaGreatDoor
end
section
namespace Go.Proofs.YtiofleijieepgaaGreatDoor
open Go.Vc Go.Proofs Go.RowKit Cae
set_option maxRecDepth 100000
set_option linter.unusedSimpArgs false
set_option linter.unusedVariables false
attribute [local irreducible] wpL callK valK unitK runK Fun Sl Vc.Own vc vcOps opK pureK
set_option maxHeartbeats 4000000

def encIn (x : I3) : List Value := [.int .i64 x.op, .int .i64 x.a, .int .i64 x.b]

/-- The value that a load of an element of so many cells gives. -/
def elV : List Value → Value
  | [v] => v
  | cs => .agg cs.toArray

theorem setsIndex_c {α : Type} (R : List Value → α → Prop) (g : FuncId) (cap : List Value) (f : α → Bool) (l : List α) (hl : l.length < 1000000000) (X : Nat → Prop) (v : Value) (w : World) (hv : Sl X 1 R w v l)
    (hf : ∀ x ∈ l, ∀ cs, R cs x → cs.length = 1 → ∀ w', Below w.heap.size w w' → Fun Tryz.prog g (elV cs :: cap) w' fun r w'' => r = .bool (f x) ∧ Below w'.heap.size w' w'') :
    Fun Tryz.prog 85 [v, .func (.func g) #[] cap.toArray] w fun r w' => (∃ n : Int, r = .int .i64 n ∧ (0 ≤ n ↔ l.any f = true)) ∧ Below w.heap.size w w' := by
  obtain ⟨a, c, rfl, hc⟩ := hv.shape
  refine fun_of_vc Tryz.func85 rfl (by kernel_rfl) [4] rfl ?_
  push_cast -dsimp (maxSteps := 4000000) [Tryz.ntmps85]
  refine wpL_loop [4, 5, 8, 9, 10, 11, 12, 13, 14, 15, 16, 17, 18] (fun z wx => ∃ (i : Nat), z 8 = .int .i64 i ∧ i ≤ l.length ∧ (∀ x ∈ l.take i, f x = false) ∧ Below w.heap.size w wx) (fun z _ => l.length - (intOf (z 8)).toNat) ?_ ?_
  · exact ⟨0, rfl, Nat.zero_le _, by simp, Below.refl _ _⟩
  · intro z wx hI
    obtain ⟨i, h8, hi, hok, hb⟩ := hI
    push_cast -dsimp [h8]
    refine ⟨fun hlt => ?_, fun hge => ?_⟩
    · obtain ⟨x, hx, hxm, hd, ht⟩ := lt_get (l := l) (i := i) (by omega)
      obtain ⟨b, o, cs, ha, hX, hk, hcell, hR⟩ := (hv.below hb).getR hx
      subst ha
      obtain ⟨u, rfl⟩ : ∃ u, cs = [u] := (match cs, hk with | [u], _ => ⟨u, rfl⟩); have c0 : wx.cell? ⟨b, o + i, none⟩ = some u := (by simpa using hcell 0 u rfl); push_cast -dsimp [c0]
      refine ⟨⟨by omega, by omega⟩, ?_⟩
      refine callK_of (hf x hxm _ hR rfl wx hb) ?_
      rintro _ w1 ⟨rfl, hb1⟩
      have hB1 := hb.trans (hb1.mono hb.size)
      push_cast -dsimp [condK_b]
      refine ⟨fun hyes => ?_, fun hno => ?_⟩
      · exact ⟨⟨i, rfl, ⟨fun _ => List.any_eq_true.2 ⟨x, hxm, hyes⟩, fun _ => by omega⟩⟩, hB1⟩
      · refine ⟨⟨by omega, by omega⟩, ⟨i + 1, rfl, by omega, ?_, hB1⟩, by rw [h8]; simp only [intOf]; omega⟩
        intro y hy
        rw [ht, List.mem_append, List.mem_singleton] at hy
        rcases hy with hy | rfl
        · exact hok y hy
        · exact hno
    · refine ⟨⟨-1, rfl, ?_⟩, hb⟩
      rw [List.take_of_length_le (by omega)] at hok
      constructor
      · intro h; omega
      · intro h
        obtain ⟨x, hx, hn⟩ := List.any_eq_true.1 h
        rw [hok x hx] at hn; cases hn

theorem setsContains_c {α : Type} (R : List Value → α → Prop) (g : FuncId) (cap : List Value) (f : α → Bool) (l : List α) (hl : l.length < 1000000000) (X : Nat → Prop) (v : Value) (w : World) (hv : Sl X 1 R w v l)
    (hf : ∀ x ∈ l, ∀ cs, R cs x → cs.length = 1 → ∀ w', Below w.heap.size w w' → Fun Tryz.prog g (elV cs :: cap) w' fun r w'' => r = .bool (f x) ∧ Below w'.heap.size w' w'') :
    Fun Tryz.prog 55 [v, .func (.func g) #[] cap.toArray] w fun r w' => r = .bool (l.any f) ∧ Below w.heap.size w w' := by
  refine fun_of_vc Tryz.func55 rfl (by kernel_rfl) [4] rfl ?_
  push_cast -dsimp (maxSteps := 4000000) [Tryz.ntmps55]
  refine callK_of (setsIndex_c R g cap f l hl X v w hv hf) ?_
  rintro r w1 ⟨⟨n, rfl, hn⟩, hb⟩
  push_cast -dsimp
  refine ⟨?_, hb⟩
  congr 1
  cases h : l.any f with
  | true => rw [h] at hn; exact decide_eq_true (hn.2 rfl)
  | false => rw [h] at hn; exact decide_eq_false (fun h0 => by have := hn.1 h0; cases this)
theorem insIndex_c {α : Type} (R : List Value → α → Prop) (g : FuncId) (cap : List Value) (f : α → Bool) (l : List α) (hl : l.length < 1000000000) (X : Nat → Prop) (v : Value) (w : World) (hv : Sl X 3 R w v l)
    (hf : ∀ x ∈ l, ∀ cs, R cs x → cs.length = 3 → ∀ w', Below w.heap.size w w' → Fun Tryz.prog g (elV cs :: cap) w' fun r w'' => r = .bool (f x) ∧ Below w'.heap.size w' w'') :
    Fun Tryz.prog 99 [v, .func (.func g) #[] cap.toArray] w fun r w' => (∃ n : Int, r = .int .i64 n ∧ (0 ≤ n ↔ l.any f = true)) ∧ Below w.heap.size w w' := by
  obtain ⟨a, c, rfl, hc⟩ := hv.shape
  refine fun_of_vc Tryz.func99 rfl (by kernel_rfl) [4] rfl ?_
  push_cast -dsimp (maxSteps := 4000000) [Tryz.ntmps99]
  refine wpL_loop [4, 5, 8, 9, 10, 11, 12, 13, 14, 15, 16, 17, 18] (fun z wx => ∃ (i : Nat), z 8 = .int .i64 i ∧ i ≤ l.length ∧ (∀ x ∈ l.take i, f x = false) ∧ Below w.heap.size w wx) (fun z _ => l.length - (intOf (z 8)).toNat) ?_ ?_
  · exact ⟨0, rfl, Nat.zero_le _, by simp, Below.refl _ _⟩
  · intro z wx hI
    obtain ⟨i, h8, hi, hok, hb⟩ := hI
    push_cast -dsimp [h8]
    refine ⟨fun hlt => ?_, fun hge => ?_⟩
    · obtain ⟨x, hx, hxm, hd, ht⟩ := lt_get (l := l) (i := i) (by omega)
      obtain ⟨b, o, cs, ha, hX, hk, hcell, hR⟩ := (hv.below hb).getR hx
      subst ha
      obtain ⟨u0, u1, u2, rfl⟩ : ∃ u0 u1 u2, cs = [u0, u1, u2] := (match cs, hk with | [u0, u1, u2], _ => ⟨u0, u1, u2, rfl⟩); have c0 : cellsAt wx ⟨b, o + i * 3, none⟩ 0 3 = some [u0, u1, u2] := (cellsAt_of [u0, u1, u2] 0 (fun j u hu => by simpa using hcell j u hu)); push_cast -dsimp [c0]
      refine ⟨⟨by omega, by omega⟩, ?_⟩
      refine callK_of (hf x hxm _ hR rfl wx hb) ?_
      rintro _ w1 ⟨rfl, hb1⟩
      have hB1 := hb.trans (hb1.mono hb.size)
      push_cast -dsimp [condK_b]
      refine ⟨fun hyes => ?_, fun hno => ?_⟩
      · exact ⟨⟨i, rfl, ⟨fun _ => List.any_eq_true.2 ⟨x, hxm, hyes⟩, fun _ => by omega⟩⟩, hB1⟩
      · refine ⟨⟨by omega, by omega⟩, ⟨i + 1, rfl, by omega, ?_, hB1⟩, by rw [h8]; simp only [intOf]; omega⟩
        intro y hy
        rw [ht, List.mem_append, List.mem_singleton] at hy
        rcases hy with hy | rfl
        · exact hok y hy
        · exact hno
    · refine ⟨⟨-1, rfl, ?_⟩, hb⟩
      rw [List.take_of_length_le (by omega)] at hok
      constructor
      · intro h; omega
      · intro h
        obtain ⟨x, hx, hn⟩ := List.any_eq_true.1 h
        rw [hok x hx] at hn; cases hn

theorem insContains_c {α : Type} (R : List Value → α → Prop) (g : FuncId) (cap : List Value) (f : α → Bool) (l : List α) (hl : l.length < 1000000000) (X : Nat → Prop) (v : Value) (w : World) (hv : Sl X 3 R w v l)
    (hf : ∀ x ∈ l, ∀ cs, R cs x → cs.length = 3 → ∀ w', Below w.heap.size w w' → Fun Tryz.prog g (elV cs :: cap) w' fun r w'' => r = .bool (f x) ∧ Below w'.heap.size w' w'') :
    Fun Tryz.prog 65 [v, .func (.func g) #[] cap.toArray] w fun r w' => r = .bool (l.any f) ∧ Below w.heap.size w w' := by
  refine fun_of_vc Tryz.func65 rfl (by kernel_rfl) [4] rfl ?_
  push_cast -dsimp (maxSteps := 4000000) [Tryz.ntmps65]
  refine callK_of (insIndex_c R g cap f l hl X v w hv hf) ?_
  rintro r w1 ⟨⟨n, rfl, hn⟩, hb⟩
  push_cast -dsimp
  refine ⟨?_, hb⟩
  congr 1
  cases h : l.any f with
  | true => rw [h] at hn; exact decide_eq_true (hn.2 rfl)
  | false => rw [h] at hn; exact decide_eq_false (fun h0 => by have := hn.1 h0; cases this)
end Go.Proofs.YtiofleijieepgaaGreatDoor
end
section
namespace Go.Proofs.YtiofleijieepgaaGreatDoor
open Go.Vc Go.Proofs Go.RowKit Cae
set_option maxRecDepth 100000
set_option linter.unusedSimpArgs false
set_option linter.unusedVariables false
attribute [local irreducible] wpL callK valK unitK runK Fun Sl Vc.Own vc vcOps opK pureK
set_option maxHeartbeats 4000000

/-- A set that a list of sets holds. -/
def SetR (X : Nat → Prop) (w : World) : List Value → List Rg → Prop := fun cs s => ∃ u, cs = [u] ∧ Sl X 2 (En encR) w u s
def SetsV (X : Nat → Prop) (w : World) (v : Value) (l : List (List Rg)) : Prop := Sl X 1 (SetR X w) w v l
def CodeV (X : Nat → Prop) (w : World) (v : Value) (c : CodeP) : Prop := ∃ sv iv, v = .agg #[sv, iv] ∧ SetsV X w sv c.sets ∧ Sl X 3 (En encIn) w iv c.ins

theorem SetR.mono {X X' : Nat → Prop} {w w' : World} {cs : List Value} {s : List Rg} (h : SetR X w cs s) (hs : ∀ b, ¬ X b → b < w.heap.size → w'.heap[b]? = w.heap[b]?) (hX : ∀ b, X' b → X b) : SetR X' w' cs s := by
  obtain ⟨u, rfl, h⟩ := h
  exact ⟨u, rfl, h.mono hs (fun _ _ _ h => h) hX⟩
theorem SetsV.mono {X X' : Nat → Prop} {w w' : World} {v : Value} {l : List (List Rg)} (h : SetsV X w v l) (hs : ∀ b, ¬ X b → b < w.heap.size → w'.heap[b]? = w.heap[b]?) (hX : ∀ b, X' b → X b) : SetsV X' w' v l :=
  Sl.mono h hs (fun _ _ _ h => h.mono hs hX) hX
theorem CodeV.mono {X X' : Nat → Prop} {w w' : World} {v : Value} {c : CodeP} (h : CodeV X w v c) (hs : ∀ b, ¬ X b → b < w.heap.size → w'.heap[b]? = w.heap[b]?) (hX : ∀ b, X' b → X b) : CodeV X' w' v c := by
  obtain ⟨sv, iv, rfl, h1, h2⟩ := h
  exact ⟨sv, iv, rfl, h1.mono hs hX, h2.mono hs (fun _ _ _ h => h) hX⟩
theorem SetsV.below {X : Nat → Prop} {w w' : World} {v : Value} {l : List (List Rg)} (h : SetsV X w v l) (hb : Below w.heap.size w w') : SetsV X w' v l := h.mono (fun b _ hlt => hb.block b hlt) (fun _ h => h)
theorem CodeV.below {X : Nat → Prop} {w w' : World} {v : Value} {c : CodeP} (h : CodeV X w v c) (hb : Below w.heap.size w w') : CodeV X w' v c := h.mono (fun b _ hlt => hb.block b hlt) (fun _ h => h)
theorem rightAt_c (k n : Int) (b : Nat) (w : World) (hn : w.cell? ⟨b, 0, none⟩ = some (.int .i64 n)) :
    Fun Tryz.prog 100 [.int .i64 k, .pointer (some ⟨b, 0, none⟩)] w fun r w' => r = .bool (decide (0 ≤ k ∧ k < n)) ∧ w' = w := by
  refine fun_of_vc Tryz.func100 rfl (by kernel_rfl) [3] rfl ?_
  push_cast -dsimp (maxSteps := 4000000) [Tryz.ntmps100]
  push_cast -dsimp [hn]
  constructor
  · intro h; simp [h]
  · intro h; simp [h]

theorem right_c (x : I3) (sets n : Int) (w : World) :
    Fun Tryz.prog 67 [.agg #[.int .i64 x.op, .int .i64 x.a, .int .i64 x.b], .int .i64 sets, .int .i64 n] w fun r w' => r = .bool (insRight x sets n) ∧ Below w.heap.size w w' := by
  refine fun_of_vc Tryz.func67 rfl (by kernel_rfl) [6] rfl ?_
  push_cast -dsimp (maxSteps := 4000000) [Tryz.ntmps67]
  refine boxK_of ?_
  intro w1 hw1
  push_cast -dsimp
  refine boxK_of ?_
  intro w2 hw2
  have hb : Below w.heap.size w w2 := hw1.below.trans (hw2.below.mono (by have := hw1.size; omega))
  have g : ∀ {j u}, [Value.int .i64 x.op, .int .i64 x.a, .int .i64 x.b][j]? = some u → w2.cell? ⟨w.heap.size, j, none⟩ = some u := fun {j u} h => (hw2.below.cell (by have := hw1.size; show w.heap.size < _; omega)).trans (hw1.cell h)
  have c0 : w2.cell? ⟨w.heap.size, 0, none⟩ = some (.int .i64 x.op) := g rfl
  have c1 : w2.cell? ⟨w.heap.size, 1, none⟩ = some (.int .i64 x.a) := g rfl
  have c2 : w2.cell? ⟨w.heap.size, 2, none⟩ = some (.int .i64 x.b) := g rfl
  have cn : w2.cell? ⟨w1.heap.size, 0, none⟩ = some (.int .i64 n) := hw2.cell0
  push_cast -dsimp [c0, c1, c2]
  unfold insRight
  refine ⟨fun h1 => ?_, fun h1 => ⟨fun h2 => ?_, fun h2 => ⟨fun h3 => ?_, fun h3 => ?_⟩⟩⟩
  · rw [if_pos h1]
    repeat' first | apply And.intro | intro _
    all_goals first | exact hb | (congr 1; rw [decide_eq_decide]; omega) | (congr 1; exact (decide_eq_false (by omega)).symm) | (congr 1; exact (decide_eq_true (by omega)).symm) | omega
  · rw [if_neg h1, if_pos h2]
    refine callK_of (rightAt_c _ n _ w2 cn) ?_
    rintro _ w3 ⟨rfl, hw⟩
    subst hw
    push_cast -dsimp [c1, c2]
    refine ⟨fun ha => ?_, fun ha => ⟨by congr 1; exact (decide_eq_false (by omega)).symm, hb⟩⟩
    refine callK_of (rightAt_c _ n _ w3 cn) ?_
    rintro _ w4 ⟨rfl, hw⟩
    subst hw
    push_cast -dsimp
    exact ⟨by congr 1; rw [decide_eq_decide]; omega, hb⟩
  · rw [if_neg h1, if_neg h2, if_pos h3]
    refine callK_of (rightAt_c _ n _ w2 cn) ?_
    rintro _ w3 ⟨rfl, hw⟩
    subst hw
    push_cast -dsimp [c1, c2]
    repeat' first | apply And.intro | intro _
    all_goals first | exact hb | (congr 1; rw [decide_eq_decide]; omega) | (congr 1; exact (decide_eq_false (by omega)).symm) | (congr 1; exact (decide_eq_true (by omega)).symm) | omega
  · rw [if_neg h1, if_neg h2, if_neg h3]
    refine ⟨fun h4 => ?_, fun h4 => ⟨fun h5 => ?_, fun h5 => ?_⟩⟩
    · rw [if_pos (.inl h4)]
      repeat' first | apply And.intro | intro _
      all_goals first | exact hb | (congr 1; rw [decide_eq_decide]; omega) | (congr 1; exact (decide_eq_false (by omega)).symm) | (congr 1; exact (decide_eq_true (by omega)).symm) | omega
    · rw [if_pos (.inr h5)]
      repeat' first | apply And.intro | intro _
      all_goals first | exact hb | (congr 1; rw [decide_eq_decide]; omega) | (congr 1; exact (decide_eq_false (by omega)).symm) | (congr 1; exact (decide_eq_true (by omega)).symm) | omega
    · rw [if_neg (by omega)]; exact ⟨rfl, hb⟩

/-- The closures of Right. -/
theorem rightIns_c (x : I3) (bc bn : Nat) (a : Option Addr) (m cp : Nat) (n : Int) (w : World) (hc : w.cell? ⟨bc, 0, none⟩ = some (.slice a m cp)) (hn : w.cell? ⟨bn, 0, none⟩ = some (.int .i64 n)) :
    Fun Tryz.prog 66 [.agg #[.int .i64 x.op, .int .i64 x.a, .int .i64 x.b], .pointer (some ⟨bc, 0, none⟩), .pointer (some ⟨bn, 0, none⟩)] w fun r w' => r = .bool (!insRight x m n) ∧ Below w.heap.size w w' := by
  refine fun_of_vc Tryz.func66 rfl (by kernel_rfl) [4] rfl ?_
  push_cast -dsimp (maxSteps := 4000000) [Tryz.ntmps66]
  refine boxK_of ?_
  intro w1 hw1
  have d0 : cellsAt w1 ⟨w.heap.size, 0, none⟩ 0 3 = some [.int .i64 x.op, .int .i64 x.a, .int .i64 x.b] := hw1.blk.cellsAt
  have dc : w1.cell? ⟨bc, 0, none⟩ = some (.slice a m cp) := (Kept.new hw1 (X := fun _ => False)).cell hc id
  have dn : w1.cell? ⟨bn, 0, none⟩ = some (.int .i64 n) := (Kept.new hw1 (X := fun _ => False)).cell hn id
  push_cast -dsimp [d0, dc, dn]
  refine callK_of (right_c x m n w1) ?_
  rintro _ w2 ⟨rfl, hb2⟩
  push_cast -dsimp
  exact hw1.below.trans (hb2.mono (by have := hw1.size; omega))

theorem rightSet_c (s : List Rg) (hs : s.length < 1000000000) (X : Nat → Prop) (v : Value) (w : World) (hv : Sl X 2 (En encR) w v s) :
    Fun Tryz.prog 68 [v] w fun r w' => r = .bool (!setRight (-2) s) ∧ Below w.heap.size w w' := by
  refine fun_of_vc Tryz.func68 rfl (by kernel_rfl) [2] rfl ?_
  push_cast -dsimp (maxSteps := 4000000) [Tryz.ntmps68]
  refine callK_of (setRight_c s hs X v w hv) ?_
  rintro _ w1 ⟨rfl, hb⟩
  push_cast -dsimp
  exact hb

/-- Sets that are not too long for the model's numbers. -/
def SetsLen (c : CodeP) : Prop := ∀ s ∈ c.sets, s.length < 1000000000

theorem any_not {α : Type} (l : List α) (f : α → Bool) : (!(l.any fun x => !f x)) = l.all f := by
  induction l with
  | nil => rfl
  | cons x l ih => simp only [List.any_cons, List.all_cons, Bool.not_or, Bool.not_not, ih]

theorem Right_c (c : CodeP) (hl : SetsLen c) (hi : c.ins.length < 1000000000) (hs : c.sets.length < 1000000000) (X : Nat → Prop) (v : Value) (w : World) (hv : CodeV X w v c) :
    Fun Tryz.prog 36 [v] w fun r w' => r = .bool (codeRight c) ∧ Below w.heap.size w w' := by
  obtain ⟨sv, iv, rfl, hsv, hiv⟩ := hv
  obtain ⟨a1, c1, rfl, hc1⟩ := hsv.shape
  obtain ⟨a2, c2, rfl, hc2⟩ := hiv.shape
  refine fun_of_vc Tryz.func36 rfl (by kernel_rfl) [2] rfl ?_
  push_cast -dsimp (maxSteps := 4000000) [Tryz.ntmps36]
  refine boxK_of ?_
  intro w1 hw1
  have d0 : w1.cell? ⟨w.heap.size, 0, none⟩ = some (.slice a1 c.sets.length c1) := hw1.cell rfl
  have d1 : w1.cell? ⟨w.heap.size, 1, none⟩ = some (.slice a2 c.ins.length c2) := hw1.cell rfl
  push_cast -dsimp [d0, d1]
  refine allocK (z := [.int .i64 0]) (by kernel_rfl) ?_
  intro w2 hw2
  push_cast -dsimp
  refine storeK_of hw2.blk (by simp) rfl ?_
  intro w3 hw3
  have hb3 : Below w.heap.size w w3 := hw1.below.trans ((hw2.below.mono (by have := hw1.size; omega)).trans (hw3.kept.below (by have := hw1.size; have := hw2.size; omega) (fun _ h => by have := hw1.size; omega)))
  have e0 : w3.cell? ⟨w.heap.size, 0, none⟩ = some (.slice a1 c.sets.length c1) := hw3.kept.cell ((Kept.new hw2 (X := fun _ => False)).cell d0 id) (by have := hw1.size; show ¬ w.heap.size = w1.heap.size; omega)
  have e1 : w3.cell? ⟨w.heap.size, 1, none⟩ = some (.slice a2 c.ins.length c2) := hw3.kept.cell ((Kept.new hw2 (X := fun _ => False)).cell d1 id) (by have := hw1.size; show ¬ w.heap.size = w1.heap.size; omega)
  have en : w3.cell? ⟨w1.heap.size, 0, none⟩ = some (.int .i64 c.ins.length) := hw3.blk.cell rfl
  push_cast -dsimp [en, e0, e1]
  have hno : ¬ (1 ≤ c.ins.length ∧ c.ins.length ≤ 2000 ∧ c.sets.length ≤ 2000) → Value.bool false = Value.bool (codeRight c) := fun h => by
    congr 1; unfold codeRight; rw [decide_eq_false h]; rfl
  refine ⟨fun h1 => ⟨fun h2 => ⟨fun h3 => ⟨⟨by omega, by omega⟩, ?_⟩, fun h3 => ⟨hno (by omega), hb3⟩⟩, fun h2 => ⟨hno (by omega), hb3⟩⟩, fun h1 => ⟨hno (by omega), hb3⟩⟩
  obtain ⟨x, hx, hxm, _, _⟩ := lt_get (l := c.ins) (i := c.ins.length - 1) (by omega)
  obtain ⟨b, o, rfl, hX, hcell⟩ := (hiv.below hb3).get hx
  have c0 : w3.cell? ⟨b, o + (c.ins.length - 1) * 3, none⟩ = some (.int .i64 x.op) := hcell 0 _ rfl
  have eidx : ((c.ins.length : Int) - 1).toNat = c.ins.length - 1 := by omega
  push_cast -dsimp [eidx, c0]
  have hlast : (x.op = 1 ∨ x.op = 4) → Value.bool false = Value.bool (codeRight c) := fun h => by
    congr 1; unfold codeRight; rw [hx]; dsimp only
    rw [decide_eq_false (p := x.op ≠ 1 ∧ x.op ≠ 4) (by omega)]; simp
  refine ⟨⟨by omega, by omega⟩, fun ho1 => ?_, fun ho1 => ⟨hlast (.inl ho1), hb3⟩⟩
  push_cast -dsimp [eidx, en, e1, c0]
  refine ⟨⟨by omega, by omega⟩, ⟨by omega, by omega⟩, fun ho4 => ⟨hlast (.inr ho4), hb3⟩, fun ho4 => ?_⟩
  have hall : codeRight c = (c.ins.all (fun x => insRight x c.sets.length c.ins.length) && c.sets.all (setRight (-2))) := by
    unfold codeRight
    rw [hx]
    dsimp only
    rw [decide_eq_true (by omega), decide_eq_true ⟨ho1, ho4⟩, Bool.true_and, Bool.true_and]
  refine callK_of (insContains_c (En encIn) 66 [.pointer (some ⟨w.heap.size, 0, none⟩), .pointer (some ⟨w1.heap.size, 0, none⟩)] (fun x => !insRight x c.sets.length c.ins.length) c.ins (by omega) X _ w3 (hiv.below hb3) ?_) ?_
  · rintro y hy cs rfl _ w' hb'
    exact rightIns_c y w.heap.size w1.heap.size a1 c.sets.length c1 c.ins.length w' ((hb'.cell (World.block_lt_of_cell? w3 _ e0)).trans e0) ((hb'.cell (World.block_lt_of_cell? w3 _ en)).trans en)
  rintro _ w4 ⟨rfl, hb4⟩
  have f0 := (hb4.cell (World.block_lt_of_cell? w3 _ e0)).trans e0
  have hB4 := hb3.trans (hb4.mono hb3.size)
  push_cast -dsimp [f0]
  rw [any_not]
  cases hA : c.ins.all (fun x => insRight x c.sets.length c.ins.length) with
  | false =>
    push_cast -dsimp
    exact ⟨by rw [hall, hA, Bool.false_and], hB4⟩
  | true =>
    push_cast -dsimp [f0]
    refine callK_of (setsContains_c (SetR X w4) 68 [] (fun x => !setRight (-2) x) c.sets (by omega) X _ w4 (hsv.below hB4) ?_) ?_
    · rintro s hsm cs ⟨u, rfl, hu⟩ _ w' hb'
      exact rightSet_c s (hl s hsm) X u w' (hu.below hb')
    rintro _ w5 ⟨rfl, hb5⟩
    push_cast -dsimp
    exact ⟨by rw [any_not, hall, hA, Bool.true_and], hB4.trans (hb5.mono hB4.size)⟩
end Go.Proofs.YtiofleijieepgaaGreatDoor
end
section
namespace Go.Proofs.YtiofleijieepgaaGreatDoor
open Go.Vc Go.Proofs Go.RowKit Cae
set_option maxRecDepth 100000
set_option linter.unusedSimpArgs false
set_option linter.unusedVariables false
attribute [local irreducible] wpL callK valK unitK runK Fun Sl Vc.Own vc vcOps opK pureK
open Go.Deep Go.ChangeShapes Go.WideShapes Go.ChangeAt

section
variable {H : Type} {enc : TypeId × Value → H} {W : World} {base : Nat} {sp : Nat → Bool} {held : Bool}
theorem c_int : Tryz.prog.cellsOf 3 = 1 := by kernel_rfl
theorem open_int {n : Nat} {cs : List Value} {y : DataW H × List MemPlace} (h : DataW.trod enc Tryz.prog W base sp held n 3 cs = some y) : ∃ z : Int, cs = [.int .i64 z] := by
  obtain ⟨z, hz, _⟩ := DataW.trod_int Tryz.underlying3 h
  exact ⟨z, hz⟩
theorem open_range {n : Nat} {cs : List Value} {y : DataW H × List MemPlace} (h : DataW.trod enc Tryz.prog W base sp held n 138 cs = some y) : ∃ r : Rg, cs = encR r := by
  obtain ⟨y0, y1, m, _, hl, h0, h1⟩ := trod_struct2 Tryz.underlying138 h
  rw [show Tryz.prog.cellsOf 138 = 2 by kernel_rfl] at hl
  match cs, hl with
  | [a, b], _ =>
    have h0' : DataW.trod enc Tryz.prog W base sp held m 3 (List.take (Tryz.prog.cellsOf 3) [a, b]) = some y0 := h0
    have h1' : DataW.trod enc Tryz.prog W base sp held m 3 (List.take (Tryz.prog.cellsOf 3) [b]) = some y1 := h1
    rw [c_int] at h0' h1'
    obtain ⟨z0, e0⟩ := open_int h0'
    obtain ⟨z1, e1⟩ := open_int h1'
    simp at e0 e1
    subst e0 e1
    exact ⟨(z0, z1), rfl⟩
theorem open_inst {n : Nat} {cs : List Value} {y : DataW H × List MemPlace} (h : DataW.trod enc Tryz.prog W base sp held n 89 cs = some y) : ∃ r : I3, cs = encIn r := by
  obtain ⟨y0, y1, y2, m, _, hl, h0, h1, h2⟩ := trod_struct3 Tryz.underlying89 h
  rw [show Tryz.prog.cellsOf 89 = 3 by kernel_rfl] at hl
  match cs, hl with
  | [a, b, c], _ =>
    have h0' : DataW.trod enc Tryz.prog W base sp held m 3 (List.take (Tryz.prog.cellsOf 3) [a, b, c]) = some y0 := h0
    have h1' : DataW.trod enc Tryz.prog W base sp held m 3 (List.take (Tryz.prog.cellsOf 3) [b, c]) = some y1 := h1
    have h2' : DataW.trod enc Tryz.prog W base sp held m 3 (List.take (Tryz.prog.cellsOf 3) [c]) = some y2 := h2
    rw [c_int] at h0' h1' h2'
    obtain ⟨z0, e0⟩ := open_int h0'
    obtain ⟨z1, e1⟩ := open_int h1'
    obtain ⟨z2, e2⟩ := open_int h2'
    simp at e0 e1 e2
    subst e0 e1 e2
    exact ⟨⟨z0, z1, z2⟩, rfl⟩
theorem open_set {n : Nat} {cs : List Value} {y : DataW H × List MemPlace} (h : DataW.trod enc Tryz.prog W base sp held n 102 cs = some y) : ∃ s, SetR (fun _ => False) W cs s := by
  obtain ⟨v, l, hcs, hl⟩ := open_slice (k := 2) (R := En encR) Tryz.underlying102 (by kernel_rfl) (by omega) h fun n cs y _ hh => open_range hh
  exact ⟨l, v, hcs, hl⟩
theorem open_code {n : Nat} {cs : List Value} {y : DataW H × List MemPlace} (h : DataW.trod enc Tryz.prog W base sp held n 43 cs = some y) : ∃ (sv iv : Value) (c : CodeP), cs = [sv, iv] ∧ SetsV (fun _ => False) W sv c.sets ∧ Sl (fun _ => False) 3 (En encIn) W iv c.ins := by
  obtain ⟨y0, y1, m, _, hl, h0, h1⟩ := trod_struct2 Tryz.underlying43 h
  rw [show Tryz.prog.cellsOf 43 = 2 by kernel_rfl] at hl
  match cs, hl with
  | [a, b], _ =>
    have h0' : DataW.trod enc Tryz.prog W base sp held m 40 (List.take (Tryz.prog.cellsOf 40) [a, b]) = some y0 := h0
    have h1' : DataW.trod enc Tryz.prog W base sp held m 41 (List.take (Tryz.prog.cellsOf 41) [b]) = some y1 := h1
    rw [show Tryz.prog.cellsOf 40 = 1 by kernel_rfl] at h0'
    rw [show Tryz.prog.cellsOf 41 = 1 by kernel_rfl] at h1'
    obtain ⟨sv, sets, e0, hs⟩ := open_slice (k := 1) (R := SetR (fun _ => False) W) Tryz.underlying40 (by kernel_rfl) (by omega) h0' fun n cs y _ hh => open_set hh
    obtain ⟨iv, ins, e1, hi⟩ := open_slice (k := 3) (R := En encIn) Tryz.underlying41 (by kernel_rfl) (by omega) h1' fun n cs y _ hh => open_inst hh
    simp at e0 e1
    subst e0 e1
    exact ⟨a, b, ⟨sets, ins⟩, rfl, hs, hi⟩
end
end Go.Proofs.YtiofleijieepgaaGreatDoor
end
