/- Texts of this claim, merged: P, Set, Arg, Pset. -/
import Derived.Test.YtphebgkbkdjjoaaGreatDoorM1
import Derived.Test.YtphebgkbkdjjoaaGreatDoorM2
section
section
set_option linter.unusedSimpArgs false
set_option linter.unusedVariables false
namespace Cae
open Go Go.Vc

theorem wrap_i64 {n : Int} (h : -9223372036854775808 ≤ n ∧ n ≤ 9223372036854775807) : IntKind.i64.wrap n = n := by rw [IntKind.wrap_i64]; omega
theorem wrap_u8 (n : Int) : IntKind.u8.wrap n = n % 256 := by simp [IntKind.wrap, IntKind.bits, IntKind.signed]
theorem wrap_u8_nat (n : Nat) : IntKind.u8.wrap (n : Int) = ((n % 256 : Nat) : Int) := by rw [wrap_u8]; omega
theorem wrap_u64_nat (n : Nat) : IntKind.u64.wrap (n : Int) = ((n % 18446744073709551616 : Nat) : Int) := by simp [IntKind.wrap, IntKind.bits, IntKind.signed]

theorem ofInt_nat (n x : Nat) : BitVec.ofInt n (x : Int) = BitVec.ofNat n x := by
  apply BitVec.eq_of_toNat_eq
  simp

theorem and_lt {x y n : Nat} (h : x < 2 ^ n) : x &&& y < 2 ^ n := Nat.lt_of_le_of_lt Nat.and_le_left h
theorem and_mask (x k : Nat) : x &&& (2 ^ k - 1) = x % 2 ^ k := Nat.and_two_pow_sub_one_eq_mod x k
theorem shr_nat {p k : Nat} {b : Int} {kd : IntKind} (hb : b.toNat = k) (hk : k ≤ kd.bits) : ((p : Int).fdiv (2 ^ min b.toNat kd.bits)) = ((p / 2 ^ k : Nat) : Int) := by
  rw [hb, Nat.min_eq_left hk]
  rw [show (2 : Int) ^ k = ((2 ^ k : Nat) : Int) by first | (push_cast; done) | (push_cast; rfl), Int.fdiv_eq_ediv_of_nonneg _ (Int.natCast_nonneg _)]
  rfl
end Cae
end

section
set_option linter.unusedSimpArgs false
set_option linter.unusedVariables false
namespace Cae

/-! Sets, instructions, code: as they are read. -/
abbrev Rg := Int × Int
structure I3 where
  op : Int
  a : Int
  b : Int
  deriving DecidableEq
structure CodeP where
  sets : List (List Rg)
  ins : List I3
  deriving DecidableEq

def setRight : Int → List Rg → Bool
  | _, [] => true
  | last, r :: s => if r.1 ≤ last + 1 ∨ r.2 < r.1 ∨ 1114111 < r.2 then false else setRight r.2 s

def hasP (s : List Rg) (p : Int) : Bool := s.any fun r => decide (r.1 ≤ p ∧ p ≤ r.2)

def insRight (x : I3) (sets n : Int) : Bool :=
  if x.op = 1 then decide (0 ≤ x.a ∧ x.a < sets ∧ x.b = 0)
  else if x.op = 2 then decide ((0 ≤ x.a ∧ x.a < n) ∧ (0 ≤ x.b ∧ x.b < n))
  else if x.op = 3 then decide ((0 ≤ x.a ∧ x.a < n) ∧ x.b = 0)
  else if x.op = 4 ∨ x.op = 5 then decide (x.a = 0 ∧ x.b = 0)
  else false

def codeRight (c : CodeP) : Bool :=
  decide (1 ≤ c.ins.length ∧ c.ins.length ≤ 2000 ∧ c.sets.length ≤ 2000) &&
  (match c.ins[c.ins.length - 1]? with | some x => decide (x.op ≠ 1 ∧ x.op ≠ 4) | none => false) &&
  c.ins.all (fun x => insRight x c.sets.length c.ins.length) && c.sets.all (setRight (-2))

/-! The machine. -/
def addQ (q : List Nat) (k : Nat) : List Nat := if k ∈ q then q else q ++ [k]

/-- What comes of a place's list: found, or the list, the next place's, and how many were looked at. -/
inductive Lk
  | yes (st : Nat)
  | no (q nx : List Nat) (st : Nat)

/-! Lists of places: each once, each a place. -/
def Places (n : Nat) (q : List Nat) : Prop := q.Nodup ∧ ∀ k ∈ q, k < n

theorem Places.add {n : Nat} {q : List Nat} {k : Nat} (h : Places n q) (hk : k < n) : Places n (addQ q k) := by
  unfold addQ
  split
  · exact h
  · rename_i hn
    refine ⟨?_, fun j hj => ?_⟩
    · rw [List.nodup_append]
      exact ⟨h.1, by simp, fun a ha b hb => by rw [List.mem_singleton] at hb; subst hb; intro e; subst e; exact hn ha⟩
    · rw [List.mem_append, List.mem_singleton] at hj
      rcases hj with hj | rfl
      · exact h.2 j hj
      · exact hk
/-- What codeRight says. -/
structure CR (c : CodeP) : Prop where
  one : 1 ≤ c.ins.length
  many : c.ins.length ≤ 2000
  sets : c.sets.length ≤ 2000
  ins : ∀ (i : Nat) (x : I3), c.ins[i]? = some x → insRight x c.sets.length c.ins.length = true
  next : ∀ (i : Nat) (x : I3), c.ins[i]? = some x → (x.op = 1 ∨ x.op = 4) → i + 1 < c.ins.length
  set : ∀ s ∈ c.sets, setRight (-2) s = true
end Cae
end

section
set_option linter.unusedSimpArgs false
set_option linter.unusedVariables false
namespace Cae

/-! Programs as bytes. -/
structure PairP where
  brk : Bool
  before : CodeP
  after : CodeP
  deriving DecidableEq
structure ProgP where
  rules : List PairP
  els : Bool
  deriving DecidableEq

def bt (n : Nat) : UInt8 := UInt8.ofNat n
/-! Reading. -/
structure St where
  s : List UInt8
  bad : Bool
  deriving DecidableEq

end Cae
end

section
set_option linter.unusedSimpArgs false
set_option linter.unusedVariables false
namespace Cae

end Cae
end

section
set_option linter.unusedSimpArgs false
set_option linter.unusedVariables false
namespace Cae

end Cae
end

section
set_option linter.unusedSimpArgs false
set_option linter.unusedVariables false
namespace Cae

end Cae
end

section
set_option linter.unusedSimpArgs false
set_option linter.unusedVariables false
namespace Cae

end Cae
end

section
set_option linter.unusedSimpArgs false
set_option linter.unusedVariables false
namespace Cae

end Cae
end

section
set_option linter.unusedSimpArgs false
set_option linter.unusedVariables false
namespace Cae

theorem CR.to {c : CodeP} (h : CR c) : codeRight c = true := by
  have h1 := h.one
  have hl : c.ins.length - 1 < c.ins.length := by omega
  have hx := List.getElem?_eq_getElem hl
  have hn := h.next _ _ hx
  unfold codeRight
  rw [hx]
  simp only [Bool.and_eq_true, decide_eq_true_eq, List.all_eq_true]
  refine ⟨⟨⟨⟨h.one, h.many, h.sets⟩, ⟨fun e => ?_, fun e => ?_⟩⟩, fun x hx => ?_⟩, h.set⟩
  · have := hn (.inl e); omega
  · have := hn (.inr e); omega
  · obtain ⟨i, hi⟩ := List.getElem?_of_mem hx
    exact h.ins i x hi

end Cae
end

section
set_option linter.unusedSimpArgs false
set_option linter.unusedVariables false
namespace Cae

/-! What is left out. -/
/-- Where an instruction may lead to. -/
def Leads (c : CodeP) (x : I3) (i j : Nat) : Prop :=
  (x.op = 2 ∧ (j = x.a.toNat ∨ j = x.b.toNat)) ∨ (x.op = 3 ∧ j = x.a.toNat) ∨ (x.op = 4 ∧ j = i + 1) ∨ (x.op = 1 ∧ c.sets.getD x.a.toNat [] ≠ [] ∧ j = i + 1)
structure Closed (c : CodeP) (is : List Bool) : Prop where
  len : is.length = c.ins.length
  zero : is[0]? = some true
  leads : ∀ (i : Nat) (x : I3), is[i]? = some true → c.ins[i]? = some x → ∀ j, Leads c x i j → is[j]? = some true

/-- The next one that is reached. -/
def nextFrom (is : List Bool) : Nat → Nat → Nat
  | 0, k => is.length
  | f + 1, k => if is[k]? = some true then k else if k < is.length then nextFrom is f (k + 1) else is.length
def nextP (is : List Bool) (i : Nat) : Nat := nextFrom is is.length (i + 1)
/-- A jump to the next one that is reached. -/
def skipP (c : CodeP) (is : List Bool) (i : Nat) : Bool := match c.ins[i]? with
  | none => false
  | some x => decide (x.op = 3 ∧ (nextP is i : Int) = x.a ∧ (i : Int) < x.a)
def keepP (c : CodeP) (is : List Bool) (i : Nat) : Bool := decide (is[i]? = some true) && !skipP c is i
def toP (c : CodeP) (is : List Bool) : Nat → Nat
  | 0 => 0
  | i + 1 => if keepP c is i then toP c is i + 1 else toP c is i

/-! What is written. -/
structure LS where
  used : List Nat
  ins : List I3
/-- What an instruction is written as, with the sets of what is written. -/
def Turned (c : CodeP) (is : List Bool) (sets : List (List Rg)) (x y : I3) : Prop :=
  y.op = x.op ∧ (x.op = 1 → y.b = x.b ∧ 0 ≤ y.a ∧ y.a.toNat < sets.length ∧ sets.getD y.a.toNat [] = c.sets.getD x.a.toNat []) ∧ (x.op = 3 → y.a = toP c is x.a.toNat ∧ y.b = x.b) ∧ (x.op = 2 → y.a = toP c is x.a.toNat ∧ y.b = toP c is x.b.toNat) ∧
  (x.op ≠ 1 → x.op ≠ 2 → x.op ≠ 3 → y = x)
theorem Turned.more {c : CodeP} {is : List Bool} {sets more : List (List Rg)} {x y : I3} (h : Turned c is sets x y) : Turned c is (sets ++ more) x y := by
  obtain ⟨h1, h2, h3, h4, h5⟩ := h
  refine ⟨h1, fun e => ?_, h3, h4, h5⟩
  obtain ⟨a, b, d, f⟩ := h2 e
  refine ⟨a, b, by rw [List.length_append]; omega, ?_⟩
  rw [← f, List.getD_eq_getElem?_getD, List.getD_eq_getElem?_getD, List.getElem?_append_left d]

structure LInv (c : CodeP) (is : List Bool) (i : Nat) (s : LS) : Prop where
  len : s.ins.length = toP c is i
  nodup : s.used.Nodup
  used : ∀ a ∈ s.used, a < c.sets.length
  at_ : ∀ (j : Nat) (x : I3), j < i → keepP c is j = true → c.ins[j]? = some x → ∃ y, s.ins[toP c is j]? = some y ∧ Turned c is (s.used.map (fun a => c.sets.getD a [])) x y
  all : ∀ (k : Nat) (y : I3), s.ins[k]? = some y → ∃ j x, j < i ∧ keepP c is j = true ∧ toP c is j = k ∧ c.ins[j]? = some x ∧ Turned c is (s.used.map (fun a => c.sets.getD a [])) x y

end Cae
end
end
section
namespace Go.Proofs.YtphebgkbkdjjoaaGreatDoor
open Go.Vc Go.Proofs Go.RowKit Cae
set_option maxRecDepth 100000
set_option linter.unusedSimpArgs false
set_option linter.unusedVariables false
attribute [local irreducible] wpL callK valK unitK runK Fun Sl Vc.Own vc vcOps opK pureK
set_option maxHeartbeats 4000000

def encR (r : Rg) : List Value := [.int .i64 r.1, .int .i64 r.2]

theorem setRight_cons (last : Int) (r : Rg) (s : List Rg) : setRight last (r :: s) = if r.1 ≤ last + 1 ∨ r.2 < r.1 ∨ 1114111 < r.2 then false else setRight r.2 s := rfl

theorem setRight_c (s : List Rg) (hs : s.length < 1000000000) (X : Nat → Prop) (v : Value) (w : World) (hv : Sl X 2 (En encR) w v s) :
    Fun Tryz.prog 121 [v] w fun r w' => r = .bool (setRight (-2) s) ∧ Below w.heap.size w w' := by
  obtain ⟨a, c, rfl, hc⟩ := hv.shape
  refine fun_of_vc Tryz.func121 rfl (by kernel_rfl) [2] rfl ?_
  push_cast -dsimp (maxSteps := 4000000) [Tryz.ntmps121]
  refine wpL_loop [2, 3, 5, 8, 9, 10, 11, 12, 13, 14, 15, 16, 17, 18, 19, 20, 21, 22, 23, 24, 25, 26, 27, 28, 29, 30, 31] (fun z wx => ∃ (i : Nat) (last : Int), z 8 = .int .i64 i ∧ z 3 = .int .i64 last ∧ i ≤ s.length ∧ (-2 ≤ last ∧ last ≤ 1114111) ∧ setRight last (s.drop i) = setRight (-2) s ∧ Below w.heap.size w wx) (fun z _ => s.length - (intOf (z 8)).toNat) ?_ ?_
  · exact ⟨0, -2, rfl, rfl, Nat.zero_le _, by omega, rfl, Below.refl _ _⟩
  · intro z wx hI
    obtain ⟨i, last, h8, h3, hi, hl, hd, hb⟩ := hI
    push_cast -dsimp [h8, h3]
    refine ⟨fun hlt => ?_, fun hge => ?_⟩
    · obtain ⟨x, hx, hxm, hdx, ht⟩ := lt_get (l := s) (i := i) (by omega)
      obtain ⟨b, o, rfl, hX, hcell⟩ := (hv.below hb).get hx
      have c0 : cellsAt wx ⟨b, o + i * 2, none⟩ 0 2 = some [.int .i64 x.1, .int .i64 x.2] := cellsAt_of (encR x) 0 (fun j u hu => by simpa using hcell j u hu)
      push_cast -dsimp [c0]
      refine ⟨⟨by omega, by omega⟩, ?_⟩
      refine allocK (z := [.int .i64 0, .int .i64 0]) (by kernel_rfl) ?_
      intro w1 hw1
      push_cast -dsimp
      refine storeAgg (n := 2) (by kernel_rfl) hw1.blk rfl (by simp) (by simp [Value.oneCell']) ?_
      intro w2 hw2
      have c1 : w2.cell? ⟨wx.heap.size, 0, none⟩ = some (.int .i64 x.1) := hw2.blk.cell rfl
      have c2 : w2.cell? ⟨wx.heap.size, 1, none⟩ = some (.int .i64 x.2) := hw2.blk.cell rfl
      have hb2 : Below w.heap.size w w2 := hb.trans ((hw1.below.mono hb.size).trans (hw2.kept.below (by have := hw1.size; have := hb.size; omega) (fun _ h => by have := hb.size; omega)))
      rw [hdx, setRight_cons] at hd
      push_cast -dsimp [c1, c2]
      refine ⟨⟨by omega, by omega⟩, fun h1 => ⟨fun h2 => ⟨fun h3 => ?_, fun h3 => ?_⟩, fun h2 => ?_⟩, fun h1 => ?_⟩
      · rw [if_pos (by omega)] at hd; exact ⟨by rw [hd], hb2⟩
      · rw [if_neg (by omega)] at hd
        exact ⟨⟨by omega, by omega⟩, ⟨i + 1, x.2, rfl, rfl, by omega, by omega, hd, hb2⟩, by rw [h8]; simp only [intOf]; omega⟩
      · rw [if_pos (by omega)] at hd; exact ⟨by rw [hd], hb2⟩
      · rw [if_pos (by omega)] at hd; exact ⟨by rw [hd], hb2⟩
    · rw [List.drop_eq_nil_of_le (by omega)] at hd
      exact ⟨by rw [← hd]; rfl, hb⟩
end Go.Proofs.YtphebgkbkdjjoaaGreatDoor
end
section
namespace Go.Proofs.YtphebgkbkdjjoaaGreatDoor
open Go.Vc Go.Proofs Go.RowKit Cae
/-- A slice as an argument is: nil is nil. -/
def Arg (v : Value) : Prop := ∀ n c, v = .slice none n c → n = 0 ∧ c = 0
theorem encR_one : ∀ x, ∀ u ∈ encR x, u.oneCell' = true := by simp [encR, Value.oneCell']
end Go.Proofs.YtphebgkbkdjjoaaGreatDoor
end
section
set_option linter.unusedSimpArgs false
set_option linter.unusedVariables false
namespace Cae

/-! Sets, by the points that are in them. -/
def inB (l : List Rg) (p : Int) : Bool := decide (0 ≤ p ∧ p ≤ 1114111) && hasP l p
theorem setRight_con {r : Rg} {s : List Rg} {a : Int} : setRight a (r :: s) = true ↔ (a + 1 < r.1 ∧ r.1 ≤ r.2 ∧ r.2 ≤ 1114111) ∧ setRight r.2 s = true := by
  rw [setRight]
  split
  · constructor
    · intro h; cases h
    · rintro ⟨h, _⟩; omega
  · constructor
    · intro h; exact ⟨by omega, h⟩
    · exact fun h => h.2
def lastHi (a : Int) : List Rg → Int
  | [] => a
  | r :: s => lastHi r.2 s
structure OfInv (out done : List Rg) : Prop where
  right : setRight (-2) out = true
  has : ∀ p, hasP out p = inB done p
end Cae
end
