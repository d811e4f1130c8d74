import Derived.Test.YtimjpijbcnjaaaaDoorPvm
set_option linter.unusedSimpArgs false
set_option linter.unusedVariables false
namespace Cae

/-! Programs as bytes. -/
structure PairP where
  brk : Bool
  before : CodeP
  after : CodeP
  deriving DecidableEq
structure ProgP where
  rules : List PairP
  els : Bool
  deriving DecidableEq

def bt (n : Nat) : UInt8 := UInt8.ofNat n
theorem bt_toNat {n : Nat} (h : n < 256) : (bt n).toNat = n := by simp [bt]; omega
theorem bt_of (c : UInt8) : bt c.toNat = c := by simp [bt]

/-- A number: seven bits a byte, the least ones first. -/
def numB (n : Nat) : List UInt8 := if n < 128 then [bt n] else bt (n % 128 + 128) :: numB (n / 128)
termination_by n
decreasing_by omega

def bitB (b : Bool) : List UInt8 := [if b then 1 else 0]
def rangeB (r : Rg) : List UInt8 := numB r.1.toNat ++ numB r.2.toNat
def setB (s : List Rg) : List UInt8 := numB s.length ++ s.flatMap rangeB
def insB (x : I3) : List UInt8 := numB x.op.toNat ++ numB x.a.toNat ++ numB x.b.toNat
def codeB (c : CodeP) : List UInt8 := numB c.sets.length ++ c.sets.flatMap setB ++ numB c.ins.length ++ c.ins.flatMap insB
def pairB (r : PairP) : List UInt8 := bitB r.brk ++ codeB r.before ++ codeB r.after
def progB (p : ProgP) : List UInt8 := bitB p.els ++ numB p.rules.length ++ p.rules.flatMap pairB

/-- The sum: what it begins with, byte by byte. -/
def sumGo : Nat → Nat → List UInt8 → Nat × Nat
  | a, b, [] => (a, b)
  | a, b, c :: s => sumGo ((a + c.toNat) % 65521) ((b + (a + c.toNat) % 65521) % 65521) s
def sumP (s : List UInt8) : Nat := (sumGo 1 0 s).2 * 65536 + (sumGo 1 0 s).1
def sumB (u : Nat) : List UInt8 := [bt (u % 256), bt (u / 256 % 256), bt (u / 65536 % 256), bt (u / 16777216 % 256)]
def writeB (p : ProgP) : List UInt8 := progB p ++ sumB (sumP (progB p))

def progRight (p : ProgP) : Bool := decide (p.rules.length ≤ 20) && p.rules.all fun r => codeRight r.before && codeRight r.after

theorem numB_lt {n : Nat} (h : n < 128) : numB n = [bt n] := by rw [numB, if_pos h]
theorem numB_ge {n : Nat} (h : ¬ n < 128) : numB n = bt (n % 128 + 128) :: numB (n / 128) := by rw [numB, if_neg h]
theorem numB_pos (n : Nat) : 1 ≤ (numB n).length := by
  rw [numB]; split <;> simp
theorem numB_len : ∀ (k n : Nat), 1 ≤ k → n < 128 ^ k → (numB n).length ≤ k
  | 0, _, h, _ => absurd h (by omega)
  | 1, n, _, h => by rw [numB_lt (by simpa using h)]; simp
  | k + 2, n, _, h => by
    by_cases hn : n < 128
    · rw [numB_lt hn]; simp
    · rw [numB_ge hn]
      have := numB_len (k + 1) (n / 128) (by omega) (by rw [Nat.pow_succ] at h; exact Nat.div_lt_of_lt_mul (by rw [Nat.mul_comm]; exact h))
      simp only [List.length_cons]; omega

/-! Reading. -/
/-- A number of at most four bytes: the number, what is left, whether it is bad. -/
def rnumA (bad : Bool) : Nat → Nat → List UInt8 → Nat × List UInt8 × Bool
  | _, _, [] => (0, [], true)
  | i, n, c :: r => if 4 ≤ i then (0, [], true) else if c.toNat < 128 then (n + c.toNat * 128 ^ i, r, bad || (decide (0 < i) && decide (c.toNat = 0))) else rnumA bad (i + 1) (n + c.toNat % 128 * 128 ^ i) r

structure St where
  s : List UInt8
  bad : Bool
  deriving DecidableEq

def rnum (x : St) : Nat × St := ((rnumA x.bad 0 0 x.s).1, ⟨(rnumA x.bad 0 0 x.s).2.1, (rnumA x.bad 0 0 x.s).2.2⟩)
def rmany (x : St) : Nat × St := if (rnum x).2.s.length < (rnum x).1 then (0, ⟨(rnum x).2.s, true⟩) else rnum x
def rbit (x : St) : Bool × St := (decide ((rnum x).1 = 1), ⟨(rnum x).2.s, (rnum x).2.bad || decide (1 < (rnum x).1)⟩)
def rlist {α : Type} (f : St → α × St) : Nat → St → List α × St
  | 0, x => ([], x)
  | n + 1, x => ((f x).1 :: (rlist f n (f x).2).1, (rlist f n (f x).2).2)
def rrange (x : St) : Rg × St := (((rnum x).1, (rnum (rnum x).2).1), (rnum (rnum x).2).2)
def rset (x : St) : List Rg × St := rlist rrange (rmany x).1 (rmany x).2
def rins (x : St) : I3 × St := (⟨(rnum x).1, (rnum (rnum x).2).1, (rnum (rnum (rnum x).2).2).1⟩, (rnum (rnum (rnum x).2).2).2)
def rsets (x : St) : List (List Rg) × St := rlist rset (rmany x).1 (rmany x).2
def rinss (x : St) : List I3 × St := rlist rins (rmany x).1 (rmany x).2
def rcode (x : St) : CodeP × St := (⟨(rsets x).1, (rinss (rsets x).2).1⟩, (rinss (rsets x).2).2)
def rpair (x : St) : PairP × St := (⟨(rbit x).1, (rcode (rbit x).2).1, (rcode (rcode (rbit x).2).2).1⟩, (rcode (rcode (rbit x).2).2).2)
def rrules (x : St) : List PairP × St := rlist rpair (rmany x).1 (rmany x).2
def rprog (x : St) : ProgP × St := (⟨(rrules (rbit x).2).1, (rbit x).1⟩, (rrules (rbit x).2).2)

def sumOf (l : List UInt8) : Nat := (l.getD 0 0).toNat + (l.getD 1 0).toNat * 256 + (l.getD 2 0).toNat * 65536 + (l.getD 3 0).toNat * 16777216
def parseP (s : List UInt8) : Option ProgP :=
  if s.length < 4 then none
  else if sumP (s.take (s.length - 4)) ≠ sumOf (s.drop (s.length - 4)) then none
  else let r := rprog ⟨s.take (s.length - 4), false⟩
    if r.2.bad = true ∨ r.2.s ≠ [] ∨ progRight r.1 = false then none else some r.1

/-- What is bad stays bad; what reads well is as it is written. -/
def Reads {α : Type} (f : St → α × St) (enc : α → List UInt8) : Prop :=
  ∀ x, (x.bad = true → (f x).2.bad = true) ∧ ((f x).2.bad = false → x.s = enc (f x).1 ++ (f x).2.s)

theorem rnumA_reads (bad : Bool) : ∀ (s : List UInt8) (i n : Nat), (bad = true → (rnumA bad i n s).2.2 = true) ∧
    ((rnumA bad i n s).2.2 = false → ∃ m, (rnumA bad i n s).1 = n + m * 128 ^ i ∧ s = numB m ++ (rnumA bad i n s).2.1 ∧ (0 < i → 0 < m))
  | [], i, n => ⟨fun _ => rfl, fun h => by cases h⟩
  | c :: r, i, n => by
    rw [rnumA]
    split
    · exact ⟨fun _ => rfl, fun h => by cases h⟩
    · split
      · rename_i hc
        refine ⟨fun h => by simp [h], fun h => ⟨c.toNat, rfl, ?_, ?_⟩⟩
        · rw [numB_lt hc, bt_of]; rfl
        · intro hi
          simp only [Bool.or_eq_false_iff, Bool.and_eq_false_iff, decide_eq_false_iff_not] at h
          omega
      · rename_i hc
        obtain ⟨h1, h2⟩ := rnumA_reads bad r (i + 1) (n + c.toNat % 128 * 128 ^ i)
        refine ⟨h1, fun h => ?_⟩
        obtain ⟨m, e1, e2, e3⟩ := h2 h
        have hm := e3 (by omega)
        have hc2 := c.toNat_lt
        refine ⟨m * 128 + c.toNat % 128, ?_, ?_, fun _ => by omega⟩
        · rw [e1, Nat.pow_succ, Nat.add_mul, Nat.mul_assoc m 128, Nat.mul_comm 128]; omega
        · rw [numB_ge (by omega), show (m * 128 + c.toNat % 128) / 128 = m by omega, show (m * 128 + c.toNat % 128) % 128 + 128 = c.toNat by omega, bt_of, List.cons_append, ← e2]

theorem rnum_reads : Reads rnum numB := fun x => by
  obtain ⟨h1, h2⟩ := rnumA_reads x.bad x.s 0 0
  refine ⟨h1, fun h => ?_⟩
  obtain ⟨m, e1, e2, _⟩ := h2 h
  have : (rnum x).1 = m := by simp only [rnum, e1]; omega
  rw [this]; exact e2
theorem rmany_reads : Reads rmany numB := fun x => by
  unfold rmany
  split
  · exact ⟨fun _ => rfl, fun h => by cases h⟩
  · exact rnum_reads x
theorem rbit_reads : Reads rbit bitB := fun x => by
  obtain ⟨h1, h2⟩ := rnum_reads x
  refine ⟨fun h => by simp [rbit, h1 h], fun h => ?_⟩
  simp only [rbit, Bool.or_eq_false_iff, decide_eq_false_iff_not] at h ⊢
  rw [h2 h.1]
  congr 1
  have hn : (rnum x).1 = 0 ∨ (rnum x).1 = 1 := by omega
  rcases hn with hn | hn <;> rw [hn] <;> rw [numB_lt (by omega)] <;> rfl
theorem rlist_reads {α : Type} {f : St → α × St} {enc : α → List UInt8} (hf : Reads f enc) : ∀ n, Reads (rlist f n) (fun l => l.flatMap enc)
  | 0, x => ⟨fun h => h, fun _ => rfl⟩
  | n + 1, x => by
    obtain ⟨h1, h2⟩ := hf x
    obtain ⟨h3, h4⟩ := rlist_reads hf n (f x).2
    simp only [rlist]
    refine ⟨fun h => h3 (h1 h), fun h => ?_⟩
    have hb : (f x).2.bad = false := by
      cases hbb : (f x).2.bad with
      | false => rfl
      | true => rw [h3 hbb] at h; cases h
    rw [h2 hb, h4 h, List.flatMap_cons, List.append_assoc]
theorem rlist_len {α : Type} (f : St → α × St) : ∀ n x, (rlist f n x).1.length = n
  | 0, _ => rfl
  | n + 1, x => by simp only [rlist, List.length_cons, rlist_len f n]
/-- One behind the other. -/
theorem reads_seq {α β : Type} {f : St → α × St} {g : St → β × St} {ef : α → List UInt8} {eg : β → List UInt8} (hf : Reads f ef) (hg : Reads g eg) (x : St) :
    (x.bad = true → (g (f x).2).2.bad = true) ∧ ((g (f x).2).2.bad = false → (f x).2.bad = false ∧ x.s = ef (f x).1 ++ (eg (g (f x).2).1 ++ (g (f x).2).2.s)) := by
  obtain ⟨h1, h2⟩ := hf x
  obtain ⟨h3, h4⟩ := hg (f x).2
  refine ⟨fun h => h3 (h1 h), fun h => ?_⟩
  have hb : (f x).2.bad = false := by
    cases hbb : (f x).2.bad with
    | false => rfl
    | true => rw [h3 hbb] at h; cases h
  exact ⟨hb, by rw [h2 hb, h4 h]⟩
theorem rrange_reads : Reads rrange rangeB := fun x => by
  obtain ⟨h1, h2⟩ := reads_seq rnum_reads rnum_reads x
  refine ⟨h1, fun h => ?_⟩
  rw [(h2 h).2]
  simp [rrange, rangeB]
theorem rmanyList_reads {α : Type} {f : St → α × St} {enc : α → List UInt8} (hf : Reads f enc) : Reads (fun x => rlist f (rmany x).1 (rmany x).2) (fun l => numB l.length ++ l.flatMap enc) := fun x => by
  obtain ⟨h1, h2⟩ := rmany_reads x
  obtain ⟨h3, h4⟩ := rlist_reads hf (rmany x).1 (rmany x).2
  refine ⟨fun h => h3 (h1 h), fun h => ?_⟩
  have hb : (rmany x).2.bad = false := by
    cases hbb : (rmany x).2.bad with
    | false => rfl
    | true => rw [h3 hbb] at h; cases h
  simp only at h ⊢
  rw [rlist_len, h2 hb, h4 h, List.append_assoc]
theorem rset_reads : Reads rset setB := rmanyList_reads rrange_reads
theorem rins_reads : Reads rins insB := fun x => by
  obtain ⟨h1, h2⟩ := rnum_reads x
  obtain ⟨h3, h4⟩ := reads_seq rnum_reads rnum_reads (rnum x).2
  refine ⟨fun h => h3 (h1 h), fun h => ?_⟩
  have hb : (rnum x).2.bad = false := by
    cases hbb : (rnum x).2.bad with
    | false => rfl
    | true => rw [show (rins x).2 = (rnum (rnum (rnum x).2).2).2 from rfl, h3 hbb] at h; cases h
  rw [h2 hb, (h4 h).2]
  simp [rins, insB]
theorem rcode_reads : Reads rcode codeB := fun x => by
  obtain ⟨h1, h2⟩ := reads_seq (rmanyList_reads rset_reads) (rmanyList_reads rins_reads) x
  refine ⟨h1, fun h => ?_⟩
  rw [(h2 h).2]
  simp [rcode, rsets, rinss, codeB]
theorem rpair_reads : Reads rpair pairB := fun x => by
  obtain ⟨h1, h2⟩ := rbit_reads x
  obtain ⟨h3, h4⟩ := reads_seq rcode_reads rcode_reads (rbit x).2
  simp only [rpair]
  generalize rbit x = y at h1 h2 h3 h4 ⊢
  refine ⟨fun h => h3 (h1 h), fun h => ?_⟩
  have hb : y.2.bad = false := by
    cases hbb : y.2.bad with
    | false => rfl
    | true => rw [h3 hbb] at h; cases h
  rw [h2 hb, (h4 h).2]
  simp only [pairB, List.append_assoc]
theorem rprog_reads : Reads rprog progB := fun x => by
  obtain ⟨h1, h2⟩ := reads_seq rbit_reads (rmanyList_reads rpair_reads) x
  refine ⟨h1, fun h => ?_⟩
  rw [(h2 h).2]
  simp [rprog, rrules, progB]
end Cae
