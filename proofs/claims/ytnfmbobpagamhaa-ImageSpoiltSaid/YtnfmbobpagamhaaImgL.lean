import Derived.Test.YtnfmbobpagamhaaImgK
import Derived.Test.YtnfmbobpagamhaaMovedw
import Derived.Laws.IdiomStrings
namespace Go.Proofs.Ytnfmbobpagamhaa
open Go.Vc Go.Proofs Go.RowKit Cae
set_option maxRecDepth 100000
set_option linter.unusedSimpArgs false
set_option linter.unusedVariables false
attribute [local irreducible] wpL callK valK unitK runK Fun Sl Own vc vcOps opK pureK
set_option maxHeartbeats 4000000
attribute [local push_cast] strlit

/-- A block that bytes of a text were laid in. -/
def Byt (w : World) (b : Nat) (e : TypeId) (l : List UInt8) : Prop :=
  ∃ (cs : Array Value) (n : Nat), w.heap[b]? = some (.cells cs e (n, n + 1)) ∧ cs.size ≤ n ∧ ∀ (j : Nat) (c : UInt8), l[j]? = some c → cs[j]? = some (Value.int IntKind.u8 (c.toNat : Int))

theorem Byt.lt {w : World} {b : Nat} {e : TypeId} {l : List UInt8} (h : Byt w b e l) : b < w.heap.size := by
  obtain ⟨cs, n, h, _⟩ := h
  exact (Array.getElem?_eq_some_iff.1 h).1
theorem Byt.cell {w : World} {b : Nat} {e : TypeId} {l : List UInt8} (h : Byt w b e l) {j : Nat} {c : UInt8} (hc : l[j]? = some c) : w.cell? ⟨b, j, none⟩ = some (.int .u8 (c.toNat : Int)) := by
  obtain ⟨cs, n, h, _, hh⟩ := h
  simp [World.cell?, h, hh j c hc]
theorem Byt.kept {X : Nat → Prop} {w w' : World} {b : Nat} {e : TypeId} {l : List UInt8} (h : Byt w b e l) (hk : Kept X w w') (hX : ¬ X b) : Byt w' b e l := by
  have hlt := h.lt
  obtain ⟨cs, n, h, r⟩ := h
  exact ⟨cs, n, (hk.block b hlt hX).trans h, r⟩
theorem Byt.sl {w : World} {b cap : Nat} {e : TypeId} {l : List UInt8} (h : Byt w b e l) (hc : l.length ≤ cap) : Sl (fun _ => False) 1 (En encB) w (.slice (some ⟨b, 0, none⟩) l.length cap) l := by
  unfold Sl
  refine ⟨_, _, rfl, hc, fun i x hx => ⟨b, 0, encB x, rfl, id, rfl, fun j u hu => ?_, rfl⟩⟩
  have hj : j = 0 := by have := (List.getElem?_eq_some_iff.1 hu).1; simp [encB] at this; omega
  subst hj
  simp [encB] at hu
  subst hu
  simpa using h.cell hx

theorem bytesK {P : Program} {s d e : TypeId} {l : List UInt8} {t : Fr} {w : World} {K : VK} {Q : EP} {p} (hs : P.underlying s = some .string) (hd : P.underlying d = some (.slice e)) (he : P.underlying e = some (.int .u8))
    (kk : ∀ c w', l.length ≤ c → Byt w' w.heap.size e l → Below w.heap.size w w' → K (.slice (some ⟨w.heap.size, 0, none⟩) l.length c) w') : valK P (convert s d (str l)) t w K Q p := by
  have hr := run_bytes_of_string (P := P) w s d e ⟨l.toArray⟩ hs hd he
  have hsz : ByteArray.size ⟨l.toArray⟩ = l.length := by simp [ByteArray.size]
  refine valK_of hr ?_
  rw [hsz]
  refine kk _ _ (grownCap_ge _ _ _ _) ⟨bytesRow ⟨l.toArray⟩ (grownCap w l.length 0 e), (bytesRow ⟨l.toArray⟩ (grownCap w l.length 0 e)).size, ?_, Nat.le_refl _, fun j c hj => ?_⟩ ((Below.refl w.heap.size w).drew.alloc (Nat.le_refl _) _)
  · exact heap_alloc_new w.drew _
  · have hlt := (List.getElem?_eq_some_iff.1 hj).1
    have := bytesRow_at ⟨l.toArray⟩ (grownCap w l.length 0 e) j (by simpa using hlt)
    rw [this]
    have : l[j]? = some l[j] := List.getElem?_eq_getElem hlt
    rw [this] at hj
    cases hj
    simp

theorem storeB {b o : Nat} {e : TypeId} {l : List UInt8} {c : UInt8} {w : World} {K : VK} {other : Prop} {p} (hB : Byt w b e l) (ho : o < l.length) (kk : ∀ w', Byt w' b e (l.set o c) → Kept (· = b) w w' → K undef w') :
    storeK (some none) (.pointer (some ⟨b, o, none⟩)) (.int .u8 (c.toNat : Int)) w K other p := by
  obtain ⟨cs, n, hb, hn, hh⟩ := hB
  have hc0 : l[o]? = some l[o] := List.getElem?_eq_getElem ho
  have hcs := hh o _ hc0
  have hosz := (Array.getElem?_eq_some_iff.1 hcs).1
  refine ⟨rfl, ?_, ?_, ?_⟩
  · rw [show w.cell? ⟨b, o, none⟩ = some _ from Byt.cell ⟨cs, n, hb, hn, hh⟩ hc0]; rfl
  · simp only [World.frozen?, hb]
    simp; omega
  · rw [setCell_eq_setRow w b o _ e _ _ hb]
    refine kk _ ⟨_, n, setRow_heap w b _ _ e _ hb, by simpa using hn, fun j x hj => ?_⟩ ⟨rfl, rfl, rfl, by simp, fun k _ hk => setRow_other w b k _ hk⟩
    rw [List.getElem?_set] at hj
    rw [Array.getElem?_setIfInBounds]
    by_cases hjo : o = j
    · subst hjo
      rw [if_pos rfl, if_pos ho] at hj
      cases hj
      rw [if_pos rfl, if_pos hosz]
    · rw [if_neg hjo] at hj ⊢
      exact hh j x hj

/-- smallProgram, as the statements ask. -/
def smallProgP (p : ProgP) : Bool := decide (p.rules.length ≤ 25) && p.rules.all fun r => smallP r.before && smallP r.after

theorem smallPair_c (r : PairP) (X : Nat → Prop) (w : World) (cs : List Value) (hv : PairR X w cs r) :
    Fun Try.prog 28 [elV cs] w fun u w' => u = .bool (!(smallP r.before && smallP r.after)) ∧ Below w.heap.size w w' := by
  obtain ⟨s1, i1, s2, i2, rfl, h1, h2⟩ := hv
  show Fun _ _ [.agg #[.bool r.brk, s1, i1, s2, i2]] _ _
  refine fun_of_vc Try.func28 rfl (by kernel_rfl) [2] rfl ?_
  simp -dsimp only [push_cast, fr0, Try.ntmps28, List.length_cons, List.length_nil, Nat.reduceAdd, Nat.reduceSub, Nat.reduceBEq, List.replicate_succ, List.replicate_zero]
  refine boxK_of ?_
  intro w1 hw1
  have hw1 : New w w1 68 [.bool r.brk, s1, i1, s2, i2] := hw1
  have d1 : cellsAt w1 ⟨w.heap.size, 1, none⟩ 0 2 = some [s1, i1] := blkSome (n := 2) (xs := [s1, i1]) hw1.blk 1 rfl rfl
  simp -dsimp only [push_cast, Nat.reduceAdd, Nat.reduceLeDiff, Nat.reduceBEq, decide_true, d1]
  refine callK_of (small_c r.before X _ w1 (h1.below hw1.below)) ?_
  rintro _ w2 ⟨rfl, hb2⟩
  have sz1 := hw1.size
  have hB2 := hw1.below.trans (hb2.mono (by omega))
  have d2 : cellsAt w2 ⟨w.heap.size, 3, none⟩ 0 2 = some [s2, i2] := blkSome (n := 2) (xs := [s2, i2]) (hw1.blk.below hb2 (by omega)) 3 rfl rfl
  cases hr : smallP r.before with
  | false =>
    simp -dsimp only [push_cast, Nat.reduceAdd, Nat.reduceLeDiff, Nat.reduceBEq, decide_true, ne_eq, eq_self, not_true_eq_false, not_false_eq_true, true_imp_iff, false_imp_iff, Int.reduceNe, Int.reduceEq, Int.reduceLT, Int.reduceLE, Bool.not_true, Bool.not_false]
    exact ⟨by simp, hB2⟩
  | true =>
    simp -dsimp only [push_cast, Nat.reduceAdd, Nat.reduceLeDiff, Nat.reduceBEq, decide_true, ne_eq, eq_self, not_true_eq_false, not_false_eq_true, true_imp_iff, false_imp_iff, Int.reduceNe, Int.reduceEq, Int.reduceLT, Int.reduceLE, Bool.not_true, Bool.not_false, d2]
    refine callK_of (small_c r.after X _ w2 (h2.below hB2)) ?_
    rintro _ w3 ⟨rfl, hb3⟩
    simp -dsimp only [push_cast, Nat.reduceAdd, Nat.reduceLeDiff, Nat.reduceBEq, decide_true, ne_eq, eq_self, not_true_eq_false, not_false_eq_true, true_imp_iff, false_imp_iff, Int.reduceNe, Int.reduceEq, Int.reduceLT, Int.reduceLE, Bool.not_true, Bool.not_false]
    exact hB2.trans (hb3.mono hB2.size)

theorem smallProgram_c (p : ProgP) (X : Nat → Prop) (v : Value) (w : World) (hv : ProgV X w v p) :
    Fun Try.prog 11 [v] w fun u w' => u = .bool (smallProgP p) ∧ Below w.heap.size w w' := by
  obtain ⟨rv, rfl, hr⟩ := hv
  obtain ⟨a, c, rfl, hc⟩ := hr.shape
  refine fun_of_vc Try.func11 rfl (by kernel_rfl) [2] rfl ?_
  simp -dsimp only [push_cast, fr0, Try.ntmps11, List.length_cons, List.length_nil, Nat.reduceAdd, Nat.reduceSub, Nat.reduceBEq, List.replicate_succ, List.replicate_zero]
  refine boxK_of ?_
  intro w1 hw1
  have d0 : w1.cell? ⟨w.heap.size, 0, none⟩ = some (.slice a p.rules.length c) := hw1.cell rfl
  simp -dsimp only [push_cast, Nat.reduceAdd, Nat.reduceLeDiff, Nat.reduceBEq, decide_true, d0]
  refine ⟨fun h1 => ?_, fun h1 => ⟨by congr 1; unfold smallProgP; rw [decide_eq_false (by omega)]; rfl, hw1.below⟩⟩
  refine callK_of (pairsContains_c (PairR X w1) 28 [] (fun r => !(smallP r.before && smallP r.after)) p.rules (by omega) X _ w1 (PairsV.below hr hw1.below) ?_) ?_
  · intro r hrm cs hR _ w' hb'
    exact smallPair_c r X w' cs (hR.below hb')
  rintro _ w2 ⟨rfl, hb2⟩
  simp -dsimp only [push_cast, Nat.reduceAdd, Nat.reduceLeDiff, Nat.reduceBEq, decide_true]
  refine ⟨?_, hw1.below.trans (hb2.mono hw1.below.size)⟩
  rw [any_not]
  congr 1
  unfold smallProgP
  rw [decide_eq_true (by omega), Bool.true_and]

theorem smallP_spec {c : CodeP} (h : smallP c = true) : c.sets.length ≤ 20 ∧ c.ins.length ≤ 60 ∧ ∀ s ∈ c.sets, s.length ≤ 20 := by
  unfold smallP at h
  simp only [Bool.and_eq_true, decide_eq_true_eq, List.all_eq_true] at h
  exact ⟨h.1.1, h.1.2, h.2⟩
theorem small_len {c : CodeP} (h : smallP c = true) : CodeLen c := by
  obtain ⟨h1, h2, h3⟩ := smallP_spec h
  exact ⟨fun s hs => by have := h3 s hs; omega, by omega, by omega⟩
theorem smallProg_spec {p : ProgP} (h : smallProgP p = true) : p.rules.length ≤ 25 ∧ ∀ r ∈ p.rules, smallP r.before = true ∧ smallP r.after = true := by
  unfold smallProgP at h
  simp only [Bool.and_eq_true, decide_eq_true_eq, List.all_eq_true] at h
  exact h
theorem smallProg_len {p : ProgP} (h : smallProgP p = true) : ProgLen p := by
  obtain ⟨h1, h2⟩ := smallProg_spec h
  exact ⟨by omega, fun r hr => ⟨small_len (h2 r hr).1, small_len (h2 r hr).2⟩⟩
theorem flat_bound {α : Type} {f : α → List UInt8} {k : Nat} : ∀ (l : List α), (∀ x ∈ l, (f x).length ≤ k) → (l.flatMap f).length ≤ l.length * k
  | [], _ => by simp
  | x :: l, h => by
    have h1 := h x (by simp)
    have h2 := flat_bound l (fun y hy => h y (by simp [hy]))
    simp only [List.flatMap_cons, List.length_append, List.length_cons, Nat.add_mul]
    omega
theorem numB_five {n : Nat} (h : n < 2147483648) : (numB n).length ≤ 5 := numB_len 5 n (by omega) (by omega)
theorem small_bytes {c : CodeP} (h : smallP c = true) (hr : codeRight c = true) : (codeB c).length ≤ 5010 := by
  obtain ⟨h1, h2, h3⟩ := smallP_spec h
  have e1 : (c.sets.flatMap setB).length ≤ c.sets.length * 205 := flat_bound _ fun s hs => by
    have := flat_bound (f := rangeB) (k := 10) s (fun r hrm => by
      obtain ⟨g1, g2⟩ := range_small hr hs hrm
      have := numB_five (n := r.1.toNat) (by omega)
      have := numB_five (n := r.2.toNat) (by omega)
      simp only [rangeB, List.length_append]; omega)
    have := h3 s hs
    have := numB_five (n := s.length) (by omega)
    simp only [setB, List.length_append]; omega
  have e2 : (c.ins.flatMap insB).length ≤ c.ins.length * 15 := flat_bound _ fun x hx => by
    obtain ⟨g1, g2, g3⟩ := ins_small hr hx
    have := numB_five (n := x.op.toNat) (by omega)
    have := numB_five (n := x.a.toNat) (by omega)
    have := numB_five (n := x.b.toNat) (by omega)
    simp only [insB, List.length_append]; omega
  have := numB_five (n := c.sets.length) (by omega)
  have := numB_five (n := c.ins.length) (by omega)
  simp only [codeB, List.length_append]; omega
theorem smallProg_bytes {p : ProgP} (h : smallProgP p = true) (hr : progRight p = true) : (progB p).length < 900000 := by
  obtain ⟨h1, h2⟩ := smallProg_spec h
  obtain ⟨_, h3⟩ := progRight_spec hr
  have e1 : (p.rules.flatMap pairB).length ≤ p.rules.length * 10021 := flat_bound _ fun r hrm => by
    have := small_bytes (h2 r hrm).1 (h3 r hrm).1
    have := small_bytes (h2 r hrm).2 (h3 r hrm).2
    simp only [pairB, bitB, List.length_append, List.length_cons, List.length_nil]; omega
  have := numB_five (n := p.rules.length) (by omega)
  simp only [progB, bitB, List.length_append, List.length_cons, List.length_nil]; omega

theorem imaged_c (w : World) : Fun Try.prog 12 [] w fun r w' => r = .bool true ∧ Below w.heap.size w w' := by
  have hp0 : progRight ⟨[], true⟩ = true := by rfl
  have hw0 : writeB ⟨[], true⟩ = [1, 0, 2, 0, 4, 0] := by
    have e : progB ⟨[], true⟩ = [1, 0] := by simp [progB, bitB, numB_lt, bt]
    unfold writeB
    rw [e]
    rfl
  refine fun_of_vc Try.func12 rfl (by kernel_rfl) [0] rfl ?_
  simp -dsimp only [push_cast, fr0, Try.ntmps12, List.length_cons, List.length_nil, Nat.reduceAdd, Nat.reduceSub, Nat.reduceBEq, List.replicate_succ, List.replicate_zero]
  simp -dsimp only [push_cast, Nat.reduceAdd, Nat.reduceLeDiff, Nat.reduceBEq, decide_true]
  refine callK_of (write_c ⟨[], true⟩ ⟨by simp, by simp⟩ (fun _ => by have e : progB ⟨[], true⟩ = [1, 0] := (by simp [progB, bitB, numB_lt, bt]); rw [e]; simp) (.agg #[.slice none 0 0, .bool true]) w ⟨_, rfl, Sl.nil _ _ _ _ _ _⟩) ?_
  rintro _ w1 ⟨rfl, hb1⟩
  rw [if_pos hp0, hw0]
  simp -dsimp only [push_cast, Nat.reduceAdd, Nat.reduceLeDiff, Nat.reduceBEq, decide_true, ne_eq, eq_self, not_true_eq_false, not_false_eq_true, true_imp_iff, false_imp_iff, Int.reduceNe, Int.reduceEq, Int.reduceLT, Int.reduceLE, Bool.not_true, Bool.not_false]
  refine callK_of (sum_c [87, 105, 107, 105, 112, 101, 100, 105, 97] (by decide) w1) ?_
  rintro _ w2 ⟨rfl, rfl⟩
  have hs : ((sumP [87, 105, 107, 105, 112, 101, 100, 105, 97] : Nat) : Int) = 300286872 := by rfl
  rw [hs]
  simp -dsimp only [push_cast, Nat.reduceAdd, Nat.reduceLeDiff, Nat.reduceBEq, decide_true, ne_eq, eq_self, not_true_eq_false, not_false_eq_true, true_imp_iff, false_imp_iff, Int.reduceNe, Int.reduceEq, Int.reduceLT, Int.reduceLE, Bool.not_true, Bool.not_false]
  exact hb1

theorem xor_byte {c : UInt8} {k : Nat} (hk : k < 255) : bitop .xor .u8 (c.toNat : Int) (IntKind.u8.wrap (1 + (k : Int))) = (((c ^^^ bt (1 + k)).toNat : Nat) : Int) ∧ c ^^^ bt (1 + k) ≠ c := by
  have hc : c.toNat < 256 := c.toNat_lt
  have hb : (bt (1 + k)).toNat = 1 + k := bt_toNat (by omega)
  constructor
  · rw [show (1 + (k : Int)) = ((1 + k : Nat) : Int) by omega, wrap_u8_nat, Nat.mod_eq_of_lt (by omega), UInt8.toNat_xor, hb]
    simp only [bitop, ofInt_nat, BitVec.toNat_xor, BitVec.toNat_ofNat]
    rw [Nat.mod_eq_of_lt (show c.toNat < 2 ^ IntKind.u8.bits by show c.toNat < 2 ^ 8; omega), Nat.mod_eq_of_lt (show 1 + k < 2 ^ IntKind.u8.bits by show 1 + k < 2 ^ 8; omega), wrap_u8_nat, Nat.mod_eq_of_lt (Nat.xor_lt_two_pow (n := 8) hc (by omega))]
  · intro h
    have h2 := congrArg (fun x => c ^^^ x) h
    simp only [← UInt8.xor_assoc, UInt8.xor_self, UInt8.zero_xor] at h2
    have h3 := congrArg UInt8.toNat h2
    rw [hb] at h3
    simp at h3

theorem small_progLen {p : ProgP} (h : smallProgP p = true) : progLen p := fun r hr => by
  obtain ⟨_, h2⟩ := smallProg_spec h
  have h3 := (smallP_spec (h2 r hr).1).2.2
  have h4 := (smallP_spec (h2 r hr).2).2.2
  exact ⟨fun s hs => by have := h3 s hs; omega, fun s hs => by have := h4 s hs; omega⟩

theorem spoiltLaw_c (p : ProgP) (a b : Int) (v : Value) (w : World) (hv : ProgV (fun _ => False) w v p) :
    Fun Try.prog 4 [v, .int .i64 a, .int .i64 b] w fun r w' => r = .bool true ∧ Below w.heap.size w w' := by
  have hv0 := hv
  obtain ⟨rv, rfl, hr⟩ := hv
  refine fun_of_vc Try.func4 rfl (by kernel_rfl) [6] rfl ?_
  simp -dsimp only [push_cast, fr0, Try.ntmps4, List.length_cons, List.length_nil, Nat.reduceAdd, Nat.reduceSub, Nat.reduceBEq, List.replicate_succ, List.replicate_zero]
  refine boxK_of ?_
  intro w1 hw1
  have hw1 : New w w1 39 [rv, .bool p.els] := hw1
  have sz1 := hw1.size
  have d1 : cellsAt w1 ⟨w.heap.size, 0, none⟩ 0 2 = some [rv, .bool p.els] := hw1.blk.cellsAt
  simp -dsimp only [push_cast, Nat.reduceAdd, Nat.reduceLeDiff, Nat.reduceBEq, decide_true, d1]
  refine callK_of (smallProgram_c p (fun _ => False) _ w1 (hv0.below hw1.below)) ?_
  rintro _ w2 ⟨rfl, hb2⟩
  have sz2 := hb2.size
  have hL2 := hw1.below.trans (hb2.mono (by omega))
  cases hsm : smallProgP p with
  | false =>
    simp -dsimp only [push_cast, Nat.reduceAdd, Nat.reduceLeDiff, Nat.reduceBEq, decide_true, ne_eq, eq_self, not_true_eq_false, not_false_eq_true, true_imp_iff, false_imp_iff, Int.reduceNe, Int.reduceEq, Int.reduceLT, Int.reduceLE, Bool.not_true, Bool.not_false]
    exact hL2
  | true =>
    simp -dsimp only [push_cast, Nat.reduceAdd, Nat.reduceLeDiff, Nat.reduceBEq, decide_true, ne_eq, eq_self, not_true_eq_false, not_false_eq_true, true_imp_iff, false_imp_iff, Int.reduceNe, Int.reduceEq, Int.reduceLT, Int.reduceLE, Bool.not_true, Bool.not_false]
    refine callK_of (imaged_c w2) ?_
    rintro _ w3 ⟨rfl, hb3⟩
    have sz3 := hb3.size
    have hL3 := hL2.trans (hb3.mono hL2.size)
    have d3 : cellsAt w3 ⟨w.heap.size, 0, none⟩ 0 2 = some [rv, .bool p.els] := ((hw1.blk.below hb2 (by omega)).below hb3 (by omega)).cellsAt
    simp -dsimp only [push_cast, Nat.reduceAdd, Nat.reduceLeDiff, Nat.reduceBEq, decide_true, ne_eq, eq_self, not_true_eq_false, not_false_eq_true, true_imp_iff, false_imp_iff, Int.reduceNe, Int.reduceEq, Int.reduceLT, Int.reduceLE, Bool.not_true, Bool.not_false, d3]
    refine callK_of (write_c p (smallProg_len hsm) (fun h => by have := smallProg_bytes hsm h; omega) _ w3 (hv0.below hL3)) ?_
    rintro _ w4 ⟨rfl, hb4⟩
    have sz4 := hb4.size
    have hL4 := hL3.trans (hb4.mono hL3.size)
    cases hpr : progRight p with
    | false =>
      rw [if_neg (by simp)]
      simp -dsimp only [push_cast, Nat.reduceAdd, Nat.reduceLeDiff, Nat.reduceBEq, decide_true, ne_eq, eq_self, not_true_eq_false, not_false_eq_true, true_imp_iff, false_imp_iff, Int.reduceNe, Int.reduceEq, Int.reduceLT, Int.reduceLE, Bool.not_true, Bool.not_false]
      exact hL4
    | true =>
      rw [if_pos rfl]
      simp -dsimp only [push_cast, Nat.reduceAdd, Nat.reduceLeDiff, Nat.reduceBEq, decide_true, ne_eq, eq_self, not_true_eq_false, not_false_eq_true, true_imp_iff, false_imp_iff, Int.reduceNe, Int.reduceEq, Int.reduceLT, Int.reduceLE, Bool.not_true, Bool.not_false]
      refine ⟨fun hbig => hL4, fun hok => ?_⟩
      have hlen4 : 4 ≤ (writeB p).length := by simp [writeB, sumB]
      refine bytesK (e := 5) (by kernel_rfl) (by kernel_rfl) (by kernel_rfl) ?_
      intro cap w5 hcap hB5 hb5
      have sz5 := hb5.size
      simp -dsimp only [push_cast, Nat.reduceAdd, Nat.reduceLeDiff, Nat.reduceBEq, decide_true, ne_eq, eq_self, not_true_eq_false, not_false_eq_true, true_imp_iff, false_imp_iff, Int.reduceNe, Int.reduceEq, Int.reduceLT, Int.reduceLE, Bool.not_true, Bool.not_false]
      refine wpL_last (fun w' => Byt w' w4.heap.size 5 (writeB p)) mixed (by kernel_rfl) (List.cons_ne_nil _ _) (hB5.kept (Kept.refl (fun _ => False) _).drew id) ?_
      have hB5d : Byt w5.drew w4.heap.size 5 (writeB p) := hB5.kept (Kept.refl (fun _ => False) _).drew id
      simp -dsimp only [push_cast, Nat.reduceAdd, Nat.reduceLeDiff, Nat.reduceBEq, decide_true, ne_eq, eq_self, not_true_eq_false, not_false_eq_true, true_imp_iff, false_imp_iff, Int.reduceNe, Int.reduceEq, Int.reduceLT, Int.reduceLE, Bool.not_true, Bool.not_false]
      refine callK_of (pick_c a (writeB p).length (by omega) (by omega) w5.drew) ?_
      rintro _ w6 ⟨rfl, rfl⟩
      refine ⟨hB5d, ?_⟩
      have hpk := pickP_lt a (n := (writeB p).length) (by omega)
      obtain ⟨c, hc, _, _, _⟩ := lt_get (l := writeB p) (i := pickP a (writeB p).length) hpk
      have c6 : w5.drew.cell? ⟨w4.heap.size, pickP a (writeB p).length, none⟩ = some (.int .u8 (c.toNat : Int)) := hB5d.cell hc
      have e0 : ∀ n : Nat, 0 + n * 1 = n := fun n => by omega
      simp -dsimp only [push_cast, Nat.reduceAdd, Nat.reduceLeDiff, Nat.reduceBEq, decide_true, ne_eq, eq_self, not_true_eq_false, not_false_eq_true, true_imp_iff, false_imp_iff, Int.reduceNe, Int.reduceEq, Int.reduceLT, Int.reduceLE, Bool.not_true, Bool.not_false, c6]
      refine ⟨⟨by omega, by omega⟩, fun w'' hC => by rw [hC.cell hc]; exact rfl, ?_⟩
      refine callK_of (pick_c b 255 (by omega) (by omega) w5.drew) ?_
      rintro _ w6 ⟨rfl, rfl⟩
      refine ⟨hB5d, ?_⟩
      have hpk2 := pickP_lt b (n := 255) (by omega)
      obtain ⟨hx1, hx2⟩ := xor_byte (c := c) hpk2
      simp -dsimp only [push_cast, Nat.reduceAdd, Nat.reduceLeDiff, Nat.reduceBEq, decide_true, ne_eq, eq_self, not_true_eq_false, not_false_eq_true, true_imp_iff, false_imp_iff, Int.reduceNe, Int.reduceEq, Int.reduceLT, Int.reduceLE, Bool.not_true, Bool.not_false]
      refine ⟨⟨by omega, by omega⟩, ⟨by omega, by omega⟩, ?_⟩
      rw [hx1]
      refine storeB hB5d hpk ?_
      intro w7 hB7 hk7
      refine ⟨trivial, ?_⟩
      have hsl := hB7.sl (cap := cap) (by rw [List.length_set]; exact hcap)
      rw [List.length_set] at hsl
      simp -dsimp only [push_cast, Nat.reduceAdd, Nat.reduceLeDiff, Nat.reduceBEq, decide_true, ne_eq, eq_self, not_true_eq_false, not_false_eq_true, true_imp_iff, false_imp_iff, Int.reduceNe, Int.reduceEq, Int.reduceLT, Int.reduceLE, Bool.not_true, Bool.not_false]
      refine strK (e := 5) (by kernel_rfl) (by kernel_rfl) (by kernel_rfl) hsl ?_
      simp -dsimp only [push_cast, Nat.reduceAdd, Nat.reduceLeDiff, Nat.reduceBEq, decide_true, ne_eq, eq_self, not_true_eq_false, not_false_eq_true, true_imp_iff, false_imp_iff, Int.reduceNe, Int.reduceEq, Int.reduceLT, Int.reduceLE, Bool.not_true, Bool.not_false]
      have sz7 : w5.heap.size ≤ w7.heap.size := hk7.size
      have hL7 : Below w.heap.size w w7 := hL4.trans ((hb5.mono (by omega)).drew.trans (hk7.below (by show w.heap.size ≤ w5.heap.size; omega) (fun _ h => by omega)))
      refine callK_of (parse_c ((writeB p).set (pickP a (writeB p).length) (c ^^^ bt (1 + pickP b 255))) (by rw [List.length_set]; omega) w7) ?_
      rintro r w8 ⟨hr8, hb8⟩
      unfold Parsed at hr8
      rw [spoilt hc hx2] at hr8
      subst hr8
      simp -dsimp only [push_cast, Nat.reduceAdd, Nat.reduceLeDiff, Nat.reduceBEq, decide_true, ne_eq, eq_self, not_true_eq_false, not_false_eq_true, true_imp_iff, false_imp_iff, Int.reduceNe, Int.reduceEq, Int.reduceLT, Int.reduceLE, Bool.not_true, Bool.not_false]
      exact hL7.trans (hb8.mono hL7.size)

theorem parse_len {s : List UInt8} {q : ProgP} (h : parseP s = some q) (hs : s.length < 1000000000) : ProgLen q := by
  unfold parseP at h
  split at h
  · cases h
  · split at h
    · cases h
    · simp only at h
      split at h
      · cases h
      · simp only [Option.some.injEq] at h
        subst h
        exact rprog_lens _ (by simp only [List.length_take]; omega)

theorem backLaw_c (p : ProgP) (s : List UInt8) (v : Value) (w : World) (hv : ProgV (fun _ => False) w v p) :
    Fun Try.prog 5 [v, str s] w fun r w' => r = .bool true ∧ Below w.heap.size w w' := by
  have hv0 := hv
  obtain ⟨rv, rfl, hr⟩ := hv
  refine fun_of_vc Try.func5 rfl (by kernel_rfl) [4] rfl ?_
  simp -dsimp only [push_cast, fr0, Try.ntmps5, List.length_cons, List.length_nil, Nat.reduceAdd, Nat.reduceSub, Nat.reduceBEq, List.replicate_succ, List.replicate_zero]
  refine boxK_of ?_
  intro w1 hw1
  have hw1 : New w w1 39 [rv, .bool p.els] := hw1
  have sz1 := hw1.size
  have d1 : cellsAt w1 ⟨w.heap.size, 0, none⟩ 0 2 = some [rv, .bool p.els] := hw1.blk.cellsAt
  simp -dsimp only [push_cast, Nat.reduceAdd, Nat.reduceLeDiff, Nat.reduceBEq, decide_true, d1]
  refine callK_of (smallProgram_c p (fun _ => False) _ w1 (hv0.below hw1.below)) ?_
  rintro _ w2 ⟨rfl, hb2⟩
  have sz2 := hb2.size
  have hL2 := hw1.below.trans (hb2.mono (by omega))
  have hP2 : Blk w2 w.heap.size 39 [rv, .bool p.els] := hw1.blk.below hb2 (by omega)
  cases hsm : smallProgP p with
  | false =>
    simp -dsimp only [push_cast, Nat.reduceAdd, Nat.reduceLeDiff, Nat.reduceBEq, decide_true, ne_eq, eq_self, not_true_eq_false, not_false_eq_true, true_imp_iff, false_imp_iff, Int.reduceNe, Int.reduceEq, Int.reduceLT, Int.reduceLE, Bool.not_true, Bool.not_false]
    exact hL2
  | true =>
    simp -dsimp only [push_cast, Nat.reduceAdd, Nat.reduceLeDiff, Nat.reduceBEq, decide_true, ne_eq, eq_self, not_true_eq_false, not_false_eq_true, true_imp_iff, false_imp_iff, Int.reduceNe, Int.reduceEq, Int.reduceLT, Int.reduceLE, Bool.not_true, Bool.not_false]
    refine ⟨fun hbig => hL2, fun hok => ?_⟩
    refine callK_of (imaged_c w2) ?_
    rintro _ w3 ⟨rfl, hb3⟩
    have sz3 := hb3.size
    have hL3 := hL2.trans (hb3.mono hL2.size)
    have hP3 : Blk w3 w.heap.size 39 [rv, .bool p.els] := hP2.below hb3 (by omega)
    simp -dsimp only [push_cast, Nat.reduceAdd, Nat.reduceLeDiff, Nat.reduceBEq, decide_true, ne_eq, eq_self, not_true_eq_false, not_false_eq_true, true_imp_iff, false_imp_iff, Int.reduceNe, Int.reduceEq, Int.reduceLT, Int.reduceLE, Bool.not_true, Bool.not_false]
    refine callK_of (parse_c s (by omega) w3) ?_
    rintro r4 w4 ⟨hr4, hb4⟩
    have sz4 := hb4.size
    have hL4 := hL3.trans (hb4.mono hL3.size)
    have hP4 : Blk w4 w.heap.size 39 [rv, .bool p.els] := hP3.below hb4 (by omega)
    unfold Parsed at hr4
    cases hps : parseP s with
    | none =>
      rw [hps] at hr4
      subst hr4
      simp -dsimp only [push_cast, Nat.reduceAdd, Nat.reduceLeDiff, Nat.reduceBEq, decide_true, ne_eq, eq_self, not_true_eq_false, not_false_eq_true, true_imp_iff, false_imp_iff, Int.reduceNe, Int.reduceEq, Int.reduceLT, Int.reduceLE, Bool.not_true, Bool.not_false]
      refine allocK (z := [.slice none 0 0, .bool false]) (by kernel_rfl) ?_
      intro w5 hw5
      simp -dsimp only [push_cast, Nat.reduceAdd, Nat.reduceLeDiff, Nat.reduceBEq, decide_true, ne_eq, eq_self, not_true_eq_false, not_false_eq_true, true_imp_iff, false_imp_iff, Int.reduceNe, Int.reduceEq, Int.reduceLT, Int.reduceLE, Bool.not_true, Bool.not_false]
      refine storeAgg (n := 2) (by kernel_rfl) hw5.blk rfl (by simp) (by simp [Value.oneCell']) ?_
      intro w6 hw6
      have sz5 := hw5.size
      have hb6 : Below w4.heap.size w4 w6 := hw5.below.trans (hw6.kept.below (by omega) (fun _ h => by omega))
      have hL6 := hL4.trans (hb6.mono hL4.size)
      have hP6 := hP4.below hb6 (by omega)
      have d6 : cellsAt w6 ⟨w.heap.size, 0, none⟩ 0 2 = some [rv, .bool p.els] := hP6.cellsAt
      simp -dsimp only [push_cast, Nat.reduceAdd, Nat.reduceLeDiff, Nat.reduceBEq, decide_true, ne_eq, eq_self, not_true_eq_false, not_false_eq_true, true_imp_iff, false_imp_iff, Int.reduceNe, Int.reduceEq, Int.reduceLT, Int.reduceLE, Bool.not_true, Bool.not_false, d6]
      have szt := hL6.size
      have hlt0 : w.heap.size < w6.heap.size := Blk.lt hP6
      refine callK_of (write_c p (smallProg_len hsm) (fun h => by have := smallProg_bytes hsm h; omega) _ w6 (hv0.below hL6)) ?_
      rintro _ w8 ⟨rfl, hb8⟩
      have sz8 := hb8.size
      have hL8 := hL6.trans (hb8.mono szt)
      have hP8 := hP6.below hb8 (by omega)
      cases hpr : progRight p with
      | false =>
        rw [if_neg (by simp)]
        have d8 : cellsAt w8 ⟨w.heap.size, 0, none⟩ 0 2 = some [rv, .bool p.els] := hP8.cellsAt
        simp -dsimp only [push_cast, Nat.reduceAdd, Nat.reduceLeDiff, Nat.reduceBEq, decide_true, ne_eq, eq_self, not_true_eq_false, not_false_eq_true, true_imp_iff, false_imp_iff, Int.reduceNe, Int.reduceEq, Int.reduceLT, Int.reduceLE, Bool.not_true, Bool.not_false, d8]
        refine callK_of (rightProgram_c p (smallProg_len hsm) (fun _ => False) _ w8 (hv0.below hL8)) ?_
        rintro _ w9 ⟨rfl, hb9⟩
        rw [hpr]
        simp -dsimp only [push_cast, Nat.reduceAdd, Nat.reduceLeDiff, Nat.reduceBEq, decide_true, ne_eq, eq_self, not_true_eq_false, not_false_eq_true, true_imp_iff, false_imp_iff, Int.reduceNe, Int.reduceEq, Int.reduceLT, Int.reduceLE, Bool.not_true, Bool.not_false]
        exact hL8.trans (hb9.mono hL8.size)
      | true =>
        rw [if_pos rfl]
        simp -dsimp only [push_cast, Nat.reduceAdd, Nat.reduceLeDiff, Nat.reduceBEq, decide_true, ne_eq, eq_self, not_true_eq_false, not_false_eq_true, true_imp_iff, false_imp_iff, Int.reduceNe, Int.reduceEq, Int.reduceLT, Int.reduceLE, Bool.not_true, Bool.not_false]
        have hbyt := smallProg_bytes hsm hpr
        refine callK_of (parse_c (writeB p) (by simp only [writeB, List.length_append, sumB_len]; omega) w8) ?_
        rintro r9 w9 ⟨hr9, hb9⟩
        have sz9 := hb9.size
        have hL9 := hL8.trans (hb9.mono hL8.size)
        have hP9 := hP8.below hb9 (by omega)
        unfold Parsed at hr9
        rw [parse_write hpr (small_progLen hsm)] at hr9
        obtain ⟨v9, rfl, hp9⟩ := hr9
        obtain ⟨pv, rfl, hpr9⟩ := hp9
        have hsh9 := hpr9.shape
        obtain ⟨pa, pc, rfl, _⟩ := hsh9
        simp -dsimp only [push_cast, Nat.reduceAdd, Nat.reduceLeDiff, Nat.reduceBEq, decide_true, ne_eq, eq_self, not_true_eq_false, not_false_eq_true, true_imp_iff, false_imp_iff, Int.reduceNe, Int.reduceEq, Int.reduceLT, Int.reduceLE, Bool.not_true, Bool.not_false]
        refine allocK (z := [.slice none 0 0, .bool false]) (by kernel_rfl) ?_
        intro w10 hw10
        simp -dsimp only [push_cast, Nat.reduceAdd, Nat.reduceLeDiff, Nat.reduceBEq, decide_true, ne_eq, eq_self, not_true_eq_false, not_false_eq_true, true_imp_iff, false_imp_iff, Int.reduceNe, Int.reduceEq, Int.reduceLT, Int.reduceLE, Bool.not_true, Bool.not_false]
        refine storeAgg (n := 2) (by kernel_rfl) hw10.blk rfl (by simp) (by simp [Value.oneCell']) ?_
        intro w11 hw11
        have sz10 := hw10.size
        have hb11 : Below w9.heap.size w9 w11 := hw10.below.trans (hw11.kept.below (by omega) (fun _ h => by omega))
        have hL11 := hL9.trans (hb11.mono hL9.size)
        have hP11 := hP9.below hb11 (by omega)
        have d11 : cellsAt w11 ⟨w.heap.size, 0, none⟩ 0 2 = some [rv, .bool p.els] := hP11.cellsAt
        have e11 : cellsAt w11 ⟨w9.heap.size, 0, none⟩ 0 2 = some [.slice pa p.rules.length pc, .bool p.els] := hw11.blk.cellsAt
        simp -dsimp only [push_cast, Nat.reduceAdd, Nat.reduceLeDiff, Nat.reduceBEq, decide_true, ne_eq, eq_self, not_true_eq_false, not_false_eq_true, true_imp_iff, false_imp_iff, Int.reduceNe, Int.reduceEq, Int.reduceLT, Int.reduceLE, Bool.not_true, Bool.not_false, d11, e11]
        refine callK_of (alike_c p (smallProg_len hsm) _ (fun _ => False) _ _ w11 (ProgV.below ⟨_, rfl, hpr9⟩ hb11) (hv0.below hL11)) ?_
        rintro _ w12 ⟨rfl, hb12⟩
        simp -dsimp only [push_cast, Nat.reduceAdd, Nat.reduceLeDiff, Nat.reduceBEq, decide_true, ne_eq, eq_self, not_true_eq_false, not_false_eq_true, true_imp_iff, false_imp_iff, Int.reduceNe, Int.reduceEq, Int.reduceLT, Int.reduceLE, Bool.not_true, Bool.not_false]
        exact hL11.trans (hb12.mono hL11.size)
    | some q =>
      rw [hps] at hr4
      obtain ⟨v4, rfl, hq⟩ := hr4
      obtain ⟨qv, rfl, hqr⟩ := hq
      have hqlen := parse_len hps (by omega)
      obtain ⟨hqright, hqs⟩ := write_parse hps
      have hsh := hqr.shape
      obtain ⟨qa, qc, rfl, _⟩ := hsh
      simp -dsimp only [push_cast, Nat.reduceAdd, Nat.reduceLeDiff, Nat.reduceBEq, decide_true, ne_eq, eq_self, not_true_eq_false, not_false_eq_true, true_imp_iff, false_imp_iff, Int.reduceNe, Int.reduceEq, Int.reduceLT, Int.reduceLE, Bool.not_true, Bool.not_false]
      refine allocK (z := [.slice none 0 0, .bool false]) (by kernel_rfl) ?_
      intro w5 hw5
      simp -dsimp only [push_cast, Nat.reduceAdd, Nat.reduceLeDiff, Nat.reduceBEq, decide_true, ne_eq, eq_self, not_true_eq_false, not_false_eq_true, true_imp_iff, false_imp_iff, Int.reduceNe, Int.reduceEq, Int.reduceLT, Int.reduceLE, Bool.not_true, Bool.not_false]
      refine storeAgg (n := 2) (by kernel_rfl) hw5.blk rfl (by simp) (by simp [Value.oneCell']) ?_
      intro w6 hw6
      have sz5 := hw5.size
      have hb6 : Below w4.heap.size w4 w6 := hw5.below.trans (hw6.kept.below (by omega) (fun _ h => by omega))
      have hL6 := hL4.trans (hb6.mono hL4.size)
      have hP6 := hP4.below hb6 (by omega)
      have e6 : cellsAt w6 ⟨w4.heap.size, 0, none⟩ 0 2 = some [.slice qa q.rules.length qc, .bool q.els] := hw6.blk.cellsAt
      simp -dsimp only [push_cast, Nat.reduceAdd, Nat.reduceLeDiff, Nat.reduceBEq, decide_true, ne_eq, eq_self, not_true_eq_false, not_false_eq_true, true_imp_iff, false_imp_iff, Int.reduceNe, Int.reduceEq, Int.reduceLT, Int.reduceLE, Bool.not_true, Bool.not_false, e6]
      have hq6 : ProgV (fun _ => False) w6 (.agg #[.slice qa q.rules.length qc, .bool q.els]) q := (ProgV.below ⟨_, rfl, hqr⟩ hb6).mono (fun _ _ _ => rfl) (fun _ h => h.elim)
      refine callK_of (write_c q hqlen (fun _ => by have := congrArg List.length hqs; simp only [writeB, List.length_append, sumB_len] at this; omega) _ w6 hq6) ?_
      rintro _ w7 ⟨rfl, hb7⟩
      rw [if_pos hqright, hqs]
      have sz7 := hb7.size
      have sz6 := hb6.size
      have hL7 := hL6.trans (hb7.mono hL6.size)
      have hP7 := hP6.below hb7 (by omega)
      have d7 : cellsAt w7 ⟨w.heap.size, 0, none⟩ 0 2 = some [rv, .bool p.els] := hP7.cellsAt
      simp -dsimp only [push_cast, Nat.reduceAdd, Nat.reduceLeDiff, Nat.reduceBEq, decide_true, ne_eq, eq_self, not_true_eq_false, not_false_eq_true, true_imp_iff, false_imp_iff, Int.reduceNe, Int.reduceEq, Int.reduceLT, Int.reduceLE, Bool.not_true, Bool.not_false, d7]
      have szt := hL7.size
      have hlt0 : w.heap.size < w7.heap.size := Blk.lt hP7
      refine callK_of (write_c p (smallProg_len hsm) (fun h => by have := smallProg_bytes hsm h; omega) _ w7 (hv0.below hL7)) ?_
      rintro _ w8 ⟨rfl, hb8⟩
      have sz8 := hb8.size
      have hL8 := hL7.trans (hb8.mono szt)
      have hP8 := hP7.below hb8 (by omega)
      cases hpr : progRight p with
      | false =>
        rw [if_neg (by simp)]
        have d8 : cellsAt w8 ⟨w.heap.size, 0, none⟩ 0 2 = some [rv, .bool p.els] := hP8.cellsAt
        simp -dsimp only [push_cast, Nat.reduceAdd, Nat.reduceLeDiff, Nat.reduceBEq, decide_true, ne_eq, eq_self, not_true_eq_false, not_false_eq_true, true_imp_iff, false_imp_iff, Int.reduceNe, Int.reduceEq, Int.reduceLT, Int.reduceLE, Bool.not_true, Bool.not_false, d8]
        refine callK_of (rightProgram_c p (smallProg_len hsm) (fun _ => False) _ w8 (hv0.below hL8)) ?_
        rintro _ w9 ⟨rfl, hb9⟩
        rw [hpr]
        simp -dsimp only [push_cast, Nat.reduceAdd, Nat.reduceLeDiff, Nat.reduceBEq, decide_true, ne_eq, eq_self, not_true_eq_false, not_false_eq_true, true_imp_iff, false_imp_iff, Int.reduceNe, Int.reduceEq, Int.reduceLT, Int.reduceLE, Bool.not_true, Bool.not_false]
        exact hL8.trans (hb9.mono hL8.size)
      | true =>
        rw [if_pos rfl]
        simp -dsimp only [push_cast, Nat.reduceAdd, Nat.reduceLeDiff, Nat.reduceBEq, decide_true, ne_eq, eq_self, not_true_eq_false, not_false_eq_true, true_imp_iff, false_imp_iff, Int.reduceNe, Int.reduceEq, Int.reduceLT, Int.reduceLE, Bool.not_true, Bool.not_false]
        have hbyt := smallProg_bytes hsm hpr
        refine callK_of (parse_c (writeB p) (by simp only [writeB, List.length_append, sumB_len]; omega) w8) ?_
        rintro r9 w9 ⟨hr9, hb9⟩
        have sz9 := hb9.size
        have hL9 := hL8.trans (hb9.mono hL8.size)
        have hP9 := hP8.below hb9 (by omega)
        unfold Parsed at hr9
        rw [parse_write hpr (small_progLen hsm)] at hr9
        obtain ⟨v9, rfl, hp9⟩ := hr9
        obtain ⟨pv, rfl, hpr9⟩ := hp9
        have hsh9 := hpr9.shape
        obtain ⟨pa, pc, rfl, _⟩ := hsh9
        simp -dsimp only [push_cast, Nat.reduceAdd, Nat.reduceLeDiff, Nat.reduceBEq, decide_true, ne_eq, eq_self, not_true_eq_false, not_false_eq_true, true_imp_iff, false_imp_iff, Int.reduceNe, Int.reduceEq, Int.reduceLT, Int.reduceLE, Bool.not_true, Bool.not_false]
        refine allocK (z := [.slice none 0 0, .bool false]) (by kernel_rfl) ?_
        intro w10 hw10
        simp -dsimp only [push_cast, Nat.reduceAdd, Nat.reduceLeDiff, Nat.reduceBEq, decide_true, ne_eq, eq_self, not_true_eq_false, not_false_eq_true, true_imp_iff, false_imp_iff, Int.reduceNe, Int.reduceEq, Int.reduceLT, Int.reduceLE, Bool.not_true, Bool.not_false]
        refine storeAgg (n := 2) (by kernel_rfl) hw10.blk rfl (by simp) (by simp [Value.oneCell']) ?_
        intro w11 hw11
        have sz10 := hw10.size
        have hb11 : Below w9.heap.size w9 w11 := hw10.below.trans (hw11.kept.below (by omega) (fun _ h => by omega))
        have hL11 := hL9.trans (hb11.mono hL9.size)
        have hP11 := hP9.below hb11 (by omega)
        have d11 : cellsAt w11 ⟨w.heap.size, 0, none⟩ 0 2 = some [rv, .bool p.els] := hP11.cellsAt
        have e11 : cellsAt w11 ⟨w9.heap.size, 0, none⟩ 0 2 = some [.slice pa p.rules.length pc, .bool p.els] := hw11.blk.cellsAt
        simp -dsimp only [push_cast, Nat.reduceAdd, Nat.reduceLeDiff, Nat.reduceBEq, decide_true, ne_eq, eq_self, not_true_eq_false, not_false_eq_true, true_imp_iff, false_imp_iff, Int.reduceNe, Int.reduceEq, Int.reduceLT, Int.reduceLE, Bool.not_true, Bool.not_false, d11, e11]
        refine callK_of (alike_c p (smallProg_len hsm) _ (fun _ => False) _ _ w11 (ProgV.below ⟨_, rfl, hpr9⟩ hb11) (hv0.below hL11)) ?_
        rintro _ w12 ⟨rfl, hb12⟩
        simp -dsimp only [push_cast, Nat.reduceAdd, Nat.reduceLeDiff, Nat.reduceBEq, decide_true, ne_eq, eq_self, not_true_eq_false, not_false_eq_true, true_imp_iff, false_imp_iff, Int.reduceNe, Int.reduceEq, Int.reduceLT, Int.reduceLE, Bool.not_true, Bool.not_false]
        exact hL11.trans (hb12.mono hL11.size)
end Go.Proofs.Ytnfmbobpagamhaa
