import Derived.Test.YtimjpijbcnjaaaaDoorImg2
namespace Go.Proofs.YtimjpijbcnjaaaaDoor
open Go.Vc Go.Proofs Go.RowKit Cae
set_option maxRecDepth 100000
set_option linter.unusedSimpArgs false
set_option linter.unusedVariables false
attribute [local irreducible] wpL callK valK unitK runK Fun Sl Own vc vcOps opK pureK
set_option maxHeartbeats 4000000

/-- Lengths that the model's numbers hold. -/
def CodeLen (c : CodeP) : Prop := SetsLen c ∧ c.ins.length < 1000000000 ∧ c.sets.length < 1000000000
def ProgLen (p : ProgP) : Prop := p.rules.length < 1000000000 ∧ ∀ r ∈ p.rules, CodeLen r.before ∧ CodeLen r.after

/-- A pair, and a program, as they lie in memory. -/
def PairR (X : Nat → Prop) (w : World) : List Value → PairP → Prop := fun cs r => ∃ s1 i1 s2 i2, cs = [.bool r.brk, s1, i1, s2, i2] ∧ CodeV X w (.agg #[s1, i1]) r.before ∧ CodeV X w (.agg #[s2, i2]) r.after
def ProgV (X : Nat → Prop) (w : World) (v : Value) (p : ProgP) : Prop := ∃ rv, v = .agg #[rv, .bool p.els] ∧ Sl X 5 (PairR X w) w rv p.rules

theorem PairR.mono {X X' : Nat → Prop} {w w' : World} {cs : List Value} {r : PairP} (h : PairR X w cs r) (hs : ∀ b, ¬ X b → b < w.heap.size → w'.heap[b]? = w.heap[b]?) (hX : ∀ b, X' b → X b) : PairR X' w' cs r := by
  obtain ⟨s1, i1, s2, i2, rfl, h1, h2⟩ := h
  exact ⟨s1, i1, s2, i2, rfl, h1.mono hs hX, h2.mono hs hX⟩
theorem PairsV.mono {X X' : Nat → Prop} {w w' : World} {v : Value} {l : List PairP} (h : Sl X 5 (PairR X w) w v l) (hs : ∀ b, ¬ X b → b < w.heap.size → w'.heap[b]? = w.heap[b]?) (hX : ∀ b, X' b → X b) : Sl X' 5 (PairR X' w') w' v l :=
  Sl.mono h hs (fun _ _ _ h => h.mono hs hX) hX
theorem ProgV.mono {X X' : Nat → Prop} {w w' : World} {v : Value} {p : ProgP} (h : ProgV X w v p) (hs : ∀ b, ¬ X b → b < w.heap.size → w'.heap[b]? = w.heap[b]?) (hX : ∀ b, X' b → X b) : ProgV X' w' v p := by
  obtain ⟨rv, rfl, h⟩ := h
  exact ⟨rv, rfl, PairsV.mono h hs hX⟩
theorem PairsV.below {X : Nat → Prop} {w w' : World} {v : Value} {l : List PairP} (h : Sl X 5 (PairR X w) w v l) (hb : Below w.heap.size w w') : Sl X 5 (PairR X w') w' v l := PairsV.mono h (fun b _ hlt => hb.block b hlt) (fun _ h => h)
theorem PairR.below {X : Nat → Prop} {w w' : World} {cs : List Value} {r : PairP} (h : PairR X w cs r) (hb : Below w.heap.size w w') : PairR X w' cs r := h.mono (fun b _ hlt => hb.block b hlt) (fun _ h => h)
theorem ProgV.below {X : Nat → Prop} {w w' : World} {v : Value} {p : ProgP} (h : ProgV X w v p) (hb : Below w.heap.size w w') : ProgV X w' v p := h.mono (fun b _ hlt => hb.block b hlt) (fun _ h => h)
theorem PairsV.kept {X Y : Nat → Prop} {w w' : World} {v : Value} {l : List PairP} (h : Sl X 5 (PairR X w) w v l) (hb : Kept Y w w') (hY : ∀ i, Y i → X i) : Sl X 5 (PairR X w') w' v l := PairsV.mono h (fun b hx hlt => hb.block b hlt fun hh => hx (hY b hh)) (fun _ h => h)

/-- What is read lies in blocks that are there. -/
theorem Sl.narrow {α : Type} {X X' : Nat → Prop} {k : Nat} {R R' : List Value → α → Prop} {w : World} {v : Value} {l : List α} (h : Sl X k R w v l) (hk : 0 < k) (hR : ∀ cs x, R cs x → R' cs x) (hX : ∀ b, b < w.heap.size → X' b → X b) : Sl X' k R' w v l := by
  unfold Sl at h ⊢
  obtain ⟨a, c, he, hc, h⟩ := h
  refine ⟨a, c, he, hc, fun i x hx => ?_⟩
  obtain ⟨b, o, cs, ha, hb, hcs, hcell, hr⟩ := h i x hx
  have h0 := hcell 0 cs[0] (List.getElem?_eq_getElem (by omega))
  exact ⟨b, o, cs, ha, fun hh => hb (hX b (World.block_lt_of_cell? w _ h0) hh), hcs, hcell, hR _ _ hr⟩
theorem CodeV.narrow {X X' : Nat → Prop} {w : World} {v : Value} {c : CodeP} (h : CodeV X w v c) (hX : ∀ b, b < w.heap.size → X' b → X b) : CodeV X' w v c := by
  obtain ⟨sv, iv, rfl, h1, h2⟩ := h
  refine ⟨sv, iv, rfl, Sl.narrow h1 (by omega) (fun cs x hx => ?_) hX, Sl.narrow h2 (by omega) (fun _ _ h => h) hX⟩
  obtain ⟨u, rfl, hu⟩ := hx
  exact ⟨u, rfl, Sl.narrow hu (by omega) (fun _ _ h => h) hX⟩
theorem PairR.narrow {X X' : Nat → Prop} {w : World} {cs : List Value} {r : PairP} (h : PairR X w cs r) (hX : ∀ b, b < w.heap.size → X' b → X b) : PairR X' w cs r := by
  obtain ⟨s1, i1, s2, i2, rfl, h1, h2⟩ := h
  exact ⟨s1, i1, s2, i2, rfl, h1.narrow hX, h2.narrow hX⟩
theorem ProgV.narrow {X X' : Nat → Prop} {w : World} {v : Value} {p : ProgP} (h : ProgV X w v p) (hX : ∀ b, b < w.heap.size → X' b → X b) : ProgV X' w v p := by
  obtain ⟨rv, rfl, h⟩ := h
  exact ⟨rv, rfl, Sl.narrow h (by omega) (fun _ _ h => h.narrow hX) hX⟩

/-- Some cells of a block. -/
theorem blkSome {w : World} {b n : Nat} {e : TypeId} {cs xs : List Value} (h : Blk w b e cs) (o : Nat) (hx : (cs.drop o).take n = xs) (hn : xs.length = n) : cellsAt w ⟨b, o, none⟩ 0 n = some xs := by
  subst hn
  refine cellsAt_of xs 0 fun j u hu => ?_
  rw [Nat.zero_add]
  refine h.cell ?_
  rw [← hx] at hu
  have := (List.getElem?_eq_some_iff.1 hu).1
  rw [List.length_take] at this
  rw [List.getElem?_take_of_lt (by omega), List.getElem?_drop] at hu
  exact hu

theorem pairsIndex_c {α : Type} (R : List Value → α → Prop) (g : FuncId) (cap : List Value) (f : α → Bool) (l : List α) (hl : l.length < 1000000000) (X : Nat → Prop) (v : Value) (w : World) (hv : Sl X 5 R w v l)
    (hf : ∀ x ∈ l, ∀ cs, R cs x → cs.length = 5 → ∀ w', Below w.heap.size w w' → Fun Tryd.prog g (elV cs :: cap) w' fun r w'' => r = .bool (f x) ∧ Below w'.heap.size w' w'') :
    Fun Tryd.prog 87 [v, .func (.func g) #[] cap.toArray] w fun r w' => (∃ n : Int, r = .int .i64 n ∧ (0 ≤ n ↔ l.any f = true)) ∧ Below w.heap.size w w' := by
  obtain ⟨a, c, rfl, hc⟩ := hv.shape
  refine fun_of_vc Tryd.func87 rfl (by kernel_rfl) [4] rfl ?_
  simp -dsimp only [push_cast, fr0, Tryd.ntmps87, List.length_cons, List.length_nil, Nat.reduceAdd, Nat.reduceSub, Nat.reduceBEq, List.replicate_succ, List.replicate_zero]
  refine wpL_loop [4, 5, 8, 9, 10, 11, 12, 13, 14, 15, 16, 17, 18] (fun z wx => ∃ (i : Nat), z 8 = .int .i64 i ∧ i ≤ l.length ∧ (∀ x ∈ l.take i, f x = false) ∧ Below w.heap.size w wx) (fun z _ => l.length - (intOf (z 8)).toNat) ?_ ?_
  · exact ⟨0, rfl, Nat.zero_le _, by simp, Below.refl _ _⟩
  · intro z wx hI
    obtain ⟨i, h8, hi, hok, hb⟩ := hI
    simp -dsimp only [push_cast, Nat.reduceAdd, Nat.reduceLeDiff, Nat.reduceBEq, decide_true, h8]
    refine ⟨fun hlt => ?_, fun hge => ?_⟩
    · obtain ⟨x, hx, hxm, hd, ht⟩ := lt_get (l := l) (i := i) (by omega)
      obtain ⟨b, o, cs, ha, hX, hk, hcell, hR⟩ := (hv.below hb).getR hx
      subst ha
      obtain ⟨u0, u1, u2, u3, u4, rfl⟩ : ∃ u0 u1 u2 u3 u4, cs = [u0, u1, u2, u3, u4] := (match cs, hk with | [u0, u1, u2, u3, u4], _ => ⟨u0, u1, u2, u3, u4, rfl⟩); have c0 : cellsAt wx ⟨b, o + i * 5, none⟩ 0 5 = some [u0, u1, u2, u3, u4] := (cellsAt_of [u0, u1, u2, u3, u4] 0 (fun j u hu => by simpa using hcell j u hu)); simp -dsimp only [push_cast, Nat.reduceAdd, Nat.reduceLeDiff, Nat.reduceBEq, decide_true, c0]
      refine ⟨⟨by omega, by omega⟩, ?_⟩
      refine callK_of (hf x hxm _ hR rfl wx hb) ?_
      rintro _ w1 ⟨rfl, hb1⟩
      have hB1 := hb.trans (hb1.mono hb.size)
      simp -dsimp only [push_cast, Nat.reduceAdd, Nat.reduceLeDiff, Nat.reduceBEq, decide_true, condK_b]
      refine ⟨fun hyes => ?_, fun hno => ?_⟩
      · exact ⟨⟨i, rfl, ⟨fun _ => List.any_eq_true.2 ⟨x, hxm, hyes⟩, fun _ => by omega⟩⟩, hB1⟩
      · refine ⟨⟨by omega, by omega⟩, ⟨i + 1, rfl, by omega, ?_, hB1⟩, by rw [h8]; simp only [intOf]; omega⟩
        intro y hy
        rw [ht, List.mem_append, List.mem_singleton] at hy
        rcases hy with hy | rfl
        · exact hok y hy
        · exact hno
    · refine ⟨⟨-1, rfl, ?_⟩, hb⟩
      rw [List.take_of_length_le (by omega)] at hok
      constructor
      · intro h; omega
      · intro h
        obtain ⟨x, hx, hn⟩ := List.any_eq_true.1 h
        rw [hok x hx] at hn; cases hn

theorem pairsContains_c {α : Type} (R : List Value → α → Prop) (g : FuncId) (cap : List Value) (f : α → Bool) (l : List α) (hl : l.length < 1000000000) (X : Nat → Prop) (v : Value) (w : World) (hv : Sl X 5 R w v l)
    (hf : ∀ x ∈ l, ∀ cs, R cs x → cs.length = 5 → ∀ w', Below w.heap.size w w' → Fun Tryd.prog g (elV cs :: cap) w' fun r w'' => r = .bool (f x) ∧ Below w'.heap.size w' w'') :
    Fun Tryd.prog 56 [v, .func (.func g) #[] cap.toArray] w fun r w' => r = .bool (l.any f) ∧ Below w.heap.size w w' := by
  refine fun_of_vc Tryd.func56 rfl (by kernel_rfl) [4] rfl ?_
  simp -dsimp only [push_cast, fr0, Tryd.ntmps56, List.length_cons, List.length_nil, Nat.reduceAdd, Nat.reduceSub, Nat.reduceBEq, List.replicate_succ, List.replicate_zero]
  refine callK_of (pairsIndex_c R g cap f l hl X v w hv hf) ?_
  rintro r w1 ⟨⟨n, rfl, hn⟩, hb⟩
  simp -dsimp only [push_cast, Nat.reduceAdd, Nat.reduceLeDiff, Nat.reduceBEq, decide_true]
  refine ⟨?_, hb⟩
  congr 1
  cases h : l.any f with
  | true => rw [h] at hn; exact decide_eq_true (hn.2 rfl)
  | false => rw [h] at hn; exact decide_eq_false (fun h0 => by have := hn.1 h0; cases this)

theorem rightPair_c (r : PairP) (hl : CodeLen r.before ∧ CodeLen r.after) (X : Nat → Prop) (w : World) (cs : List Value) (hv : PairR X w cs r) :
    Fun Tryd.prog 57 [elV cs] w fun u w' => u = .bool (!(codeRight r.before && codeRight r.after)) ∧ Below w.heap.size w w' := by
  obtain ⟨s1, i1, s2, i2, rfl, h1, h2⟩ := hv
  show Fun _ _ [.agg #[.bool r.brk, s1, i1, s2, i2]] _ _
  refine fun_of_vc Tryd.func57 rfl (by kernel_rfl) [2] rfl ?_
  simp -dsimp only [push_cast, fr0, Tryd.ntmps57, List.length_cons, List.length_nil, Nat.reduceAdd, Nat.reduceSub, Nat.reduceBEq, List.replicate_succ, List.replicate_zero]
  refine boxK_of ?_
  intro w1 hw1
  have hcs : cellsL (.agg #[.bool r.brk, s1, i1, s2, i2]) = [.bool r.brk, s1, i1, s2, i2] := rfl
  rw [hcs] at hw1
  have d1 : cellsAt w1 ⟨w.heap.size, 1, none⟩ 0 2 = some [s1, i1] := blkSome (n := 2) (xs := [s1, i1]) hw1.blk 1 rfl rfl
  simp -dsimp only [push_cast, Nat.reduceAdd, Nat.reduceLeDiff, Nat.reduceBEq, decide_true, d1]
  refine callK_of (Right_c r.before hl.1.1 hl.1.2.1 hl.1.2.2 X _ w1 (h1.below hw1.below)) ?_
  rintro _ w2 ⟨rfl, hb2⟩
  have sz1 := hw1.size
  have hB2 := hw1.below.trans (hb2.mono (by omega))
  have d2 : cellsAt w2 ⟨w.heap.size, 3, none⟩ 0 2 = some [s2, i2] := blkSome (n := 2) (xs := [s2, i2]) (hw1.blk.below hb2 (by omega)) 3 rfl rfl
  cases hr : codeRight r.before with
  | false =>
    simp -dsimp only [push_cast, Nat.reduceAdd, Nat.reduceLeDiff, Nat.reduceBEq, decide_true, ne_eq, eq_self, not_true_eq_false, not_false_eq_true, true_imp_iff, false_imp_iff, Int.reduceNe, Int.reduceEq, Int.reduceLT, Int.reduceLE, Bool.not_true, Bool.not_false]
    exact ⟨by simp, hB2⟩
  | true =>
    simp -dsimp only [push_cast, Nat.reduceAdd, Nat.reduceLeDiff, Nat.reduceBEq, decide_true, ne_eq, eq_self, not_true_eq_false, not_false_eq_true, true_imp_iff, false_imp_iff, Int.reduceNe, Int.reduceEq, Int.reduceLT, Int.reduceLE, Bool.not_true, Bool.not_false, d2]
    refine callK_of (Right_c r.after hl.2.1 hl.2.2.1 hl.2.2.2 X _ w2 (h2.below hB2)) ?_
    rintro _ w3 ⟨rfl, hb3⟩
    simp -dsimp only [push_cast, Nat.reduceAdd, Nat.reduceLeDiff, Nat.reduceBEq, decide_true, ne_eq, eq_self, not_true_eq_false, not_false_eq_true, true_imp_iff, false_imp_iff, Int.reduceNe, Int.reduceEq, Int.reduceLT, Int.reduceLE, Bool.not_true, Bool.not_false]
    exact hB2.trans (hb3.mono hB2.size)

theorem rightProgram_c (p : ProgP) (hl : ProgLen p) (X : Nat → Prop) (v : Value) (w : World) (hv : ProgV X w v p) :
    Fun Tryd.prog 21 [v] w fun u w' => u = .bool (progRight p) ∧ Below w.heap.size w w' := by
  obtain ⟨rv, rfl, hr⟩ := hv
  obtain ⟨a, c, rfl, hc⟩ := hr.shape
  refine fun_of_vc Tryd.func21 rfl (by kernel_rfl) [2] rfl ?_
  simp -dsimp only [push_cast, fr0, Tryd.ntmps21, List.length_cons, List.length_nil, Nat.reduceAdd, Nat.reduceSub, Nat.reduceBEq, List.replicate_succ, List.replicate_zero]
  refine boxK_of ?_
  intro w1 hw1
  have d0 : w1.cell? ⟨w.heap.size, 0, none⟩ = some (.slice a p.rules.length c) := hw1.cell rfl
  simp -dsimp only [push_cast, Nat.reduceAdd, Nat.reduceLeDiff, Nat.reduceBEq, decide_true, d0]
  refine ⟨fun h1 => ?_, fun h1 => ⟨by congr 1; unfold progRight; rw [decide_eq_false (by omega)]; rfl, hw1.below⟩⟩
  refine callK_of (pairsContains_c (PairR X w1) 57 [] (fun r => !(codeRight r.before && codeRight r.after)) p.rules (by omega) X _ w1 (PairsV.below hr hw1.below) ?_) ?_
  · intro r hrm cs hR _ w' hb'
    exact rightPair_c r (hl.2 r hrm) X w' cs (hR.below hb')
  rintro _ w2 ⟨rfl, hb2⟩
  simp -dsimp only [push_cast, Nat.reduceAdd, Nat.reduceLeDiff, Nat.reduceBEq, decide_true]
  refine ⟨?_, hw1.below.trans (hb2.mono hw1.below.size)⟩
  rw [any_not]
  congr 1
  unfold progRight
  rw [decide_eq_true (by omega), Bool.true_and]

theorem sum_byte {u k : Nat} {b : Int} (hu : u < 4294967296) (hk : b.toNat = k) (hb : k ≤ 32) : IntKind.u8.wrap ((u : Int).fdiv (2 ^ min b.toNat IntKind.u32.bits)) = (((bt (u / 2 ^ k % 256)).toNat : Nat) : Int) := by
  have e : ((u : Int).fdiv (2 ^ min b.toNat IntKind.u32.bits)) = ((u / 2 ^ k : Nat) : Int) := shr_nat hk hb
  rw [e, wrap_u8_nat, bt_toNat (by omega)]

theorem write_c (p : ProgP) (hl : ProgLen p) (hsz : progRight p = true → (progB p).length < 900000000) (v : Value) (w : World) (hv : ProgV (fun _ => False) w v p) :
    Fun Tryd.prog 33 [v] w fun r w' => r = (if progRight p = true then .tuple #[str (writeB p), .nilIface] else .tuple #[str [], .iface 33 (.int .i64 1)]) ∧ Below w.heap.size w w' := by
  have hvn : ProgV (fun j => w.heap.size ≤ j) w v p := hv.narrow fun b hb hh => by omega
  obtain ⟨rv, rfl, hr⟩ := hvn
  obtain ⟨a, c, rfl, hc⟩ := hr.shape
  have hpl : (progB p).length = 1 + (numB p.rules.length).length + (p.rules.flatMap pairB).length := by simp only [progB, bitB, List.length_append, List.length_cons, List.length_nil]
  refine fun_of_vc Tryd.func33 rfl (by kernel_rfl) [2, 3] rfl ?_
  simp -dsimp only [push_cast, fr0, Tryd.ntmps33, List.length_cons, List.length_nil, Nat.reduceAdd, Nat.reduceSub, Nat.reduceBEq, List.replicate_succ, List.replicate_zero]
  refine boxK_of ?_
  intro w1 hw1
  have hcs : cellsL (.agg #[.slice a p.rules.length c, .bool p.els]) = [.slice a p.rules.length c, .bool p.els] := rfl
  rw [hcs] at hw1
  have sz1 := hw1.size
  have d1 : cellsAt w1 ⟨w.heap.size, 0, none⟩ 0 2 = some [.slice a p.rules.length c, .bool p.els] := hw1.blk.cellsAt
  simp -dsimp only [push_cast, Nat.reduceAdd, Nat.reduceLeDiff, Nat.reduceBEq, decide_true, d1]
  refine callK_of (rightProgram_c p hl (fun _ => False) _ w1 (hv.below hw1.below)) ?_
  rintro _ w2 ⟨rfl, hb2⟩
  have sz2 := hb2.size
  have hB2 := hw1.below.trans (hb2.mono (by omega))
  have hP2 : Blk w2 w.heap.size 43 [.slice a p.rules.length c, .bool p.els] := hw1.blk.below hb2 (by omega)
  cases hpr : progRight p with
  | false =>
    simp -dsimp only [push_cast, Nat.reduceAdd, Nat.reduceLeDiff, Nat.reduceBEq, decide_true, ne_eq, eq_self, not_true_eq_false, not_false_eq_true, true_imp_iff, false_imp_iff, Int.reduceNe, Int.reduceEq, Int.reduceLT, Int.reduceLE, Bool.not_true, Bool.not_false]
    exact ⟨rfl, hB2⟩
  | true =>
    have hsz := hsz hpr
    simp -dsimp only [push_cast, Nat.reduceAdd, Nat.reduceLeDiff, Nat.reduceBEq, decide_true, ne_eq, eq_self, not_true_eq_false, not_false_eq_true, true_imp_iff, false_imp_iff, Int.reduceNe, Int.reduceEq, Int.reduceLT, Int.reduceLE, Bool.not_true, Bool.not_false]
    obtain ⟨hpr1, hpr2⟩ := progRight_spec hpr
    refine wpL_draw (fun w' => Blk w' w.heap.size 43 [.slice a p.rules.length c, .bool p.els]) mixed (by kernel_rfl) hP2.drew ?_
    have f1 : w2.drew.cell? ⟨w.heap.size, 1, none⟩ = some (.bool p.els) := hP2.drew.cell rfl
    simp -dsimp only [push_cast, Nat.reduceAdd, Nat.reduceLeDiff, Nat.reduceBEq, decide_true, f1]
    refine ⟨fun w'' hC => by rw [hC.cell (o := 1) rfl]; exact rfl, ?_⟩
    refine callK_of (bit_c w.heap.size p.els [] (by simp) _ w2.drew (Own.nil (enc := encB) _ _ (fun _ => rfl) _) hB2.size) ?_
    rintro v3 w3 ⟨ho3, hg3⟩
    have hP3 := hP2.drew.kept hg3.1 (by simp [Value.ownBlock])
    have hap3 : v3.ownBlock ≠ some w.heap.size := hg3.apart (by show w.heap.size < w2.heap.size; omega) (by simp [Value.ownBlock])
    have sz3 : w2.heap.size ≤ w3.heap.size := hg3.1.size
    have hB3 : Below w.heap.size w w3 := hB2.drew.trans (hg3.below (Own.nil (enc := encB) w.heap.size 5 (k := 1) (fun _ => rfl) w2.drew) hB2.size)
    refine ⟨hP3, ?_⟩
    have f3 : w3.cell? ⟨w.heap.size, 0, none⟩ = some (.slice a p.rules.length c) := hP3.cell rfl
    simp -dsimp only [push_cast, Nat.reduceAdd, Nat.reduceLeDiff, Nat.reduceBEq, decide_true, f3]
    refine ⟨fun w'' hC => by rw [hC.cell (o := 0) rfl]; exact rfl, ?_⟩
    refine callK_of (number_c w.heap.size p.rules.length _ (by omega) (by simp only [bitB, List.nil_append, List.length_cons, List.length_nil]; omega) v3 w3 ho3 (by omega)) ?_
    rintro v4 w4 ⟨ho4, hg4⟩
    have hP4 := hP3.kept hg4.1 hap3
    have hap4 : v4.ownBlock ≠ some w.heap.size := hg4.apart (by omega) hap3
    have sz4 := hg4.1.size
    have hB4 : Below w.heap.size w w4 := hB3.trans (hg4.below ho3 (by omega))
    refine ⟨hP4, ?_⟩
    have f4 : w4.cell? ⟨w.heap.size, 0, none⟩ = some (.slice a p.rules.length c) := hP4.cell rfl
    rw [List.nil_append] at ho4
    simp -dsimp only [push_cast, Nat.reduceAdd, Nat.reduceLeDiff, Nat.reduceBEq, decide_true, f4]
    refine wpL_loop [4, 6, 22, 23, 24, 25, 26, 27, 28, 29, 30, 31, 32, 33, 34, 35, 36] (fun z wx => ∃ (i : Nat), z 22 = .int .i64 i ∧ i ≤ p.rules.length ∧ Own w.heap.size 5 1 encB wx (z 4) (bitB p.els ++ numB p.rules.length ++ (p.rules.take i).flatMap pairB) ∧ Grow w4 wx v4 (z 4)) (fun z _ => p.rules.length - (intOf (z 22)).toNat) ?_ ?_
    · exact ⟨0, rfl, Nat.zero_le _, (by simpa using ho4 : Own w.heap.size 5 1 encB w4 v4 (bitB p.els ++ numB p.rules.length ++ (p.rules.take 0).flatMap pairB)), Grow.refl _ _⟩
    · intro z wx hI
      obtain ⟨i, h22, hi, hox, hgx⟩ := hI
      have szx := hgx.1.size
      have hBx : Below w.heap.size w wx := hB4.trans (hgx.below ho4 (by omega))
      simp -dsimp only [push_cast, Nat.reduceAdd, Nat.reduceLeDiff, Nat.reduceBEq, decide_true, h22]
      refine ⟨fun hlt => ?_, fun hge => ?_⟩
      · have hex := lt_get (l := p.rules) (i := i) (by omega)
        obtain ⟨r, hex⟩ := hex
        have hrr := hex.1
        have hrm := hex.2.1
        have hrt := hex.2.2.2
        have hfl := flat_len (f := pairB) hrr
        have hget := Sl.getR (PairsV.below hr hBx) hrr
        obtain ⟨b, o, cs, rfl, hX, hk, hcell, s1, i1, s2, i2, rfl, hc1, hc2⟩ := hget
        have ce : cellsAt wx ⟨b, o + i * 5, none⟩ 0 5 = some [.bool r.brk, s1, i1, s2, i2] := cellsAt_of [.bool r.brk, s1, i1, s2, i2] 0 (fun j u hu => by simpa using hcell j u hu)
        simp -dsimp only [push_cast, Nat.reduceAdd, Nat.reduceLeDiff, Nat.reduceBEq, decide_true, ce]
        have hrl : (pairB r).length = 1 + (codeB r.before).length + (codeB r.after).length := by simp only [pairB, bitB, List.length_append, List.length_cons, List.length_nil]
        have hbl : (bitB p.els).length = 1 := by simp only [bitB, List.length_cons, List.length_nil]
        have hbl2 : (bitB r.brk).length = 1 := by simp only [bitB, List.length_cons, List.length_nil]
        refine ⟨⟨by omega, by omega⟩, ?_⟩
        refine allocK (z := [.bool false, .slice none 0 0, .slice none 0 0, .slice none 0 0, .slice none 0 0]) (by kernel_rfl) ?_
        intro w5 hw5
        simp -dsimp only [push_cast, Nat.reduceAdd, Nat.reduceLeDiff, Nat.reduceBEq, decide_true]
        refine storeAgg (n := 5) (by kernel_rfl) hw5.blk rfl (by simp) (by
          obtain ⟨_, _, e1, g1, g2⟩ := hc1; cases e1; obtain ⟨_, _, rfl, _⟩ := g1.shape; obtain ⟨_, _, rfl, _⟩ := g2.shape
          obtain ⟨_, _, e2, g3, g4⟩ := hc2; cases e2; obtain ⟨_, _, rfl, _⟩ := g3.shape; obtain ⟨_, _, rfl, _⟩ := g4.shape
          simp [Value.oneCell']) ?_
        intro w6 hw6
        have sz5 := hw5.size
        have hB6 : Blk w6 wx.heap.size 61 [.bool r.brk, s1, i1, s2, i2] := hw6.blk
        have hG6 : Grow wx w6 (z 4) (z 4) := (Grow.still _ (Kept.new hw5)).put hw6 (Nat.le_refl _)
        have ho6 : Own w.heap.size 5 1 encB w6 (z 4) _ := (hox.new hw5).keptX hw6.kept (fun g hg hh => by have := (hox.block g hg).2; omega)
        have hap : (z 4).ownBlock ≠ some wx.heap.size := fun h => by have := (hox.block _ h).2; omega
        have hbX : ∀ g, (z 4).ownBlock = some g → w.heap.size ≤ g := fun g hg => (hox.block g hg).1
        simp -dsimp only [push_cast, Nat.reduceAdd, Nat.reduceLeDiff, Nat.reduceBEq, decide_true]
        have sz6 := hw6.size
        have hBl6 : Below w.heap.size wx w6 := hG6.below hox (by omega)
        refine wpL_draw (fun w' => Blk w' wx.heap.size 61 [.bool r.brk, s1, i1, s2, i2]) mixed (by kernel_rfl) hB6.drew ?_
        have f0 : w6.drew.cell? ⟨wx.heap.size, 0, none⟩ = some (.bool r.brk) := hB6.drew.cell rfl
        simp -dsimp only [push_cast, Nat.reduceAdd, Nat.reduceLeDiff, Nat.reduceBEq, decide_true, f0]
        refine ⟨fun w'' hC => by rw [hC.cell (o := 0) rfl]; exact rfl, ?_⟩
        refine callK_of (bit_c w.heap.size r.brk _ (by simp only [List.length_append]; omega) (z 4) w6.drew (ownStill ho6 (Kept.refl _ _).drew) (by show w.heap.size ≤ w6.heap.size; omega)) ?_
        rintro v7 w7 ⟨ho7, hg7⟩
        have hB7 := hB6.drew.kept hg7.1 hap
        have hap7 := hg7.apart (by show wx.heap.size < w6.heap.size; omega) hap
        have sz7 : w6.heap.size ≤ w7.heap.size := hg7.1.size
        have hBl7 : Below w.heap.size wx w7 := hBl6.drew.trans (hg7.below (ownStill ho6 (Kept.refl _ _).drew) (by show w.heap.size ≤ w6.heap.size; omega))
        refine ⟨hB7, ?_⟩
        have f1 : cellsAt w7 ⟨wx.heap.size, 1, none⟩ 0 2 = some [s1, i1] := blkSome (n := 2) (xs := [s1, i1]) hB7 1 rfl rfl
        simp -dsimp only [push_cast, Nat.reduceAdd, Nat.reduceLeDiff, Nat.reduceBEq, decide_true, f1]
        refine ⟨fun w'' hC => by rw [blkSome (n := 2) (xs := [s1, i1]) hC 1 rfl rfl]; exact rfl, ?_⟩
        refine callK_of (wcode_c w.heap.size r.before (hpr2 r hrm).1 _ (by simp only [List.length_append]; omega) v7 _ w7 ho7 (by omega) (hc1.mono (fun b hb hlt => hBl7.block b (Classical.byContradiction fun hh => hb (by omega))) (fun _ h => h))) ?_
        rintro v8 w8 ⟨ho8, hg8⟩
        have hB8 := hB7.kept hg8.1 hap7
        have hap8 := hg8.apart (by omega) hap7
        have sz8 := hg8.1.size
        have hBl8 : Below w.heap.size wx w8 := hBl7.trans (hg8.below ho7 (by omega))
        refine ⟨hB8, ?_⟩
        have f3 : cellsAt w8 ⟨wx.heap.size, 3, none⟩ 0 2 = some [s2, i2] := blkSome (n := 2) (xs := [s2, i2]) hB8 3 rfl rfl
        simp -dsimp only [push_cast, Nat.reduceAdd, Nat.reduceLeDiff, Nat.reduceBEq, decide_true, f3]
        refine ⟨fun w'' hC => by rw [blkSome (n := 2) (xs := [s2, i2]) hC 3 rfl rfl]; exact rfl, ?_⟩
        refine callK_of (wcode_c w.heap.size r.after (hpr2 r hrm).2 _ (by simp only [List.length_append]; omega) v8 _ w8 ho8 (by omega) (hc2.mono (fun b hb hlt => hBl8.block b (Classical.byContradiction fun hh => hb (by omega))) (fun _ h => h))) ?_
        rintro v9 w9 ⟨ho9, hg9⟩
        refine ⟨hB8.kept hg9.1 hap8, ?_⟩
        simp -dsimp only [push_cast, Nat.reduceAdd, Nat.reduceLeDiff, Nat.reduceBEq, decide_true]
        refine ⟨⟨by omega, by omega⟩, ⟨i + 1, rfl, by omega, ?_, hgx.trans (hG6.trans ((Grow.still _ (Kept.refl _ _).drew).trans (hg7.trans (hg8.trans hg9))))⟩, by rw [h22]; simp only [intOf]; omega⟩
        rw [flat_take hrt]
        simpa only [pairB, List.append_assoc] using ho9
      · have hi2 : p.rules.take i = p.rules := List.take_of_length_le (by omega)
        rw [hi2] at hox
        have hox : Own w.heap.size 5 1 encB wx (z 4) (progB p) := hox
        obtain ⟨a9, c9, h4⟩ := hox.slice
        rw [h4] at hox
        simp -dsimp only [push_cast, Nat.reduceAdd, Nat.reduceLeDiff, Nat.reduceBEq, decide_true, h4]
        refine strK (e := 5) (by kernel_rfl) (by kernel_rfl) (by kernel_rfl) hox.sl ?_
        simp -dsimp only [push_cast, Nat.reduceAdd, Nat.reduceLeDiff, Nat.reduceBEq, decide_true]
        refine callK_of (sum_c (progB p) (by omega) wx) ?_
        rintro _ w5 ⟨rfl, rfl⟩
        simp -dsimp only [push_cast, Nat.reduceAdd, Nat.reduceLeDiff, Nat.reduceBEq, decide_true]
        have hu := sumP_lt (progB p)
        rw [← h4] at hox
        refine ⟨by omega, by omega, by omega, ?_⟩
        refine rowK elI_107 rfl rfl (by omega) ?_
        intro w6 hw6
        have hrow : New w5 w6 5 ((sumB (sumP (progB p))).flatMap encB) := by
          have e0 : IntKind.u8.wrap ((sumP (progB p) : Nat) : Int) = (((bt (sumP (progB p) % 256)).toNat : Nat) : Int) := by rw [wrap_u8_nat, bt_toNat (by omega)]
          rw [sum_byte (k := 8) hu rfl (by omega), sum_byte (k := 16) hu rfl (by omega), sum_byte (k := 24) hu rfl (by omega), e0] at hw6
          exact hw6
        simp -dsimp only [push_cast, Nat.reduceAdd, Nat.reduceLeDiff, Nat.reduceBEq, decide_true]
        refine appendB (base := w.heap.size) (sumB (sumP (progB p))) elI_107 hox hrow rfl (by rw [sumB_len]; omega) (by omega) ?_
        intro v7 w7 ho7 hg7
        obtain ⟨a8, c8, rfl⟩ := ho7.slice
        simp -dsimp only [push_cast, Nat.reduceAdd, Nat.reduceLeDiff, Nat.reduceBEq, decide_true]
        refine strK (e := 5) (by kernel_rfl) (by kernel_rfl) (by kernel_rfl) ho7.sl ?_
        simp -dsimp only [push_cast, Nat.reduceAdd, Nat.reduceLeDiff, Nat.reduceBEq, decide_true, ne_eq, eq_self, not_true_eq_false, not_false_eq_true, true_imp_iff, false_imp_iff, Int.reduceNe, Int.reduceEq, Int.reduceLT, Int.reduceLE, Bool.not_true, Bool.not_false]
        exact ⟨rfl, hBx.trans (hg7.below hox (by omega))⟩
end Go.Proofs.YtimjpijbcnjaaaaDoor
