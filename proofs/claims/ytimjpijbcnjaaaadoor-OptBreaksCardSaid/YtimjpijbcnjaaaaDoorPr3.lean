import Derived.Test.YtimjpijbcnjaaaaDoorPr2
import Derived.Test.YtimjpijbcnjaaaaDoorOps
import Derived.Test.YtimjpijbcnjaaaaDoorBr3
import Derived.Test.YtimjpijbcnjaaaaDoorOpen
namespace Go.Vc
open Go.RowKit
theorem sl_mk {α : Type} {X : Nat → Prop} {k : Nat} {enc : α → List Value} {w : World} {a : Option Addr} {c n : Nat} {us : List α} (hl : us.length = n) (hc : n ≤ c) (hk : ∀ x, (enc x).length = k)
    (h : ∀ (i : Nat) (u : α), us[i]? = some u → ∃ b o, a = some ⟨b, o, none⟩ ∧ ¬ X b ∧ ∀ j x, (enc u)[j]? = some x → w.cell? ⟨b, o + i * k + j, none⟩ = some x) : Sl X k (En enc) w (.slice a n c) us := by
  subst hl
  refine ⟨a, c, rfl, hc, fun i u hu => ?_⟩
  obtain ⟨b, o, e, hX, hcell⟩ := h i u hu
  exact ⟨b, o, _, e, hX, hk u, hcell, rfl⟩
end Go.Vc
namespace Go.Proofs.YtimjpijbcnjaaaaDoor
open Go.Vc Go.Proofs Go.RowKit Cae
set_option maxRecDepth 100000
set_option linter.unusedSimpArgs false
set_option linter.unusedVariables false
attribute [local irreducible] wpL callK valK unitK runK Fun Sl Own vc vcOps opK pureK
set_option maxHeartbeats 8000000

theorem equalN_c (l l' : List Nat) (hl : l.length < 10000000) (X X' : Nat → Prop) (v v' : Value) (w : World) (hv : Sl X 1 (En encN) w v l) (hv' : Sl X' 1 (En encN) w v' l') :
    Fun Tryd.prog 31 [v, v'] w fun r w' => r = .bool (decide (l = l')) ∧ Below w.heap.size w w' := by
  obtain ⟨a, c, rfl, hc⟩ := hv.shape
  obtain ⟨a', c', rfl, hc'⟩ := hv'.shape
  refine fun_of_vc Tryd.func31 rfl (by kernel_rfl) [4] rfl ?_
  simp -dsimp only [push_cast, fr0, Tryd.ntmps31, List.length_cons, List.length_nil, Nat.reduceAdd, Nat.reduceSub, Nat.reduceBEq, List.replicate_succ, List.replicate_zero]
  refine ⟨fun hne => ⟨?_, Below.refl _ _⟩, fun he => ?_⟩
  · rw [decide_eq_false]
    intro h; subst h; omega
  have he' : l.length = l'.length := by omega
  refine wpL_loop [4, 5, 13, 14, 15, 16, 17, 18, 19, 20, 21, 22, 23, 24, 25] (fun z wx => ∃ (i : Nat), z 13 = .int .i64 i ∧ i ≤ l.length ∧ l.take i = l'.take i ∧ Below w.heap.size w wx) (fun z _ => l.length - (intOf (z 13)).toNat) ?_ ?_
  · exact ⟨0, rfl, Nat.zero_le _, rfl, Below.refl _ _⟩
  · intro z wx hI
    obtain ⟨i, h13, hi, hok, hb⟩ := hI
    simp -dsimp only [push_cast, Nat.reduceAdd, Nat.reduceLeDiff, Nat.reduceBEq, decide_true, h13]
    refine ⟨fun hlt => ?_, fun hge => ?_⟩
    · obtain ⟨x, hx, hxm, hd, ht⟩ := lt_get (l := l) (i := i) (by omega)
      obtain ⟨b, o, rfl, hX, hcell⟩ := (hv.below hb).get hx
      obtain ⟨x', hx', hxm', hd', ht'⟩ := lt_get (l := l') (i := i) (by omega)
      obtain ⟨b', o', rfl, hX', hcell'⟩ := (hv'.below hb).get hx'
      refine wpL_draw (fun w' => ∀ a, w'.cell? a = wx.cell? a) mixed (by kernel_rfl) (fun _ => rfl) ?_
      have c0 : wx.cell? ⟨b, o + i, none⟩ = some (.int .i64 (x : Int)) := by simpa using hcell 0 _ rfl
      have c0' : wx.cell? ⟨b', o' + i, none⟩ = some (.int .i64 (x' : Int)) := by simpa using hcell' 0 _ rfl
      have d0 : wx.drew.cell? ⟨b, o + i, none⟩ = some (.int .i64 (x : Int)) := c0
      have d0' : wx.drew.cell? ⟨b', o' + i, none⟩ = some (.int .i64 (x' : Int)) := c0'
      simp -dsimp only [push_cast, Nat.reduceAdd, Nat.reduceLeDiff, Nat.reduceBEq, decide_true, d0, d0']
      refine ⟨⟨by omega, by omega⟩, fun w'' hC => by rw [hC, c0]; exact rfl, ⟨by omega, by omega⟩, fun w'' hC => by rw [hC, c0']; exact rfl, fun hne => ?_, fun heq => ?_⟩
      · refine ⟨?_, hb.drew⟩
        rw [decide_eq_false]
        intro h; subst h; rw [hx] at hx'; cases hx'; exact hne rfl
      · have heq : x = x' := by omega
        exact ⟨⟨by omega, by omega⟩, ⟨i + 1, rfl, by omega, by rw [ht, ht', hok, heq], hb.drew⟩, by rw [h13]; simp only [intOf]; omega⟩
    · refine ⟨?_, hb⟩
      rw [List.take_of_length_le (by omega), List.take_of_length_le (by omega)] at hok
      rw [decide_eq_true hok]

/-- smallProgram, as the statements ask. -/
def smallProgP (p : ProgP) : Bool := decide (p.rules.length ≤ 25) && p.rules.all fun r => smallP r.before && smallP r.after

theorem smallPair_c (r : PairP) (X : Nat → Prop) (w : World) (cs : List Value) (hv : PairR X w cs r) :
    Fun Tryd.prog 64 [elV cs] w fun u w' => u = .bool (!(smallP r.before && smallP r.after)) ∧ Below w.heap.size w w' := by
  obtain ⟨s1, i1, s2, i2, rfl, h1, h2⟩ := hv
  show Fun _ _ [.agg #[.bool r.brk, s1, i1, s2, i2]] _ _
  refine fun_of_vc Tryd.func64 rfl (by kernel_rfl) [2] rfl ?_
  simp -dsimp only [push_cast, fr0, Tryd.ntmps64, List.length_cons, List.length_nil, Nat.reduceAdd, Nat.reduceSub, Nat.reduceBEq, List.replicate_succ, List.replicate_zero]
  refine boxK_of ?_
  intro w1 hw1
  have hw1 : New w w1 61 [.bool r.brk, s1, i1, s2, i2] := hw1
  have d1 : cellsAt w1 ⟨w.heap.size, 1, none⟩ 0 2 = some [s1, i1] := blkSome (n := 2) (xs := [s1, i1]) hw1.blk 1 rfl rfl
  simp -dsimp only [push_cast, Nat.reduceAdd, Nat.reduceLeDiff, Nat.reduceBEq, decide_true, d1]
  refine callK_of (small_c r.before X _ w1 (h1.below hw1.below)) ?_
  rintro _ w2 ⟨rfl, hb2⟩
  have sz1 := hw1.size
  have hB2 := hw1.below.trans (hb2.mono (by omega))
  have d2 : cellsAt w2 ⟨w.heap.size, 3, none⟩ 0 2 = some [s2, i2] := blkSome (n := 2) (xs := [s2, i2]) (hw1.blk.below hb2 (by omega)) 3 rfl rfl
  cases hr : smallP r.before with
  | false =>
    simp -dsimp only [push_cast, Nat.reduceAdd, Nat.reduceLeDiff, Nat.reduceBEq, decide_true, ne_eq, eq_self, not_true_eq_false, not_false_eq_true, true_imp_iff, false_imp_iff, Int.reduceNe, Int.reduceEq, Int.reduceLT, Int.reduceLE, Bool.not_true, Bool.not_false]
    exact ⟨by simp, hB2⟩
  | true =>
    simp -dsimp only [push_cast, Nat.reduceAdd, Nat.reduceLeDiff, Nat.reduceBEq, decide_true, ne_eq, eq_self, not_true_eq_false, not_false_eq_true, true_imp_iff, false_imp_iff, Int.reduceNe, Int.reduceEq, Int.reduceLT, Int.reduceLE, Bool.not_true, Bool.not_false, d2]
    refine callK_of (small_c r.after X _ w2 (h2.below hB2)) ?_
    rintro _ w3 ⟨rfl, hb3⟩
    simp -dsimp only [push_cast, Nat.reduceAdd, Nat.reduceLeDiff, Nat.reduceBEq, decide_true, ne_eq, eq_self, not_true_eq_false, not_false_eq_true, true_imp_iff, false_imp_iff, Int.reduceNe, Int.reduceEq, Int.reduceLT, Int.reduceLE, Bool.not_true, Bool.not_false]
    exact hB2.trans (hb3.mono hB2.size)

theorem smallProgram_c (p : ProgP) (X : Nat → Prop) (v : Value) (w : World) (hv : ProgV X w v p) :
    Fun Tryd.prog 28 [v] w fun u w' => u = .bool (smallProgP p) ∧ Below w.heap.size w w' := by
  obtain ⟨rv, rfl, hr⟩ := hv
  obtain ⟨a, c, rfl, hc⟩ := hr.shape
  refine fun_of_vc Tryd.func28 rfl (by kernel_rfl) [2] rfl ?_
  simp -dsimp only [push_cast, fr0, Tryd.ntmps28, List.length_cons, List.length_nil, Nat.reduceAdd, Nat.reduceSub, Nat.reduceBEq, List.replicate_succ, List.replicate_zero]
  refine boxK_of ?_
  intro w1 hw1
  have d0 : w1.cell? ⟨w.heap.size, 0, none⟩ = some (.slice a p.rules.length c) := hw1.cell rfl
  simp -dsimp only [push_cast, Nat.reduceAdd, Nat.reduceLeDiff, Nat.reduceBEq, decide_true, d0]
  refine ⟨fun h1 => ?_, fun h1 => ⟨by congr 1; unfold smallProgP; rw [decide_eq_false (by omega)]; rfl, hw1.below⟩⟩
  refine callK_of (pairsContains_c (PairR X w1) 64 [] (fun r => !(smallP r.before && smallP r.after)) p.rules (by omega) X _ w1 (PairsV.below hr hw1.below) ?_) ?_
  · intro r hrm cs hR _ w' hb'
    exact smallPair_c r X w' cs (hR.below hb')
  rintro _ w2 ⟨rfl, hb2⟩
  simp -dsimp only [push_cast, Nat.reduceAdd, Nat.reduceLeDiff, Nat.reduceBEq, decide_true]
  refine ⟨?_, hw1.below.trans (hb2.mono hw1.below.size)⟩
  rw [any_not]
  congr 1
  unfold smallProgP
  rw [decide_eq_true (by omega), Bool.true_and]

theorem smallProg_spec {p : ProgP} (h : smallProgP p = true) : p.rules.length ≤ 25 ∧ ∀ r ∈ p.rules, smallP r.before = true ∧ smallP r.after = true := by
  unfold smallProgP at h
  simp only [Bool.and_eq_true, decide_eq_true_eq, List.all_eq_true] at h
  exact h
theorem smallCode_len {c : CodeP} (h : smallP c = true) : CodeLen c := by
  have hs := small_lenC h
  exact ⟨hs.1, by omega, by omega⟩
theorem smallProg_len {p : ProgP} (h : smallProgP p = true) : ProgLen p := by
  obtain ⟨h1, h2⟩ := smallProg_spec h
  exact ⟨by omega, fun r hr => ⟨smallCode_len (h2 r hr).1, smallCode_len (h2 r hr).2⟩⟩
theorem small_size : ∀ (l : List PairP), (∀ r ∈ l, smallP r.before = true ∧ smallP r.after = true) → sizeL l ≤ l.length * 120
  | [], _ => Nat.le_refl _
  | r :: l, h => by
    have h1 := small_lenC (h r (by simp)).1
    have h2 := small_lenC (h r (by simp)).2
    have ih := small_size l (fun r hr => h r (by simp [hr]))
    rw [sizeL, List.length_cons, Nat.add_mul]
    omega

/-- Rules that are read, as values that cells hold. -/
theorem PairsV.values {X : Nat → Prop} {w : World} {v : Value} {l : List PairP} (h : Sl X 5 (PairR X w) w v l) : ∃ us : List PV, us.length = l.length ∧ Sl X 5 (En encPV) w v us ∧ ∀ (i : Nat) (u : PV) (s : PairP), us[i]? = some u → l[i]? = some s → PairR X w (encPV u) s := by
  have h0 := h.shape
  obtain ⟨a, c, rfl, hc⟩ := h0
  have hall : ∀ i, i < l.length → ∃ u : PV, ∀ s, l[i]? = some s → PairR X w (encPV u) s ∧ ∃ b o, a = some ⟨b, o, none⟩ ∧ ¬ X b ∧ ∀ j x, (encPV u)[j]? = some x → w.cell? ⟨b, o + i * 5 + j, none⟩ = some x := fun i hi => by
    have hs := List.getElem?_eq_getElem hi
    obtain ⟨b, o, cs, e, hX, hcs, hcell, hR⟩ := h.getR hs
    have hR0 := hR
    obtain ⟨s1, i1, s2, i2, rfl, h1, h2⟩ := hR
    obtain ⟨_, _, he, hs1, hi1⟩ := h1
    cases he
    obtain ⟨_, _, he, hs2, hi2⟩ := h2
    cases he
    have hsh := hs1.shape
    obtain ⟨x1, y1, rfl, _⟩ := hsh
    have hsh := hs2.shape
    obtain ⟨x2, y2, rfl, _⟩ := hsh
    have hsh := hi1.shape
    obtain ⟨a1, k1, rfl, _⟩ := hsh
    have hsh := hi2.shape
    obtain ⟨a2, k2, rfl, _⟩ := hsh
    refine ⟨⟨l[i].brk, ⟨x1, l[i].before.sets.length, y1⟩, ⟨a1, l[i].before.ins.length, k1⟩, ⟨x2, l[i].after.sets.length, y2⟩, ⟨a2, l[i].after.ins.length, k2⟩⟩, fun s hs' => ?_⟩
    rw [hs] at hs'
    cases hs'
    exact ⟨hR0, b, o, e, hX, hcell⟩
  obtain ⟨us, hl, hp⟩ := exists_list (fun i (u : PV) => ∀ s, l[i]? = some s → PairR X w (encPV u) s ∧ ∃ b o, a = some ⟨b, o, none⟩ ∧ ¬ X b ∧ ∀ j x, (encPV u)[j]? = some x → w.cell? ⟨b, o + i * 5 + j, none⟩ = some x) l.length hall
  refine ⟨us, hl, ?_, fun i u s hu hs => (hp i u hu s hs).1⟩
  refine sl_mk hl hc (fun _ => rfl) (fun i u hu => ?_)
  have hlt := (List.getElem?_eq_some_iff.1 hu).1
  obtain ⟨_, b, o, e, hX, hcell⟩ := hp i u hu _ (List.getElem?_eq_getElem (by omega))
  exact ⟨b, o, e, hX, hcell⟩

/-- The rule that always says. -/
def yesC : CodeP := ⟨[], [⟨5, 0, 0⟩]⟩
theorem yesC_right : codeRight yesC = true := by decide
theorem always_of (p : ProgP) (b : Bool) (l : List PairP) (e : p.rules = ⟨b, yesC, yesC⟩ :: l) : Always p := ⟨_, _, e, ⟨rfl, acc_yes (x := ⟨5, 0, 0⟩) rfl rfl⟩, ⟨rfl, acc_yes (x := ⟨5, 0, 0⟩) rfl rfl⟩⟩

theorem optBreaks_c (p : ProgP) (l : List Int) (v lv : Value) (w : World) (hE : ErrVar w) (hN : NeverVar w) (hv : ProgV (fun _ => False) w v p) (hlv : Sl (fun _ => False) 1 (En encI) w lv l) (hal : Arg lv) (har : ∀ sv e, v = .agg #[sv, e] → Arg sv) :
    Fun Tryd.prog 6 [v, lv] w fun r w' => r = .bool true ∧ Below w.heap.size w w' := by
  have hv0 := hv
  obtain ⟨rv, rfl, hr⟩ := hv
  have har := har _ _ rfl
  have hsh := hr.shape
  obtain ⟨ra, rc, rfl, hrc⟩ := hsh
  obtain ⟨la, lc, rfl, hlc⟩ := hlv.shape
  refine fun_of_vc Tryd.func6 rfl (by kernel_rfl) [4] rfl ?_
  simp -dsimp only [push_cast, fr0, Tryd.ntmps6, List.length_cons, List.length_nil, Nat.reduceAdd, Nat.reduceSub, Nat.reduceBEq, List.replicate_succ, List.replicate_zero]
  refine boxK_of ?_
  intro w1 hw1
  have hw1 : New w w1 43 [.slice ra p.rules.length rc, .bool p.els] := hw1
  have sz1 := hw1.size
  have d1 : cellsAt w1 ⟨w.heap.size, 0, none⟩ 0 2 = some [.slice ra p.rules.length rc, .bool p.els] := hw1.blk.cellsAt
  simp -dsimp only [push_cast, Nat.reduceAdd, Nat.reduceLeDiff, Nat.reduceBEq, decide_true, d1]
  refine callK_of (smallProgram_c p _ _ w1 (hv0.below hw1.below)) ?_
  rintro _ w2 ⟨rfl, hb2⟩
  have sz2 := hb2.size
  have hL2 := hw1.below.trans (hb2.mono (by omega))
  have hB2 : Blk w2 w.heap.size 43 [.slice ra p.rules.length rc, .bool p.els] := hw1.blk.below hb2 (by omega)
  cases hsm : smallProgP p with
  | false =>
    simp -dsimp only [push_cast, Nat.reduceAdd, Nat.reduceLeDiff, Nat.reduceBEq, decide_true, ne_eq, eq_self, not_true_eq_false, not_false_eq_true, true_imp_iff, false_imp_iff, Int.reduceNe, Int.reduceEq, Int.reduceLT, Int.reduceLE, Bool.not_true, Bool.not_false]
    exact hL2
  | true =>
    have hsp := smallProg_spec hsm
    have hpl := smallProg_len hsm
    have hsz := small_size p.rules hsp.2
    simp -dsimp only [push_cast, Nat.reduceAdd, Nat.reduceLeDiff, Nat.reduceBEq, decide_true, ne_eq, eq_self, not_true_eq_false, not_false_eq_true, true_imp_iff, false_imp_iff, Int.reduceNe, Int.reduceEq, Int.reduceLT, Int.reduceLE, Bool.not_true, Bool.not_false]
    refine ⟨fun _ => hL2, fun h1 => ?_⟩
    refine callK_of (lessened_c w2 (hN.below hL2)) ?_
    rintro _ w3 ⟨rfl, hb3⟩
    have sz3 := hb3.size
    have hL3 := hL2.trans (hb3.mono hL2.size)
    have hB3 := hB2.below hb3 (by omega)
    have d3 := hB3.cellsAt
    simp only [List.length_cons, List.length_nil, Nat.zero_add, Nat.reduceAdd] at d3
    simp -dsimp only [push_cast, Nat.reduceAdd, Nat.reduceLeDiff, Nat.reduceBEq, decide_true, ne_eq, eq_self, not_true_eq_false, not_false_eq_true, true_imp_iff, false_imp_iff, Int.reduceNe, Int.reduceEq, Int.reduceLT, Int.reduceLE, Bool.not_true, Bool.not_false, d3]
    refine callK_of (program_c p hpl _ w3 (hN.below hL3) (hv0.below hL3)) ?_
    rintro r w4 ⟨hrr, hb4⟩
    have sz4 := hb4.size
    have hL4 := hL3.trans (hb4.mono hL3.size)
    have hB4 := hB3.below hb4 (by omega)
    unfold ProgRes at hrr
    cases hR : progRight p with
    | false =>
      rw [hR, if_neg (by simp)] at hrr
      subst hrr
      simp -dsimp only [push_cast, Nat.reduceAdd, Nat.reduceLeDiff, Nat.reduceBEq, decide_true, ne_eq, eq_self, not_true_eq_false, not_false_eq_true, true_imp_iff, false_imp_iff, Int.reduceNe, Int.reduceEq, Int.reduceLT, Int.reduceLE, Bool.not_true, Bool.not_false]
      refine allocK (z := [.slice none 0 0, .bool false]) (by kernel_rfl) ?_
      intro w5 hw5
      have sz5 := hw5.size
      simp -dsimp only [push_cast, Nat.reduceAdd, Nat.reduceLeDiff, Nat.reduceBEq, decide_true]
      refine storeAgg (n := 2) (by kernel_rfl) hw5.blk rfl (by simp) (by simp [Value.oneCell']) ?_
      intro w6 hw6
      have sz6 := hw6.size
      have k6 : Below w4.heap.size w4 w6 := hw5.below.trans (hw6.kept.below (by omega) (fun _ h => by omega))
      have hD6 : Blk w6 w4.heap.size 43 [.slice none 0 0, .bool false] := hw6.blk
      have hB6 := hB4.below k6 (by omega)
      have hL6 := hL4.trans (k6.mono hL4.size)
      have d6 := hB6.cellsAt
      simp only [List.length_cons, List.length_nil, Nat.zero_add, Nat.reduceAdd] at d6
      simp -dsimp only [push_cast, Nat.reduceAdd, Nat.reduceLeDiff, Nat.reduceBEq, decide_true, ne_eq, eq_self, not_true_eq_false, not_false_eq_true, true_imp_iff, false_imp_iff, Int.reduceNe, Int.reduceEq, Int.reduceLT, Int.reduceLE, Bool.not_true, Bool.not_false, d6]
      refine callK_of (rightProgram_c p hpl _ _ w6 (hv0.below hL6)) ?_
      rintro _ w7 ⟨rfl, hb7⟩
      have sz7 := hb7.size
      have hL7 := hL6.trans (hb7.mono hL6.size)
      rw [hR]
      simp -dsimp only [push_cast, Nat.reduceAdd, Nat.reduceLeDiff, Nat.reduceBEq, decide_true, ne_eq, eq_self, not_true_eq_false, not_false_eq_true, true_imp_iff, false_imp_iff, Int.reduceNe, Int.reduceEq, Int.reduceLT, Int.reduceLE, Bool.not_true, Bool.not_false]
      refine callK_of (tell_c _ 1 w7 ((Kept.of_below hL7 (X := fun _ => False) (fun k hk hl => by omega)).cell hE id) (.bare 1)) ?_
      rintro _ w8 ⟨rfl, hb8⟩
      have c8 : w8.cell? ⟨w4.heap.size, 0, none⟩ = some (.slice none 0 0) := ((hD6.below hb7 (by omega)).below hb8 (by omega)).cell rfl
      simp -dsimp only [push_cast, Nat.reduceAdd, Nat.reduceLeDiff, Nat.reduceBEq, decide_true, ne_eq, eq_self, not_true_eq_false, not_false_eq_true, true_imp_iff, false_imp_iff, Int.reduceNe, Int.reduceEq, Int.reduceLT, Int.reduceLE, Bool.not_true, Bool.not_false, c8]
      exact hL7.trans (hb8.mono hL7.size)
    | true =>
      rw [hR, if_pos rfl] at hrr
      obtain ⟨out, qv, rfl, hP, hq⟩ := hrr
      have hq0 := hq
      obtain ⟨qr, rfl, hqr⟩ := hq
      have hsh := hqr.shape
      obtain ⟨qa, qc, rfl, _⟩ := hsh
      have hqR := hP.right' hR p.els
      have hqL := hP.lens hpl.1 p.els
      have hol := hP.len
      have hos := hP.size
      simp -dsimp only [push_cast, Nat.reduceAdd, Nat.reduceLeDiff, Nat.reduceBEq, decide_true, ne_eq, eq_self, not_true_eq_false, not_false_eq_true, true_imp_iff, false_imp_iff, Int.reduceNe, Int.reduceEq, Int.reduceLT, Int.reduceLE, Bool.not_true, Bool.not_false]
      refine allocK (z := [.slice none 0 0, .bool false]) (by kernel_rfl) ?_
      intro w5 hw5
      have sz5 := hw5.size
      simp -dsimp only [push_cast, Nat.reduceAdd, Nat.reduceLeDiff, Nat.reduceBEq, decide_true]
      refine storeAgg (n := 2) (by kernel_rfl) hw5.blk rfl (by simp) (by simp [Value.oneCell']) ?_
      intro w6 hw6
      have sz6 := hw6.size
      have k6 : Below w4.heap.size w4 w6 := hw5.below.trans (hw6.kept.below (by omega) (fun _ h => by omega))
      have hD6 : Blk w6 w4.heap.size 43 [.slice qa out.length qc, .bool p.els] := hw6.blk
      have hB6 := hB4.below k6 (by omega)
      have hL6 := hL4.trans (k6.mono hL4.size)
      have hq6 := hq0.below k6
      have d6 := hB6.cellsAt
      simp only [List.length_cons, List.length_nil, Nat.zero_add, Nat.reduceAdd] at d6
      simp -dsimp only [push_cast, Nat.reduceAdd, Nat.reduceLeDiff, Nat.reduceBEq, decide_true, ne_eq, eq_self, not_true_eq_false, not_false_eq_true, true_imp_iff, false_imp_iff, Int.reduceNe, Int.reduceEq, Int.reduceLT, Int.reduceLE, Bool.not_true, Bool.not_false, d6]
      refine callK_of (rightProgram_c p hpl _ _ w6 (hv0.below hL6)) ?_
      rintro _ w7 ⟨rfl, hb7⟩
      have sz7 := hb7.size
      have hL7 := hL6.trans (hb7.mono hL6.size)
      have hD7 := hD6.below hb7 (by omega)
      have hB7 := hB6.below hb7 (by omega)
      have hq7 := hq6.below hb7
      rw [hR]
      simp -dsimp only [push_cast, Nat.reduceAdd, Nat.reduceLeDiff, Nat.reduceBEq, decide_true, ne_eq, eq_self, not_true_eq_false, not_false_eq_true, true_imp_iff, false_imp_iff, Int.reduceNe, Int.reduceEq, Int.reduceLT, Int.reduceLE, Bool.not_true, Bool.not_false]
      refine wpL_draw (fun w' => Blk w' w4.heap.size 43 [.slice qa out.length qc, .bool p.els] ∧ Blk w' w.heap.size 43 [.slice ra p.rules.length rc, .bool p.els]) mixed (by kernel_rfl) ⟨hD7.drew, hB7.drew⟩ ?_
      have ga : ∀ w'' : World, Blk w'' w4.heap.size 43 [.slice qa out.length qc, .bool p.els] → cellsAt w'' ⟨w4.heap.size, 0, none⟩ 0 2 = some [.slice qa out.length qc, .bool p.els] := fun w'' h => h.cellsAt
      have gb : ∀ w'' : World, Blk w'' w.heap.size 43 [.slice ra p.rules.length rc, .bool p.els] → cellsAt w'' ⟨w.heap.size, 0, none⟩ 0 2 = some [.slice ra p.rules.length rc, .bool p.els] := fun w'' h => h.cellsAt
      have e1 := ga _ hD7.drew
      simp -dsimp only [push_cast, Nat.reduceAdd, Nat.reduceLeDiff, Nat.reduceBEq, decide_true, ne_eq, eq_self, not_true_eq_false, not_false_eq_true, true_imp_iff, false_imp_iff, Int.reduceNe, Int.reduceEq, Int.reduceLT, Int.reduceLE, Bool.not_true, Bool.not_false, e1]
      refine ⟨fun w'' hC => by rw [ga w'' hC.1]; exact rfl, ?_⟩
      refine callK_of (rightProgram_c ⟨out, p.els⟩ hqL _ _ w7.drew (hq7.below (Below.refl _ _).drew)) ?_
      rintro _ w8 ⟨rfl, hb8⟩
      have sz8 : w7.heap.size ≤ w8.heap.size := hb8.size
      have hb8' : Below w7.heap.size w7 w8 := (Below.refl _ _).drew.trans hb8
      have hD8 := hD7.below hb8' (by omega)
      have hB8 := hB7.below hb8' (by omega)
      have hq8 := hq7.below hb8'
      have hL8 := hL7.trans (hb8'.mono hL7.size)
      refine ⟨⟨hD8, hB8⟩, ?_⟩
      rw [hqR]
      have f1 : w8.cell? ⟨w4.heap.size, 0, none⟩ = some (.slice qa out.length qc) := hD8.cell rfl
      have f2 : w8.cell? ⟨w.heap.size, 0, none⟩ = some (.slice ra p.rules.length rc) := hB8.cell rfl
      have e8 := ga _ hD8
      have hle : decide ((out.length : Int) > (p.rules.length : Int)) = false := decide_eq_false (by omega)
      simp -dsimp only [push_cast, Nat.reduceAdd, Nat.reduceLeDiff, Nat.reduceBEq, decide_true, ne_eq, eq_self, not_true_eq_false, not_false_eq_true, true_imp_iff, false_imp_iff, Int.reduceNe, Int.reduceEq, Int.reduceLT, Int.reduceLE, Bool.not_true, Bool.not_false, f1, f2, hle, e8]
      refine ⟨fun w'' hC => optBlk hC.1 rfl, fun w'' hC => optBlk hC.2 rfl, fun w'' hC => by rw [ga w'' hC.1]; exact rfl, ?_⟩
      refine callK_of (size_c ⟨out, p.els⟩ (by show out.length < _; omega) (by show sizeL out < _; omega) _ _ w8 hq8) ?_
      rintro _ w9 ⟨rfl, hb9⟩
      have sz9 := hb9.size
      have hD9 := hD8.below hb9 (by omega)
      have hB9 := hB8.below hb9 (by omega)
      have hq9 := hq8.below hb9
      have hL9 := hL8.trans (hb9.mono hL8.size)
      refine ⟨⟨hD9, hB9⟩, ?_⟩
      have e9 := gb _ hB9
      simp -dsimp only [push_cast, Nat.reduceAdd, Nat.reduceLeDiff, Nat.reduceBEq, decide_true, ne_eq, eq_self, not_true_eq_false, not_false_eq_true, true_imp_iff, false_imp_iff, Int.reduceNe, Int.reduceEq, Int.reduceLT, Int.reduceLE, Bool.not_true, Bool.not_false, e9]
      refine ⟨fun w'' hC => by rw [gb w'' hC.2]; exact rfl, ?_⟩
      refine callK_of (size_c p (by omega) (by omega) _ _ w9 (hv0.below hL9)) ?_
      rintro _ wa ⟨rfl, hba⟩
      have sza := hba.size
      have hDa := hD9.below hba (by omega)
      have hBa := hB9.below hba (by omega)
      have hqa := hq9.below hba
      have hLa := hL9.trans (hba.mono hL9.size)
      refine ⟨⟨hDa, hBa⟩, ?_⟩
      have ea := gb _ hBa
      have hle2 : decide ((sizeL out : Int) > (sizeL p.rules : Int)) = false := decide_eq_false (by omega)
      simp -dsimp only [push_cast, Nat.reduceAdd, Nat.reduceLeDiff, Nat.reduceBEq, decide_true, ne_eq, eq_self, not_true_eq_false, not_false_eq_true, true_imp_iff, false_imp_iff, Int.reduceNe, Int.reduceEq, Int.reduceLT, Int.reduceLE, Bool.not_true, Bool.not_false, hle2, ea]
      refine callK_of (breaks_c p l hpl (by omega) _ _ _ _ wa (hv0.below hLa) (hlv.below hLa) hal) ?_
      rintro rb wb ⟨hrb, hbb⟩
      rw [hR, if_pos rfl] at hrb
      obtain ⟨ub, rfl, hob⟩ := hrb
      have szb := hbb.size
      have hDb := hDa.below hbb (by omega)
      have hBb := hBa.below hbb (by omega)
      have hqb := hqa.below hbb
      have hLb := hLa.trans (hbb.mono hLa.size)
      have eb := ga _ hDb
      simp -dsimp only [push_cast, Nat.reduceAdd, Nat.reduceLeDiff, Nat.reduceBEq, decide_true, ne_eq, eq_self, not_true_eq_false, not_false_eq_true, true_imp_iff, false_imp_iff, Int.reduceNe, Int.reduceEq, Int.reduceLT, Int.reduceLE, Bool.not_true, Bool.not_false, eb]
      refine callK_of (breaks_c ⟨out, p.els⟩ l hqL (by omega) _ _ _ _ wb hqb (hlv.below hLb) hal) ?_
      rintro rc' wc ⟨hrc', hbc⟩
      rw [hqR, if_pos rfl, breaks_same hP.says] at hrc'
      obtain ⟨uc, rfl, hoc⟩ := hrc'
      have szc := hbc.size
      have hDc := hDb.below hbc (by omega)
      have hBc := hBb.below hbc (by omega)
      have hLc := hLb.trans (hbc.mono hLb.size)
      have hbl : (breaksP p l).length ≤ l.length + 1 := by
        unfold breaksP
        split
        · simp
        · exact breaksTo_len p l _
      simp -dsimp only [push_cast, Nat.reduceAdd, Nat.reduceLeDiff, Nat.reduceBEq, decide_true, ne_eq, eq_self, not_true_eq_false, not_false_eq_true, true_imp_iff, false_imp_iff, Int.reduceNe, Int.reduceEq, Int.reduceLT, Int.reduceLE, Bool.not_true, Bool.not_false]
      refine callK_of (equalN_c (breaksP p l) (breaksP p l) (by omega) _ _ _ _ wc (hob.sl.below hbc) hoc.sl) ?_
      rintro _ wd ⟨rfl, hbd⟩
      have szd := hbd.size
      have hDd := hDc.below hbd (by omega)
      have hBd := hBc.below hbd (by omega)
      have hLd := hLc.trans (hbd.mono hLc.size)
      rw [decide_eq_true rfl]
      simp -dsimp only [push_cast, Nat.reduceAdd, Nat.reduceLeDiff, Nat.reduceBEq, decide_true, ne_eq, eq_self, not_true_eq_false, not_false_eq_true, true_imp_iff, false_imp_iff, Int.reduceNe, Int.reduceEq, Int.reduceLT, Int.reduceLE, Bool.not_true, Bool.not_false]
      refine rowK elI_23 rfl rfl (by omega) ?_
      intro we hwe
      have sze := hwe.size
      have hoy := hwe.own (base := wd.heap.size) (k := 3) (n := 1) (enc := encIn) (l := yesC.ins) rfl rfl (fun _ => rfl) (Nat.le_refl _) (by omega)
      simp -dsimp only [push_cast, Nat.reduceAdd, Nat.reduceLeDiff, Nat.reduceBEq, decide_true, ne_eq, eq_self, not_true_eq_false, not_false_eq_true, true_imp_iff, false_imp_iff, Int.reduceNe, Int.reduceEq, Int.reduceLT, Int.reduceLE, Bool.not_true, Bool.not_false]
      refine allocK (z := [.slice none 0 0, .slice none 0 0]) (by kernel_rfl) ?_
      intro wf hwf
      have szf := hwf.size
      simp -dsimp only [push_cast, Nat.reduceAdd, Nat.reduceLeDiff, Nat.reduceBEq, decide_true]
      refine storeAgg (n := 2) (by kernel_rfl) hwf.blk rfl (by simp) (by simp [Value.oneCell']) ?_
      intro wg hwg
      have szg := hwg.size
      have kg : Below we.heap.size we wg := hwf.below.trans (hwg.kept.below (by omega) (fun _ h => by omega))
      have kdg : Below wd.heap.size wd wg := hwe.below.trans (kg.mono (by omega))
      have hYg : Blk wg we.heap.size 25 [.slice none 0 0, .slice (some ⟨wd.heap.size, 0, none⟩) 1 1] := hwg.blk
      have hLg := hLd.trans (kdg.mono hLd.size)
      have hBg := hBd.below kdg (by omega)
      have hDg := hDd.below kdg (by omega)
      have fg : wg.cell? ⟨w.heap.size, 0, none⟩ = some (.slice ra p.rules.length rc) := hBg.cell rfl
      have qy : cellsAt wg ⟨we.heap.size, 0, none⟩ 0 2 = some [.slice none 0 0, .slice (some ⟨wd.heap.size, 0, none⟩) 1 1] := hYg.cellsAt
      simp -dsimp only [push_cast, Nat.reduceAdd, Nat.reduceLeDiff, Nat.reduceBEq, decide_true, ne_eq, eq_self, not_true_eq_false, not_false_eq_true, true_imp_iff, false_imp_iff, Int.reduceNe, Int.reduceEq, Int.reduceLT, Int.reduceLE, Bool.not_true, Bool.not_false, fg, qy]
      refine ⟨fun _ => hLg, fun h20 => ?_⟩
      refine rowK elI_41 rfl rfl (by omega) ?_
      intro wh hwh
      have szh := hwh.size
      have hu0 : ∃ u0 : PV, u0 = ⟨true, ⟨none, 0, 0⟩, ⟨some ⟨wd.heap.size, 0, none⟩, 1, 1⟩, ⟨none, 0, 0⟩, ⟨some ⟨wd.heap.size, 0, none⟩, 1, 1⟩⟩ := ⟨_, rfl⟩
      obtain ⟨u0, hu0⟩ := hu0
      have hoh := hwh.own (base := wg.heap.size) (k := 5) (n := 1) (enc := encPV) (l := [u0]) (by rw [hu0]; rfl) rfl (fun _ => rfl) (Nat.le_refl _) (by omega)
      have hus := PairsV.values hr
      obtain ⟨us, husl, hus1, hus2⟩ := hus
      have kgh : Below wg.heap.size wg wh := hwh.below
      have hLh := hLg.trans (kgh.mono hLg.size)
      have fh : wh.cell? ⟨w.heap.size, 0, none⟩ = some (.slice ra p.rules.length rc) := (hBg.below kgh (by omega)).cell rfl
      simp -dsimp only [push_cast, Nat.reduceAdd, Nat.reduceLeDiff, Nat.reduceBEq, decide_true, ne_eq, eq_self, not_true_eq_false, not_false_eq_true, true_imp_iff, false_imp_iff, Int.reduceNe, Int.reduceEq, Int.reduceLT, Int.reduceLE, Bool.not_true, Bool.not_false, fh]
      refine appendAny (base := wg.heap.size) (enc := encPV) (ys := us) elI_41 hoh (hus1.below hLh) har encPV_one (by simp only [List.length_cons, List.length_nil]; omega) (by omega) ?_
      intro vi wi hoi hgi hbi
      have szi := hbi.size
      have kgi : Below wg.heap.size wg wi := kgh.trans hbi
      have hos' := hoi.slice
      obtain ⟨va, vc, rfl⟩ := hos'
      have hBi := hBg.below kgi (by omega)
      have hDi := hDg.below kgi (by omega)
      simp -dsimp only [push_cast, Nat.reduceAdd, Nat.reduceLeDiff, Nat.reduceBEq, decide_true, ne_eq, eq_self, not_true_eq_false, not_false_eq_true, true_imp_iff, false_imp_iff, Int.reduceNe, Int.reduceEq, Int.reduceLT, Int.reduceLE, Bool.not_true, Bool.not_false]
      refine storeK_of hBi (by simp) rfl ?_
      intro wj hwj
      have szj := hwj.size
      have hDj := hDi.kept hwj.kept (by omega)
      have hLj := (hLg.trans (kgi.mono hLg.size)).trans (hwj.kept.below (by have := hLg.size; omega) (fun _ h => by omega))
      have qj : cellsAt wj ⟨w.heap.size, 0, none⟩ 0 2 = some [.slice va ([u0] ++ us).length vc, .bool p.els] := hwj.blk.cellsAt
      have hoyj := ((hoy.keptX (Kept.of_below kg (X := fun _ => False) (fun k hk hl => by omega)) (fun _ _ h => h)).keptX (Kept.of_below kgi (X := fun _ => False) (fun k hk hl => by omega)) (fun _ _ h => h)).keptX hwj.kept (fun g hg h => by have := (hoy.block g hg).1; omega)
      have hyc : CodeV (fun _ => False) wj (.agg #[.slice none 0 0, .slice (some ⟨wd.heap.size, 0, none⟩) 1 1]) yesC := ⟨_, _, rfl, Sl.nil _ _ _ _ _ _, hoyj.sl.weaken fun _ h => h.elim⟩
      have hoj := hoi.keptX hwj.kept (fun g hg h => by have := (hoi.block g hg).1; omega)
      have hsl := ownRead (R := PairR (fun _ => False) wj) (l := (⟨true, yesC, yesC⟩ : PairP) :: p.rules) hoj (by simp [husl]) (fun i s h => by
        cases i with
        | zero =>
          simp only [List.getElem?_cons_zero, Option.some.injEq] at h
          subst h
          exact ⟨u0, rfl, by rw [hu0]; exact ⟨_, _, _, _, rfl, hyc, hyc⟩⟩
        | succ i =>
          rw [List.getElem?_cons_succ] at h
          have hlt := (List.getElem?_eq_some_iff.1 h).1
          have hu := List.getElem?_eq_getElem (l := us) (i := i) (by omega)
          exact ⟨_, by rw [List.singleton_append, List.getElem?_cons_succ]; exact hu, (hus2 i _ s hu h).below hLj⟩)
      have hp2 : ProgV (fun _ => False) wj (.agg #[.slice va ([u0] ++ us).length vc, .bool p.els]) ⟨(⟨true, yesC, yesC⟩ : PairP) :: p.rules, p.els⟩ := ⟨_, rfl, hsl.weaken fun _ h => h.elim⟩
      have hspec := progRight_spec hR
      have hyl : CodeLen yesC := ⟨fun s hs => (by cases hs), by decide, by decide⟩
      have hpl2 : ProgLen ⟨(⟨true, yesC, yesC⟩ : PairP) :: p.rules, p.els⟩ := ⟨by show p.rules.length + 1 < _; omega, fun r hr => by
        rcases List.mem_cons.1 hr with h | h
        · subst h; exact ⟨hyl, hyl⟩
        · exact hpl.2 r h⟩
      have hR2 : progRight ⟨(⟨true, yesC, yesC⟩ : PairP) :: p.rules, p.els⟩ = true := by
        unfold progRight
        simp only [Bool.and_eq_true, decide_eq_true_eq, List.all_eq_true]
        refine ⟨by show p.rules.length + 1 ≤ 20; omega, fun r hr => ?_⟩
        rcases List.mem_cons.1 hr with h | h
        · subst h; exact ⟨yesC_right, yesC_right⟩
        · exact hspec.2 r h
      simp -dsimp only [push_cast, Nat.reduceAdd, Nat.reduceLeDiff, Nat.reduceBEq, decide_true, ne_eq, eq_self, not_true_eq_false, not_false_eq_true, true_imp_iff, false_imp_iff, Int.reduceNe, Int.reduceEq, Int.reduceLT, Int.reduceLE, Bool.not_true, Bool.not_false, qj]
      refine callK_of (program_c _ hpl2 _ wj (hN.below hLj) hp2) ?_
      rintro rk wk ⟨hrk, hbk⟩
      have szk := hbk.size
      unfold ProgRes at hrk
      rw [if_pos hR2] at hrk
      obtain ⟨out2, qv2, rfl, hP2, hq2⟩ := hrk
      have hone := hP2.one (always_of _ _ _ rfl)
      obtain ⟨qr2, rfl, hqr2⟩ := hq2
      have hsh := hqr2.shape
      obtain ⟨qa2, qc2, rfl, _⟩ := hsh
      have hDk := hDj.below hbk (by omega)
      have hLk := hLj.trans (hbk.mono hLj.size)
      simp -dsimp only [push_cast, Nat.reduceAdd, Nat.reduceLeDiff, Nat.reduceBEq, decide_true, ne_eq, eq_self, not_true_eq_false, not_false_eq_true, true_imp_iff, false_imp_iff, Int.reduceNe, Int.reduceEq, Int.reduceLT, Int.reduceLE, Bool.not_true, Bool.not_false]
      refine storeAgg (n := 2) (by kernel_rfl) hDk rfl (by simp) (by simp [Value.oneCell']) ?_
      intro wl hwl
      have gl : wl.cell? ⟨w4.heap.size, 0, none⟩ = some (.slice qa2 out2.length qc2) := hwl.blk.cell rfl
      have hle1 : decide ((out2.length : Int) ≤ 1) = true := decide_eq_true (by omega)
      simp -dsimp only [push_cast, Nat.reduceAdd, Nat.reduceLeDiff, Nat.reduceBEq, decide_true, ne_eq, eq_self, not_true_eq_false, not_false_eq_true, true_imp_iff, false_imp_iff, Int.reduceNe, Int.reduceEq, Int.reduceLT, Int.reduceLE, Bool.not_true, Bool.not_false, gl, hle1]
      exact hLk.trans (hwl.kept.below (by have := hLk.size; omega) (fun _ h => by omega))
end Go.Proofs.YtimjpijbcnjaaaaDoor
