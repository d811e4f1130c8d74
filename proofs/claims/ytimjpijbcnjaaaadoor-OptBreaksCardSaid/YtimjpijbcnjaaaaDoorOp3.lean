import Derived.Test.YtimjpijbcnjaaaaDoorOp1
import Derived.Test.YtimjpijbcnjaaaaDoorTwo
import Derived.Test.YtimjpijbcnjaaaaDoorThr
namespace Go.Proofs.YtimjpijbcnjaaaaDoor
open Go.Vc Go.Proofs Go.RowKit Cae
set_option maxRecDepth 100000
set_option linter.unusedSimpArgs false
set_option linter.unusedVariables false
attribute [local irreducible] wpL callK valK unitK runK Fun Sl Own vc vcOps opK pureK
set_option maxHeartbeats 8000000

/-- What is reached, and what waits. -/
def Pend (c : CodeP) (is : List Bool) (wt : List Nat) : Prop := (is[0]? = some true ∨ 0 ∈ wt) ∧ ∀ (i : Nat) (x : I3), is[i]? = some true → c.ins[i]? = some x → ∀ j, Leads c x i j → is[j]? = some true ∨ j ∈ wt
theorem Pend.skip {c : CodeP} {is : List Bool} {r : List Nat} {k : Nat} (h : Pend c is (r ++ [k])) (hk : is[k]? = some true) : Pend c is r := by
  have hm : ∀ j, j ∈ r ++ [k] → is[j]? = some true ∨ j ∈ r := fun j hj => by
    rw [List.mem_append, List.mem_singleton] at hj
    rcases hj with hj | rfl
    · exact .inr hj
    · exact .inl hk
  exact ⟨h.1.elim .inl (hm 0), fun i x h1 h2 j hj => (h.2 i x h1 h2 j hj).elim .inl (hm j)⟩
theorem Pend.step {c : CodeP} {is : List Bool} {r ys : List Nat} {k : Nat} {x : I3} (h : Pend c is (r ++ [k])) (hk : k < is.length) (hx : c.ins[k]? = some x) (hy : ∀ j, Leads c x k j → j ∈ ys) : Pend c (is.set k true) (r ++ ys) := by
  have hset : ∀ j : Nat, is[j]? = some true → (is.set k true)[j]? = some true := fun j hj => by
    rw [List.getElem?_set]
    by_cases e : k = j
    · rw [if_pos e, if_pos hk]
    · rw [if_neg e]; exact hj
  have hm : ∀ j, j ∈ r ++ [k] → (is.set k true)[j]? = some true ∨ j ∈ r ++ ys := fun j hj => by
    rw [List.mem_append, List.mem_singleton] at hj
    rcases hj with hj | rfl
    · exact .inr (List.mem_append.2 (.inl hj))
    · exact .inl (by rw [List.getElem?_set, if_pos rfl, if_pos hk])
  refine ⟨h.1.elim (fun h => .inl (hset 0 h)) (hm 0), fun i y h1 h2 j hj => ?_⟩
  by_cases e : i = k
  · subst e
    rw [hx] at h2; cases h2
    exact .inr (List.mem_append.2 (.inr (hy j hj)))
  · rw [List.getElem?_set, if_neg (fun h => e h.symm)] at h1
    exact (h.2 i y h1 h2 j hj).elim (fun h => .inl (hset j h)) (hm j)
theorem Pend.done {c : CodeP} {is : List Bool} (h : Pend c is []) (hl : is.length = c.ins.length) : Closed c is :=
  ⟨hl, h.1.elim id (fun h => by cases h), fun i x h1 h2 j hj => (h.2 i x h1 h2 j hj).elim id (fun h => by cases h)⟩

def isV (is : List Bool) : List Value := is.map .bool
def cntF (w : World) (sb : Nat) : Nat := match w.heap[sb]? with
  | some (.cells cs _ _) => (cs.toList.filter (fun v => match v with | .bool false => true | _ => false)).length
  | _ => 0
def lenS : Value → Nat
  | .slice _ n _ => n
  | _ => 0
theorem cntF_blk {w : World} {sb : Nat} {e : TypeId} {is : List Bool} (h : Blk w sb e (isV is)) : cntF w sb = (is.filter (! ·)).length := by
  unfold cntF
  rw [show w.heap[sb]? = _ from h]
  simp only [isV]
  clear h
  induction is with
  | nil => rfl
  | cons b l ih =>
    cases b <;> simp [List.filter_cons] at ih ⊢ <;> exact ih
theorem cntF_set : ∀ (is : List Bool) (k : Nat), is[k]? = some false → ((is.set k true).filter (! ·)).length + 1 = (is.filter (! ·)).length
  | [], k, h => by simp at h
  | b :: l, 0, h => by simp at h; subst h; simp
  | b :: l, k + 1, h => by
    have := cntF_set l k (by simpa using h)
    cases b <;> simp [List.filter_cons] <;> omega


theorem reached_c (c : CodeP) (hc : CR c) (v : Value) (w : World) (hv : CodeV (fun _ => False) w v c) :
    Fun Tryd.prog 88 [v] w fun r w' => (∃ is sb, r = .slice (some ⟨sb, 0, none⟩) c.ins.length c.ins.length ∧ Blk w' sb 4 (isV is) ∧ Closed c is ∧ w.heap.size ≤ sb) ∧ Below w.heap.size w w' := by
  have hm := hc.many
  have hone := hc.one
  have hv0 := hv
  obtain ⟨sv, iv, rfl, hsv, hiv⟩ := hv
  obtain ⟨a, cp, rfl, hcp⟩ := hiv.shape
  have hsv0 := hsv.shape
  obtain ⟨sa, sc, rfl, hsc⟩ := hsv0
  refine fun_of_vc Tryd.func88 rfl (by kernel_rfl) [2] rfl ?_
  simp -dsimp only [push_cast, fr0, Tryd.ntmps88, List.length_cons, List.length_nil, Nat.reduceAdd, Nat.reduceSub, Nat.reduceBEq, List.replicate_succ, List.replicate_zero]
  refine boxK_of ?_
  intro w1 hw1
  have hw1 : New w w1 25 [.slice sa c.sets.length sc, .slice a c.ins.length cp] := hw1
  have sz1 := hw1.size
  have c0 : w1.cell? ⟨w.heap.size, 1, none⟩ = some (.slice a c.ins.length cp) := hw1.cell rfl
  simp -dsimp only [push_cast, Nat.reduceAdd, Nat.reduceLeDiff, Nat.reduceBEq, decide_true, ne_eq, eq_self, not_true_eq_false, not_false_eq_true, true_imp_iff, false_imp_iff, Int.reduceNe, Int.reduceEq, Int.reduceLT, Int.reduceLE, Bool.not_true, Bool.not_false, c0]
  refine makeK (z := .bool false) elI_81 (by kernel_rfl) rfl (by omega) (by omega) ?_
  intro w2 hw2
  have sz2 := hw2.size
  simp -dsimp only [push_cast, Nat.reduceAdd, Nat.reduceLeDiff, Nat.reduceBEq, decide_true, ne_eq, eq_self, not_true_eq_false, not_false_eq_true, true_imp_iff, false_imp_iff, Int.reduceNe, Int.reduceEq, Int.reduceLT, Int.reduceLE, Bool.not_true, Bool.not_false]
  refine rowK elI_26 rfl rfl (by omega) ?_
  intro w3 hw3
  have sz3 := hw3.size
  have ho3 := hw3.own (base := w2.heap.size) (k := 1) (n := 1) (enc := encN) (l := [0]) rfl rfl (fun _ => rfl) (Nat.le_refl _) (by omega)
  have hB3 : Blk w3 w1.heap.size 4 (isV (List.replicate c.ins.length false)) := by
    have := hw2.blk.below hw3.below (by omega)
    unfold isV
    rw [List.map_replicate]
    exact this
  have hC3 : Blk w3 w.heap.size 25 [.slice sa c.sets.length sc, .slice a c.ins.length cp] := (hw1.blk.below hw2.below (by omega)).below hw3.below (by omega)
  have hb3 : Below w.heap.size w w3 := hw1.below.trans ((hw2.below.mono (by omega)).trans (hw3.below.mono (by omega)))
  simp -dsimp only [push_cast, Nat.reduceAdd, Nat.reduceLeDiff, Nat.reduceBEq, decide_true, ne_eq, eq_self, not_true_eq_false, not_false_eq_true, true_imp_iff, false_imp_iff, Int.reduceNe, Int.reduceEq, Int.reduceLT, Int.reduceLE, Bool.not_true, Bool.not_false]
  refine wpL_loop [4, 5, 6, 12, 13, 14, 15, 16, 17, 18, 19, 20, 21, 22, 23, 24, 25, 26, 27, 28, 29, 30, 31, 32, 33, 34, 35, 36, 37, 38, 39, 40, 41, 42, 43, 44, 45, 46, 47, 48, 49, 50, 51, 52, 53, 54, 55, 56, 57, 58, 59, 60, 61, 62, 63, 64, 65, 66, 67, 68, 69, 70, 71, 72, 73, 74, 75, 76, 77] (fun z wx => ∃ (is : List Bool) (wt : List Nat) (wv : Value), z 4 = wv ∧ Own w2.heap.size 3 1 encN wx wv wt ∧ Blk wx w1.heap.size 4 (isV is) ∧ is.length = c.ins.length ∧ (∀ k ∈ wt, k < c.ins.length) ∧ Pend c is wt ∧ wt.length + 2 * (is.filter (! ·)).length ≤ 2 * c.ins.length + 1 ∧
      Blk wx w.heap.size 25 [.slice sa c.sets.length sc, .slice a c.ins.length cp] ∧ Below w.heap.size w wx) (fun z wx => 3 * cntF wx w1.heap.size + lenS (z 4)) ?_ ?_
  · refine ⟨List.replicate c.ins.length false, [0], _, rfl, ho3, hB3, by simp, by simp; omega, ⟨.inr (by simp), fun i x h => ?_⟩, by simp; omega, hC3, hb3⟩
    rw [List.getElem?_replicate] at h
    split at h <;> simp at h
  · intro z wx hI
    obtain ⟨is, wt, wv, h4, hox, hBx, hisl, hwt, hpend, hwl, hCx, hbx⟩ := hI
    have hsl := hox.slice
    obtain ⟨wa, wc, rfl⟩ := hsl
    have szx := hbx.size
    have hBl := hBx.lt
    rcases List.eq_nil_or_concat wt with rfl | ⟨r, k, hwtk⟩
    · simp -dsimp only [push_cast, Nat.reduceAdd, Nat.reduceLeDiff, Nat.reduceBEq, decide_true, ne_eq, eq_self, not_true_eq_false, not_false_eq_true, true_imp_iff, false_imp_iff, Int.reduceNe, Int.reduceEq, Int.reduceLT, Int.reduceLE, Bool.not_true, Bool.not_false, h4]
      exact ⟨⟨is, _, rfl, hBx, hpend.done hisl, by omega⟩, hbx⟩
    · rw [List.concat_eq_append] at hwtk
      subst hwtk
      have hkl := hwt k (by simp)
      have hcut := hox.cut
      rcases hcut with ⟨_, h0, _⟩ | ⟨g, rfl, _, hle, hcut⟩
      · simp at h0
      have hcutr := hcut r.length (by simp)
      rw [List.take_left] at hcutr
      have hgb := hox.block g rfl
      have hrl : r.length ≤ 2 * c.ins.length := by rw [List.length_append, List.length_singleton] at hwl; omega
      rw [List.length_append, List.length_singleton] at hle
      have h4' : z 4 = .slice (some ⟨g, 0, none⟩) (r.length + 1) wc := by rw [h4, List.length_append]; rfl
      have hgk := hox.sl.get (i := r.length) (x := k) (by rw [List.getElem?_append_right (Nat.le_refl _), Nat.sub_self]; rfl)
      obtain ⟨b, o, e, _, hcell⟩ := hgk
      cases e
      have cw : wx.cell? ⟨g, r.length, none⟩ = some (.int .i64 k) := by simpa using hcell 0 _ rfl
      have hgi := lt_get (l := is) (i := k) (by omega)
      obtain ⟨bk, hbk, _⟩ := hgi
      have ck : wx.cell? ⟨w1.heap.size, k, none⟩ = some (.bool bk) := hBx.cell (by unfold isV; rw [List.getElem?_map, hbk]; rfl)
      have hgx := lt_get (l := c.ins) (i := k) hkl
      obtain ⟨x, hx, _⟩ := hgx
      have hC1 : wx.cell? ⟨w.heap.size, 1, none⟩ = some (.slice a c.ins.length cp) := hCx.cell rfl
      have hgi2 := (hiv.below hbx).get hx
      obtain ⟨ib, io, rfl, _, hic⟩ := hgi2
      have ci : cellsAt wx ⟨ib, io + k * 3, none⟩ 0 3 = some (encIn x) := cellsAt_of (encIn x) 0 (fun j u hu => by simpa using hic j u hu)
      unfold encIn at ci
      cases bk with
      | true =>
        simp -dsimp only [push_cast, Nat.reduceAdd, Nat.reduceLeDiff, Nat.reduceBEq, decide_true, ne_eq, eq_self, not_true_eq_false, not_false_eq_true, true_imp_iff, false_imp_iff, Int.reduceNe, Int.reduceEq, Int.reduceLT, Int.reduceLE, Bool.not_true, Bool.not_false, h4', Int.add_sub_cancel, cw, ck, hC1]
        refine ⟨fun _ => ⟨⟨by omega, by omega⟩, ⟨by omega, by omega⟩, ⟨by omega, by omega⟩, ⟨by omega, by omega⟩, ?_⟩, fun h => absurd h (by omega)⟩
        exact ⟨⟨by omega, by omega⟩, ⟨is, r, _, rfl, hcutr, hBx, hisl, fun j hj => hwt j (by simp [hj]), hpend.skip hbk, by rw [List.length_append] at hwl; omega, hCx, hbx⟩, by simp only [lenS]; omega⟩
      | false =>
        simp -dsimp only [push_cast, Nat.reduceAdd, Nat.reduceLeDiff, Nat.reduceBEq, decide_true, ne_eq, eq_self, not_true_eq_false, not_false_eq_true, true_imp_iff, false_imp_iff, Int.reduceNe, Int.reduceEq, Int.reduceLT, Int.reduceLE, Bool.not_true, Bool.not_false, h4', Int.add_sub_cancel, cw, ck, hC1]
        refine ⟨fun _ => ⟨⟨by omega, by omega⟩, ⟨by omega, by omega⟩, ⟨by omega, by omega⟩, ⟨by omega, by omega⟩, ?_⟩, fun h => absurd h (by omega)⟩
        have hfalse := hbk
        refine ⟨⟨by omega, by omega⟩, ⟨by omega, by omega⟩, ?_⟩
        refine storeK_of hBx (by unfold isV; rw [List.length_map]; omega) rfl ?_
        intro w4 hw4
        have hB4 : Blk w4 w1.heap.size 4 (isV (is.set k true)) := by
          have := hw4.blk
          unfold isV at this ⊢
          rw [List.map_set]
          exact this
        have sz4 := hw4.size
        have hC4 := hCx.kept hw4.kept (by omega)
        have ho4 := hcutr.keptX hw4.kept (fun g' hg' h => by have : g = g' := by simpa [Value.ownBlock] using hg'
                                                             omega)
        have hb4 : Below w.heap.size w w4 := hbx.trans (hw4.kept.below (by omega) (fun _ h => by omega))
        have ci4 : cellsAt w4 ⟨ib, io + k * 3, none⟩ 0 3 = some [.int .i64 x.op, .int .i64 x.a, .int .i64 x.b] := by
          have hg2 := ((hiv.below hb4)).get hx
          obtain ⟨ib', io', e', _, hic'⟩ := hg2
          cases e'
          exact cellsAt_of (encIn x) 0 (fun j u hu => by simpa using hic' j u hu)
        have hC41 : w4.cell? ⟨w.heap.size, 1, none⟩ = some (.slice (some ⟨ib, io, none⟩) c.ins.length cp) := hC4.cell rfl
        simp -dsimp only [push_cast, Nat.reduceAdd, Nat.reduceLeDiff, Nat.reduceBEq, decide_true, ne_eq, eq_self, not_true_eq_false, not_false_eq_true, true_imp_iff, false_imp_iff, Int.reduceNe, Int.reduceEq, Int.reduceLT, Int.reduceLE, Bool.not_true, Bool.not_false, hC41, ci4]
        refine ⟨⟨by omega, by omega⟩, ?_⟩
        refine allocK (z := [.int .i64 0, .int .i64 0, .int .i64 0]) (by kernel_rfl) ?_
        intro w5 hw5
        have sz5 := hw5.size
        simp -dsimp only [push_cast, Nat.reduceAdd, Nat.reduceLeDiff, Nat.reduceBEq, decide_true]
        refine storeAgg (n := 3) (by kernel_rfl) hw5.blk rfl (by simp) (by simp [Value.oneCell']) ?_
        intro w6 hw6
        have sz6 := hw6.size
        have hT6 : Blk w6 w4.heap.size 37 [.int .i64 x.op, .int .i64 x.a, .int .i64 x.b] := hw6.blk
        have k6 : Kept (fun j => j = w4.heap.size) w4 w6 := (Kept.new hw5).trans hw6.kept (fun _ _ h => h)
        have ho6 := ho4.keptX k6 (fun g' hg' h => by have := ho4.block g' hg'; omega)
        have hB6 := hB4.kept k6 (by omega)
        have hC6 := hC4.kept k6 (by omega)
        have hb6 : Below w.heap.size w w6 := hb4.trans (k6.below (by omega) (fun _ h => by omega))
        have t0 : w6.cell? ⟨w4.heap.size, 0, none⟩ = some (.int .i64 x.op) := hT6.cell rfl
        have t1 : w6.cell? ⟨w4.heap.size, 1, none⟩ = some (.int .i64 x.a) := hT6.cell rfl
        have t2 : w6.cell? ⟨w4.heap.size, 2, none⟩ = some (.int .i64 x.b) := hT6.cell rfl
        have s0 : w6.cell? ⟨w.heap.size, 0, none⟩ = some (.slice sa c.sets.length sc) := hC6.cell rfl
        simp -dsimp only [push_cast, Nat.reduceAdd, Nat.reduceLeDiff, Nat.reduceBEq, decide_true, ne_eq, eq_self, not_true_eq_false, not_false_eq_true, true_imp_iff, false_imp_iff, Int.reduceNe, Int.reduceEq, Int.reduceLT, Int.reduceLE, Bool.not_true, Bool.not_false, t0, t1, t2, s0]
        have hcase := insRight_cases (hc.ins k x hx)
        rcases hcase with ⟨e, g1, g2, g3⟩ | ⟨e, g1, g2, g3, g4⟩ | ⟨e, g1, g2, g3⟩ | ⟨e | e, g1, g2⟩
        · have hnx := hc.next k x hx (.inl e)
          have haj : x.a = ((x.a.toNat : Nat) : Int) := by rw [Int.toNat_of_nonneg g1]
          have hgs := lt_get (l := c.sets) (i := x.a.toNat) (by omega)
          obtain ⟨ss, hss, _⟩ := hgs
          have hgs := Sl.getR (SetsV.below hsv hb6) hss
          obtain ⟨qb, qo, qcs, rfl, _, hqk, hqc, u, rfl, hu⟩ := hgs
          have hsh := hu.shape
          obtain ⟨ua, uc, rfl, _⟩ := hsh
          have cq : w6.cell? ⟨qb, qo + x.a.toNat, none⟩ = some (.slice ua ss.length uc) := by simpa using hqc 0 _ rfl
          have hsd : c.sets.getD x.a.toNat [] = ss := by rw [List.getD_eq_getElem?_getD, hss]; rfl
          have ge : decide (x.op = 1) = true := decide_eq_true e
          refine ⟨fun _ => ⟨⟨by omega, by omega⟩, ?_⟩, fun h => absurd e h⟩
          simp -dsimp only [push_cast, Nat.reduceAdd, Nat.reduceLeDiff, Nat.reduceBEq, decide_true, ne_eq, eq_self, not_true_eq_false, not_false_eq_true, true_imp_iff, false_imp_iff, Int.reduceNe, Int.reduceEq, Int.reduceLT, Int.reduceLE, Bool.not_true, Bool.not_false, cq]
          refine ⟨fun hpos => ?_, fun hzero => ?_⟩
          · refine ⟨⟨by omega, by omega⟩, ?_⟩
            have hy : ∀ j, Leads c x k j → j ∈ [k + 1] := fun j hj => by
              rcases hj with ⟨e', _⟩ | ⟨e', _⟩ | ⟨e', rfl⟩ | ⟨e', _, rfl⟩ <;> first | (exfalso; omega) | simp
            refine rowK elI_26 rfl rfl (by omega) ?_
            intro w7 hw7
            have sz7 := hw7.size
            simp -dsimp only [push_cast, Nat.reduceAdd, Nat.reduceLeDiff, Nat.reduceBEq, decide_true, ne_eq, eq_self, not_true_eq_false, not_false_eq_true, true_imp_iff, false_imp_iff, Int.reduceNe, Int.reduceEq, Int.reduceLT, Int.reduceLE, Bool.not_true, Bool.not_false]
            refine appendK2 (base := w2.heap.size) [k + 1] (enc := encN) elI_26 (ho6.new hw7) (by rfl) (fun j u hu => by simpa [encN] using hw7.cell hu) (by simp [encN, Value.oneCell']) (by simp only [List.length_cons, List.length_nil]; omega) (by omega) ?_
            intro v9 w9 ho9 hg9 hn9
            have hk9 : Kept (fun j => j = g) w7 w9 := Kept.grown hg9 (fun j h => by have : g = j := by simpa [Value.ownBlock] using h
                                                                                    omega)
            have k9 : Kept (fun j => j = g) w6 w9 := (Kept.new hw7).trans hk9 (fun _ _ h => h)
            have hB9 := hB6.kept k9 (by omega)
            have hC9 := hC6.kept k9 (by omega)
            have hb9 : Below w.heap.size w w9 := hb6.trans (k9.below (by omega) (fun _ h => by omega))
            have hsl9 := ho9.slice
            obtain ⟨a9, c9, rfl⟩ := hsl9
            simp -dsimp only [push_cast, Nat.reduceAdd, Nat.reduceLeDiff, Nat.reduceBEq, decide_true, ne_eq, eq_self, not_true_eq_false, not_false_eq_true, true_imp_iff, false_imp_iff, Int.reduceNe, Int.reduceEq, Int.reduceLT, Int.reduceLE, Bool.not_true, Bool.not_false]
            have hpn : Pend c (is.set k true) (r ++ [k + 1]) := hpend.step (by omega) hx hy
            refine ⟨⟨is.set k true, r ++ [k + 1], _, rfl, ho9, hB9, by rw [List.length_set]; exact hisl, ?_, hpn, ?_, hC9, hb9⟩, ?_⟩
            · intro j hj
              rw [List.mem_append] at hj
              rcases hj with hj | hj
              · exact hwt j (List.mem_append.2 (.inl hj))
              · simp at hj
                all_goals omega
            · have := cntF_set is k hfalse
              simp only [List.length_append, List.length_cons, List.length_nil] at hwl ⊢
              omega
            · rw [cntF_blk hB9, cntF_blk hBx, h4]
              have := cntF_set is k hfalse
              simp only [lenS, List.length_append, List.length_cons, List.length_nil]
              omega
          · have hs0 : ss = [] := List.eq_nil_of_length_eq_zero (by omega)
            have hy : ∀ j, Leads c x k j → j ∈ ([] : List Nat) := fun j hj => by
              rcases hj with ⟨e', _⟩ | ⟨e', _⟩ | ⟨e', rfl⟩ | ⟨e', hh, rfl⟩ <;> first | (exfalso; omega) | exact absurd (hsd.trans hs0) hh
            have ho9 : Own w2.heap.size 3 1 encN w6 (.slice (some ⟨g, 0, none⟩) r.length wc) (r ++ []) := by rw [List.append_nil]; exact ho6
            have hB9 := hB6
            have hC9 := hC6
            have hb9 := hb6
            have hpn : Pend c (is.set k true) (r ++ []) := hpend.step (by omega) hx hy
            refine ⟨⟨is.set k true, r ++ [], _, rfl, ho9, hB9, by rw [List.length_set]; exact hisl, ?_, hpn, ?_, hC9, hb9⟩, ?_⟩
            · intro j hj
              rw [List.mem_append] at hj
              rcases hj with hj | hj
              · exact hwt j (List.mem_append.2 (.inl hj))
              · simp at hj
                all_goals omega
            · have := cntF_set is k hfalse
              simp only [List.length_append, List.length_cons, List.length_nil] at hwl ⊢
              omega
            · rw [cntF_blk hB9, cntF_blk hBx, h4]
              have := cntF_set is k hfalse
              simp only [lenS, List.length_append, List.length_cons, List.length_nil]
              omega
        · have haj : x.a = ((x.a.toNat : Nat) : Int) := by rw [Int.toNat_of_nonneg g1]
          have hbj : x.b = ((x.b.toNat : Nat) : Int) := by rw [Int.toNat_of_nonneg g3]
          refine ⟨fun h => absurd h (by omega), fun _ => ⟨fun h => absurd h (by omega), fun _ => ⟨fun h => absurd h (by omega), fun _ => ⟨fun _ => ?_, fun h => absurd e h⟩⟩⟩⟩
          have hy : ∀ j, Leads c x k j → j ∈ [x.a.toNat, x.b.toNat] := fun j hj => by
            rcases hj with ⟨e', rfl | rfl⟩ | ⟨e', _⟩ | ⟨e', rfl⟩ | ⟨e', hh, rfl⟩ <;> first | (exfalso; omega) | simp
          rw [haj, hbj]
          refine rowK elI_26 rfl rfl (by omega) ?_
          intro w7 hw7
          have sz7 := hw7.size
          simp -dsimp only [push_cast, Nat.reduceAdd, Nat.reduceLeDiff, Nat.reduceBEq, decide_true, ne_eq, eq_self, not_true_eq_false, not_false_eq_true, true_imp_iff, false_imp_iff, Int.reduceNe, Int.reduceEq, Int.reduceLT, Int.reduceLE, Bool.not_true, Bool.not_false]
          refine appendK2 (base := w2.heap.size) [x.a.toNat, x.b.toNat] (enc := encN) elI_26 (ho6.new hw7) (by rfl) (fun j u hu => by simpa [encN] using hw7.cell hu) (by simp [encN, Value.oneCell']) (by simp only [List.length_cons, List.length_nil]; omega) (by omega) ?_
          intro v9 w9 ho9 hg9 hn9
          have hk9 : Kept (fun j => j = g) w7 w9 := Kept.grown hg9 (fun j h => by have : g = j := by simpa [Value.ownBlock] using h
                                                                                  omega)
          have k9 : Kept (fun j => j = g) w6 w9 := (Kept.new hw7).trans hk9 (fun _ _ h => h)
          have hB9 := hB6.kept k9 (by omega)
          have hC9 := hC6.kept k9 (by omega)
          have hb9 : Below w.heap.size w w9 := hb6.trans (k9.below (by omega) (fun _ h => by omega))
          have hsl9 := ho9.slice
          obtain ⟨a9, c9, rfl⟩ := hsl9
          simp -dsimp only [push_cast, Nat.reduceAdd, Nat.reduceLeDiff, Nat.reduceBEq, decide_true, ne_eq, eq_self, not_true_eq_false, not_false_eq_true, true_imp_iff, false_imp_iff, Int.reduceNe, Int.reduceEq, Int.reduceLT, Int.reduceLE, Bool.not_true, Bool.not_false]
          have hpn : Pend c (is.set k true) (r ++ [x.a.toNat, x.b.toNat]) := hpend.step (by omega) hx hy
          refine ⟨⟨is.set k true, r ++ [x.a.toNat, x.b.toNat], _, rfl, ho9, hB9, by rw [List.length_set]; exact hisl, ?_, hpn, ?_, hC9, hb9⟩, ?_⟩
          · intro j hj
            rw [List.mem_append] at hj
            rcases hj with hj | hj
            · exact hwt j (List.mem_append.2 (.inl hj))
            · simp at hj
              all_goals omega
          · have := cntF_set is k hfalse
            simp only [List.length_append, List.length_cons, List.length_nil] at hwl ⊢
            omega
          · rw [cntF_blk hB9, cntF_blk hBx, h4]
            have := cntF_set is k hfalse
            simp only [lenS, List.length_append, List.length_cons, List.length_nil]
            omega
        · have haj : x.a = ((x.a.toNat : Nat) : Int) := by rw [Int.toNat_of_nonneg g1]
          refine ⟨fun h => absurd h (by omega), fun _ => ⟨fun h => absurd h (by omega), fun _ => ⟨fun _ => ?_, fun h => absurd e h⟩⟩⟩
          have hy : ∀ j, Leads c x k j → j ∈ [x.a.toNat] := fun j hj => by
            rcases hj with ⟨e', _⟩ | ⟨e', rfl⟩ | ⟨e', rfl⟩ | ⟨e', hh, rfl⟩ <;> first | (exfalso; omega) | simp
          rw [haj]
          refine rowK elI_26 rfl rfl (by omega) ?_
          intro w7 hw7
          have sz7 := hw7.size
          simp -dsimp only [push_cast, Nat.reduceAdd, Nat.reduceLeDiff, Nat.reduceBEq, decide_true, ne_eq, eq_self, not_true_eq_false, not_false_eq_true, true_imp_iff, false_imp_iff, Int.reduceNe, Int.reduceEq, Int.reduceLT, Int.reduceLE, Bool.not_true, Bool.not_false]
          refine appendK2 (base := w2.heap.size) [x.a.toNat] (enc := encN) elI_26 (ho6.new hw7) (by rfl) (fun j u hu => by simpa [encN] using hw7.cell hu) (by simp [encN, Value.oneCell']) (by simp only [List.length_cons, List.length_nil]; omega) (by omega) ?_
          intro v9 w9 ho9 hg9 hn9
          have hk9 : Kept (fun j => j = g) w7 w9 := Kept.grown hg9 (fun j h => by have : g = j := by simpa [Value.ownBlock] using h
                                                                                  omega)
          have k9 : Kept (fun j => j = g) w6 w9 := (Kept.new hw7).trans hk9 (fun _ _ h => h)
          have hB9 := hB6.kept k9 (by omega)
          have hC9 := hC6.kept k9 (by omega)
          have hb9 : Below w.heap.size w w9 := hb6.trans (k9.below (by omega) (fun _ h => by omega))
          have hsl9 := ho9.slice
          obtain ⟨a9, c9, rfl⟩ := hsl9
          simp -dsimp only [push_cast, Nat.reduceAdd, Nat.reduceLeDiff, Nat.reduceBEq, decide_true, ne_eq, eq_self, not_true_eq_false, not_false_eq_true, true_imp_iff, false_imp_iff, Int.reduceNe, Int.reduceEq, Int.reduceLT, Int.reduceLE, Bool.not_true, Bool.not_false]
          have hpn : Pend c (is.set k true) (r ++ [x.a.toNat]) := hpend.step (by omega) hx hy
          refine ⟨⟨is.set k true, r ++ [x.a.toNat], _, rfl, ho9, hB9, by rw [List.length_set]; exact hisl, ?_, hpn, ?_, hC9, hb9⟩, ?_⟩
          · intro j hj
            rw [List.mem_append] at hj
            rcases hj with hj | hj
            · exact hwt j (List.mem_append.2 (.inl hj))
            · simp at hj
              all_goals omega
          · have := cntF_set is k hfalse
            simp only [List.length_append, List.length_cons, List.length_nil] at hwl ⊢
            omega
          · rw [cntF_blk hB9, cntF_blk hBx, h4]
            have := cntF_set is k hfalse
            simp only [lenS, List.length_append, List.length_cons, List.length_nil]
            omega
        · have hnx := hc.next k x hx (.inr e)
          refine ⟨fun h => absurd h (by omega), fun _ => ⟨fun _ => ⟨⟨by omega, by omega⟩, ?_⟩, fun h => absurd e h⟩⟩
          have hy : ∀ j, Leads c x k j → j ∈ [k + 1] := fun j hj => by
            rcases hj with ⟨e', _⟩ | ⟨e', _⟩ | ⟨e', rfl⟩ | ⟨e', _, rfl⟩ <;> first | (exfalso; omega) | simp
          refine rowK elI_26 rfl rfl (by omega) ?_
          intro w7 hw7
          have sz7 := hw7.size
          simp -dsimp only [push_cast, Nat.reduceAdd, Nat.reduceLeDiff, Nat.reduceBEq, decide_true, ne_eq, eq_self, not_true_eq_false, not_false_eq_true, true_imp_iff, false_imp_iff, Int.reduceNe, Int.reduceEq, Int.reduceLT, Int.reduceLE, Bool.not_true, Bool.not_false]
          refine appendK2 (base := w2.heap.size) [k + 1] (enc := encN) elI_26 (ho6.new hw7) (by rfl) (fun j u hu => by simpa [encN] using hw7.cell hu) (by simp [encN, Value.oneCell']) (by simp only [List.length_cons, List.length_nil]; omega) (by omega) ?_
          intro v9 w9 ho9 hg9 hn9
          have hk9 : Kept (fun j => j = g) w7 w9 := Kept.grown hg9 (fun j h => by have : g = j := by simpa [Value.ownBlock] using h
                                                                                  omega)
          have k9 : Kept (fun j => j = g) w6 w9 := (Kept.new hw7).trans hk9 (fun _ _ h => h)
          have hB9 := hB6.kept k9 (by omega)
          have hC9 := hC6.kept k9 (by omega)
          have hb9 : Below w.heap.size w w9 := hb6.trans (k9.below (by omega) (fun _ h => by omega))
          have hsl9 := ho9.slice
          obtain ⟨a9, c9, rfl⟩ := hsl9
          simp -dsimp only [push_cast, Nat.reduceAdd, Nat.reduceLeDiff, Nat.reduceBEq, decide_true, ne_eq, eq_self, not_true_eq_false, not_false_eq_true, true_imp_iff, false_imp_iff, Int.reduceNe, Int.reduceEq, Int.reduceLT, Int.reduceLE, Bool.not_true, Bool.not_false]
          have hpn : Pend c (is.set k true) (r ++ [k + 1]) := hpend.step (by omega) hx hy
          refine ⟨⟨is.set k true, r ++ [k + 1], _, rfl, ho9, hB9, by rw [List.length_set]; exact hisl, ?_, hpn, ?_, hC9, hb9⟩, ?_⟩
          · intro j hj
            rw [List.mem_append] at hj
            rcases hj with hj | hj
            · exact hwt j (List.mem_append.2 (.inl hj))
            · simp at hj
              all_goals omega
          · have := cntF_set is k hfalse
            simp only [List.length_append, List.length_cons, List.length_nil] at hwl ⊢
            omega
          · rw [cntF_blk hB9, cntF_blk hBx, h4]
            have := cntF_set is k hfalse
            simp only [lenS, List.length_append, List.length_cons, List.length_nil]
            omega
        · refine ⟨fun h => absurd h (by omega), fun _ => ⟨fun h => absurd h (by omega), fun _ => ⟨fun h => absurd h (by omega), fun _ => ⟨fun h => absurd h (by omega), fun _ => ?_⟩⟩⟩⟩
          have hy : ∀ j, Leads c x k j → j ∈ ([] : List Nat) := fun j hj => by
            rcases hj with ⟨e', _⟩ | ⟨e', _⟩ | ⟨e', rfl⟩ | ⟨e', hh, rfl⟩ <;> (exfalso; omega)
          have ho9 : Own w2.heap.size 3 1 encN w6 (.slice (some ⟨g, 0, none⟩) r.length wc) (r ++ []) := by rw [List.append_nil]; exact ho6
          have hB9 := hB6
          have hC9 := hC6
          have hb9 := hb6
          have hpn : Pend c (is.set k true) (r ++ []) := hpend.step (by omega) hx hy
          refine ⟨⟨is.set k true, r ++ [], _, rfl, ho9, hB9, by rw [List.length_set]; exact hisl, ?_, hpn, ?_, hC9, hb9⟩, ?_⟩
          · intro j hj
            rw [List.mem_append] at hj
            rcases hj with hj | hj
            · exact hwt j (List.mem_append.2 (.inl hj))
            · simp at hj
              all_goals omega
          · have := cntF_set is k hfalse
            simp only [List.length_append, List.length_cons, List.length_nil] at hwl ⊢
            omega
          · rw [cntF_blk hB9, cntF_blk hBx, h4]
            have := cntF_set is k hfalse
            simp only [lenS, List.length_append, List.length_cons, List.length_nil]
            omega
end Go.Proofs.YtimjpijbcnjaaaaDoor
