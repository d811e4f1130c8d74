import Derived.Test.YtimjpijbcnjaaaaDoorRightb
namespace Go.Proofs.YtimjpijbcnjaaaaDoor
open Go.Vc Go.Proofs Go.RowKit Cae
set_option maxRecDepth 100000
set_option linter.unusedSimpArgs false
set_option linter.unusedVariables false
attribute [local irreducible] wpL callK valK unitK runK Fun Sl Own vc vcOps opK pureK
set_option maxHeartbeats 4000000

def encN (k : Nat) : List Value := [.int .i64 k]
/-- Which places are in a list. -/
def seenV (n : Nat) (q : List Nat) : List Value := (List.range n).map fun i => .bool (decide (i ∈ q))

theorem seenV_get {n : Nat} {q : List Nat} {k : Nat} (hk : k < n) : (seenV n q)[k]? = some (.bool (decide (k ∈ q))) := by
  simp [seenV, hk]
theorem seenV_add {n : Nat} {q : List Nat} {k : Nat} (hk : k < n) : (seenV n q).set k (.bool true) = seenV n (q ++ [k]) := by
  apply List.ext_getElem?
  intro i
  rw [List.getElem?_set]
  by_cases hi : i < n
  · rw [seenV_get hi, seenV_get hi]
    split
    · rename_i e; subst e; rw [if_pos (by simpa [seenV] using hk)]; simp
    · rename_i e
      congr 2
      rw [decide_eq_decide]
      simp only [List.mem_append, List.mem_singleton]
      constructor
      · intro h; exact .inl h
      · rintro (h | h)
        · exact h
        · exact absurd h.symm e
  · have h1 : (seenV n q)[i]? = none := List.getElem?_eq_none (by simp [seenV]; omega)
    have h2 : (seenV n (q ++ [k]))[i]? = none := List.getElem?_eq_none (by simp [seenV]; omega)
    rw [h1, h2, if_neg (by omega)]

/-- Threads: places in code, each once. F: the blocks that they lie in. -/
def Th (w : World) (p n : Nat) (q : List Nat) (F : Nat → Prop) : Prop :=
  ∃ lv sb, Blk w p 83 [lv, .slice (some ⟨sb, 0, none⟩) n n] ∧ Own 0 3 1 encN w lv q ∧ Blk w sb 4 (seenV n q) ∧ p ≠ sb ∧ (∀ g, lv.ownBlock = some g → g ≠ p ∧ g ≠ sb ∧ F g) ∧ F p ∧ F sb ∧ Places n q

theorem Th.kept {w w' : World} {p n : Nat} {q : List Nat} {F X : Nat → Prop} (h : Th w p n q F) (hk : Kept X w w') (hX : ∀ k, F k → ¬ X k) : Th w' p n q F := by
  obtain ⟨lv, sb, h1, h2, h3, h4, h5, h6, h7, h8⟩ := h
  exact ⟨lv, sb, h1.kept hk (hX p h6), h2.keptX hk (fun g hg => hX g (h5 g hg).2.2), h3.kept hk (hX sb h7), h4, h5, h6, h7, h8⟩

theorem add_c (p n : Nat) (q : List Nat) (F : Nat → Prop) (k : Nat) (hk : k < n) (hn : n < 1000000) (w : World) (h : Th w p n q F) :
    Fun Tryd.prog 41 [.pointer (some ⟨p, 0, none⟩), .int .i64 k] w fun _ w' => Kept F w w' ∧ Th w' p n (addQ q k) (fun j => F j ∨ w.heap.size ≤ j) := by
  obtain ⟨lv, sb, hp, hl, hs, hne, hg, hFp, hFs, hP⟩ := h
  have c0 : w.cell? ⟨p, 0, none⟩ = some lv := hp.cell rfl
  have c1 : w.cell? ⟨p, 1, none⟩ = some (.slice (some ⟨sb, 0, none⟩) n n) := hp.cell rfl
  have cs : w.cell? ⟨sb, k, none⟩ = some (.bool (decide (k ∈ q))) := hs.cell (seenV_get hk)
  refine fun_of_vc Tryd.func41 rfl (by kernel_rfl) [] rfl ?_
  simp -dsimp only [push_cast, fr0, Tryd.ntmps41, List.length_cons, List.length_nil, Nat.reduceAdd, Nat.reduceSub, Nat.reduceBEq, List.replicate_succ, List.replicate_zero]
  simp -dsimp only [push_cast, Nat.reduceAdd, Nat.reduceLeDiff, Nat.reduceBEq, decide_true, c1, cs]
  refine ⟨⟨by omega, by omega⟩, ?_⟩
  have hql := hP.len
  refine ⟨fun hkq => ⟨⟨by omega, by omega⟩, ?_⟩, fun hkq => ?_⟩
  · have hkq : k ∉ q := hkq
    refine storeK_of hs (by simp [seenV]; exact hk) rfl ?_
    intro w1 hw1
    rw [seenV_add hk] at hw1
    have hp1 := hp.kept hw1.kept (by exact hne)
    have d0 : w1.cell? ⟨p, 0, none⟩ = some lv := hp1.cell rfl
    have hl1 := hl.keptX hw1.kept (fun g hg' => (hg g hg').2.1)
    simp -dsimp only [push_cast, Nat.reduceAdd, Nat.reduceLeDiff, Nat.reduceBEq, decide_true, d0]
    refine rowK elI_26 rfl rfl (by omega) ?_
    intro w2 hw2
    simp -dsimp only [push_cast, Nat.reduceAdd, Nat.reduceLeDiff, Nat.reduceBEq, decide_true]
    have hp2 := hp1.kept (Kept.new hw2 (X := fun _ => False)) id
    have hs2 := hw1.blk.kept (Kept.new hw2 (X := fun _ => False)) id
    have hsz2 := hw2.size
    have hsz1 := hw1.size
    refine appendK2 (base := 0) [k] (enc := encN) elI_26 (hl1.new hw2) rfl (fun j u hu => by simpa using hw2.cell hu) (by simp [encN, Value.oneCell']) (by simp only [List.length_cons, List.length_nil]; omega) (Nat.zero_le _) ?_
    intro v' w3 ho3 hg3 hn3
    have hgk : Kept (fun j => lv.ownBlock = some j) w2 w3 := Kept.grown hg3 (fun _ h => h)
    have hp3 := hp2.kept hgk (fun h => (hg _ h).1 rfl)
    have hs3 := hs2.kept hgk (fun h => (hg _ h).2.1 rfl)
    obtain ⟨a3, c3, hv3⟩ := ho3.slice
    subst hv3
    simp -dsimp only [push_cast, Nat.reduceAdd, Nat.reduceLeDiff, Nat.reduceBEq, decide_true]
    refine storeK_of hp3 (by simp) rfl ?_
    intro w4 hw4
    simp -dsimp only [push_cast, Nat.reduceAdd, Nat.reduceLeDiff, Nat.reduceBEq, decide_true]
    have k1 : Kept F w w1 := hw1.kept.weaken (fun i _ h => by subst h; exact hFs)
    have k2 : Kept F w w2 := k1.trans (Kept.new hw2 (X := fun _ => False)) (fun _ _ h => h.elim)
    have k3 : Kept F w w3 := k2.trans hgk (fun i _ h => (hg i h).2.2)
    have k4 : Kept F w w4 := k3.trans hw4.kept (fun i _ h => by subst h; exact hFp)
    have hnew : ∀ g, (Value.slice a3 (q ++ [k]).length c3).ownBlock = some g → g ≠ p ∧ g ≠ sb ∧ (F g ∨ w.heap.size ≤ g) := fun g hgg => by
      rcases hn3 g hgg with h | h
      · exact ⟨(hg g h).1, (hg g h).2.1, .inl (hg g h).2.2⟩
      · have := hp.lt; have := hs.lt
        exact ⟨by omega, by omega, .inr (by omega)⟩
    have e : addQ q k = q ++ [k] := by unfold addQ; rw [if_neg hkq]
    refine ⟨k4, _, sb, hw4.blk, ?_, by rw [e]; exact hs3.kept hw4.kept (fun h => hne h.symm), hne, hnew, .inl hFp, .inl hFs, hP.add hk⟩
    rw [e]
    exact ho3.keptX hw4.kept (fun g hgg h => (hnew g hgg).1 h)
  · have hkq : k ∈ q := Classical.byContradiction hkq
    have e : addQ q k = q := by unfold addQ; rw [if_pos hkq]
    refine ⟨Kept.refl _ _, ?_⟩
    rw [e]
    exact ⟨lv, sb, hp, hl, hs, hne, fun g h => ⟨(hg g h).1, (hg g h).2.1, .inl (hg g h).2.2⟩, .inl hFp, .inl hFs, hP⟩

theorem seenV_del {n : Nat} {q : List Nat} {k : Nat} (hk : k < n) : (seenV n q).set k (.bool false) = seenV n (q.filter (· ≠ k)) := by
  apply List.ext_getElem?
  intro i
  rw [List.getElem?_set]
  by_cases hi : i < n
  · rw [seenV_get hi, seenV_get hi]
    split
    · rename_i e; subst e; rw [if_pos (by simpa [seenV] using hk)]; simp
    · rename_i e
      congr 2
      rw [decide_eq_decide]
      simp only [List.mem_filter, decide_eq_true_eq]
      constructor
      · intro h; exact ⟨h, fun h => e h.symm⟩
      · exact fun h => h.1
  · have h1 : (seenV n q)[i]? = none := List.getElem?_eq_none (by simp [seenV]; omega)
    have h2 : (seenV n (q.filter (· ≠ k)))[i]? = none := List.getElem?_eq_none (by simp [seenV]; omega)
    rw [h1, h2, if_neg (by omega)]

theorem clear_c (p n : Nat) (q : List Nat) (F : Nat → Prop) (hn : n < 1000000) (w : World) (h : Th w p n q F) :
    Fun Tryd.prog 43 [.pointer (some ⟨p, 0, none⟩)] w fun _ w' => Kept F w w' ∧ Th w' p n [] F := by
  obtain ⟨lv, sb, hp, hl, hs, hne, hg, hFp, hFs, hP⟩ := h
  have c0 : w.cell? ⟨p, 0, none⟩ = some lv := hp.cell rfl
  obtain ⟨a, cp, rfl⟩ := hl.slice
  have hql := hP.len
  have hsl := hl.sl
  refine fun_of_vc Tryd.func43 rfl (by kernel_rfl) [] rfl ?_
  simp -dsimp only [push_cast, fr0, Tryd.ntmps43, List.length_cons, List.length_nil, Nat.reduceAdd, Nat.reduceSub, Nat.reduceBEq, List.replicate_succ, List.replicate_zero]
  simp -dsimp only [push_cast, Nat.reduceAdd, Nat.reduceLeDiff, Nat.reduceBEq, decide_true, c0]
  refine wpL_loop [3, 9, 10, 11, 12, 13, 14, 15, 16, 17, 18, 19] (fun z wx => ∃ (i : Nat), z 9 = .int .i64 i ∧ i ≤ q.length ∧ Kept (· = sb) w wx ∧ Blk wx sb 4 (seenV n (q.drop i))) (fun z _ => q.length - (intOf (z 9)).toNat) ?_ ?_
  · exact ⟨0, rfl, Nat.zero_le _, Kept.refl _ _, hs⟩
  · intro z wx hI
    obtain ⟨i, h9, hi, hk, hB⟩ := hI
    have hpx := hp.kept hk hne
    have d1 : wx.cell? ⟨p, 1, none⟩ = some (.slice (some ⟨sb, 0, none⟩) n n) := hpx.cell rfl
    have d0 : wx.cell? ⟨p, 0, none⟩ = some (.slice a q.length cp) := hpx.cell rfl
    have hlx := hl.keptX hk (fun g hg' h => (hg g hg').2.1 h)
    simp -dsimp only [push_cast, Nat.reduceAdd, Nat.reduceLeDiff, Nat.reduceBEq, decide_true, h9]
    refine ⟨fun hlt => ?_, fun hge => ?_⟩
    · obtain ⟨x, hx, hxm, hd, ht⟩ := lt_get (l := q) (i := i) (by omega)
      obtain ⟨b, o, rfl, hX, hcell⟩ := hlx.sl.get hx
      have cx : wx.cell? ⟨b, o + i, none⟩ = some (.int .i64 x) := by simpa using hcell 0 _ rfl
      have hxn := hP.2 x hxm
      simp -dsimp only [push_cast, Nat.reduceAdd, Nat.reduceLeDiff, Nat.reduceBEq, decide_true, cx, d1]
      refine ⟨⟨by omega, by omega⟩, ⟨by omega, by omega⟩, ?_⟩
      refine storeK_of hB (by simp [seenV]; exact hxn) rfl ?_
      intro w1 hw1
      rw [seenV_del hxn] at hw1
      simp -dsimp only [push_cast, Nat.reduceAdd, Nat.reduceLeDiff, Nat.reduceBEq, decide_true]
      refine ⟨⟨by omega, by omega⟩, ⟨i + 1, rfl, by omega, hk.trans hw1.kept (fun _ _ h => h), ?_⟩, by rw [h9]; simp only [intOf]; omega⟩
      have e : seenV n ((q.drop i).filter (· ≠ x)) = seenV n (q.drop (i + 1)) := by
        have hnd : (q.drop i).Nodup := hP.1.sublist (List.drop_sublist _ _)
        rw [hd] at hnd ⊢
        rw [List.filter_cons_of_neg (by simp)]
        have : (q.drop (i + 1)).filter (· ≠ x) = q.drop (i + 1) := List.filter_eq_self.2 (fun y hy => by
          have := (List.nodup_cons.1 hnd).1
          simp only [decide_eq_true_eq]
          intro h; subst h; exact this hy)
        rw [this]
      rw [e] at hw1
      exact hw1.blk
    · rw [List.drop_eq_nil_of_le (by omega)] at hB
      simp -dsimp only [push_cast, Nat.reduceAdd, Nat.reduceLeDiff, Nat.reduceBEq, decide_true, d0]
      have hfin : ∀ a' c', Own 0 3 1 encN wx (.slice a' 0 c') [] → (∀ g, (Value.slice a' 0 c').ownBlock = some g → (Value.slice a q.length cp).ownBlock = some g) → ∀ w2, Put wx w2 p 83 [.slice a' 0 c', .slice (some ⟨sb, 0, none⟩) n n] → Kept F w w2 ∧ Th w2 p n [] F := fun a' c' ho hgg w2 hw2 => by
        refine ⟨(hk.weaken (fun i _ h => by subst h; exact hFs)).trans hw2.kept (fun i _ h => by subst h; exact hFp), _, sb, hw2.blk, ho.keptX hw2.kept (fun g h1 h2 => (hg g (hgg g h1)).1 h2), hB.kept hw2.kept (fun h => hne h.symm), hne, fun g h1 => hg g (hgg g h1), hFp, hFs, Places.nil n⟩
      rcases hlx.cut with ⟨rfl, hq0, rfl, rfl⟩ | ⟨g, rfl, _, hle, hcut⟩
      · simp -dsimp only [push_cast, Nat.reduceAdd, Nat.reduceLeDiff, Nat.reduceBEq, decide_true]
        refine storeK_of hpx (by simp) rfl ?_
        intro w2 hw2
        simp -dsimp only [push_cast, Nat.reduceAdd, Nat.reduceLeDiff, Nat.reduceBEq, decide_true]
        exact hfin none 0 hlx (fun g h => h) w2 hw2
      · simp -dsimp only [push_cast, Nat.reduceAdd, Nat.reduceLeDiff, Nat.reduceBEq, decide_true]
        refine ⟨by omega, storeK_of hpx (by simp) rfl ?_⟩
        intro w2 hw2
        simp -dsimp only [push_cast, Nat.reduceAdd, Nat.reduceLeDiff, Nat.reduceBEq, decide_true]
        exact hfin _ cp (hcut 0 (Nat.zero_le _)) (fun g h => h) w2 hw2
end Go.Proofs.YtimjpijbcnjaaaaDoor
