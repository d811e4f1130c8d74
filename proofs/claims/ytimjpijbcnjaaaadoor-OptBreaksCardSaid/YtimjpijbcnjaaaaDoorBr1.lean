import Derived.Test.YtimjpijbcnjaaaaDoorMore
import Derived.Test.YtimjpijbcnjaaaaDoorV
namespace Go.Vc
theorem Own.at0 {α : Type} {base k : Nat} {e : TypeId} {enc : α → List Value} {w : World} {b o n c : Nat} {l : List α} (h : Own base e k enc w (.slice (some ⟨b, o, none⟩) n c) l) : o = 0 := by
  rcases h.1.2 with ⟨he, _⟩ | ⟨g, cap, cr, he, _⟩
  · cases he
  · cases he; rfl
end Go.Vc
namespace Go.Proofs.YtimjpijbcnjaaaaDoor
open Go.Vc Go.Proofs Go.RowKit Cae
set_option maxRecDepth 100000
set_option linter.unusedSimpArgs false
set_option linter.unusedVariables false
attribute [local irreducible] wpL callK valK unitK runK Fun Sl Own vc vcOps opK pureK
set_option maxHeartbeats 4000000

theorem sides_c (ps : List Int) (i : Nat) (hi : i ≤ ps.length) (hn : ps.length < 1000000000) (X : Nat → Prop) (v : Value) (w : World) (hv : Sl X 1 (En encI) w v ps) :
    Fun Tryd.prog 58 [v, .int .i64 i] w fun r w' => (∃ v1 v2, r = .tuple #[v1, v2] ∧ Own w.heap.size 3 1 encI w' v1 (ps.take i).reverse ∧ Sl X 1 (En encI) w' v2 (ps.drop i)) ∧ Below w.heap.size w w' := by
  obtain ⟨a, c, rfl, hc⟩ := hv.shape
  refine fun_of_vc Tryd.func58 rfl (by kernel_rfl) [4, 5] rfl ?_
  simp -dsimp only [push_cast, fr0, Tryd.ntmps58, List.length_cons, List.length_nil, Nat.reduceAdd, Nat.reduceSub, Nat.reduceBEq, List.replicate_succ, List.replicate_zero]
  refine ⟨⟨by omega, by omega⟩, ?_⟩
  refine wpL_loop [4, 6, 9, 10, 11, 12, 13, 14, 15, 16, 17, 18, 19] (fun z wx => ∃ (m : Nat) (u : Value), z 6 = .int .i64 ((m : Int) - 1) ∧ z 4 = u ∧ m ≤ i ∧ Own w.heap.size 3 1 encI wx u ((ps.take i).drop m).reverse ∧ Below w.heap.size w wx) (fun z _ => (intOf (z 6) + 1).toNat) ?_ ?_
  · refine ⟨i, _, rfl, rfl, Nat.le_refl _, ?_, Below.refl _ _⟩
    rw [List.drop_eq_nil_of_le (by rw [List.length_take]; omega)]
    exact Own.nil (enc := encI) _ _ (fun _ => rfl) _
  · intro z wx hI
    obtain ⟨m, u, h6, h4, hm, ho, hb⟩ := hI
    obtain ⟨ua, uc, rfl⟩ := ho.slice
    have szx := hb.size
    simp -dsimp only [push_cast, Nat.reduceAdd, Nat.reduceLeDiff, Nat.reduceBEq, decide_true, ne_eq, eq_self, not_true_eq_false, not_false_eq_true, true_imp_iff, false_imp_iff, Int.reduceNe, Int.reduceEq, Int.reduceLT, Int.reduceLE, Bool.not_true, Bool.not_false, h6, h4]
    refine ⟨fun hlt => ?_, fun hge => ?_⟩
    · have hex : ∃ (x : Int) (b o : Nat), ps[m - 1]? = some x ∧ a = some ⟨b, o, none⟩ ∧ wx.cell? ⟨b, o + (m - 1), none⟩ = some (.int .i64 x) := by
        obtain ⟨x, hx, _⟩ := lt_get (l := ps) (i := m - 1) (by omega)
        have hg := (hv.below hb).get hx
        obtain ⟨b, o, e, _, hcl⟩ := hg
        exact ⟨x, b, o, hx, e, by simpa using hcl 0 _ rfl⟩
      obtain ⟨x, b, o, hx, he, cx⟩ := hex
      have em : ((m : Int) - 1) = ((m - 1 : Nat) : Int) := by omega
      rw [em]
      simp -dsimp only [push_cast, Nat.reduceAdd, Nat.reduceLeDiff, Nat.reduceBEq, decide_true, ne_eq, eq_self, not_true_eq_false, not_false_eq_true, true_imp_iff, false_imp_iff, Int.reduceNe, Int.reduceEq, Int.reduceLT, Int.reduceLE, Bool.not_true, Bool.not_false, indexAddrK_at he, cx]
      refine ⟨⟨by omega, by omega⟩, ?_⟩
      refine rowK elI_26 rfl rfl (by omega) ?_
      intro w1 hw1
      have sz1 := hw1.size
      have hlen : ((ps.take i).drop m).reverse.length = i - m := by rw [List.length_reverse, List.length_drop, List.length_take]; omega
      simp -dsimp only [push_cast, Nat.reduceAdd, Nat.reduceLeDiff, Nat.reduceBEq, decide_true, ne_eq, eq_self, not_true_eq_false, not_false_eq_true, true_imp_iff, false_imp_iff, Int.reduceNe, Int.reduceEq, Int.reduceLT, Int.reduceLE, Bool.not_true, Bool.not_false]
      refine appendK2 (base := w.heap.size) [x] (enc := encI) elI_26 (ho.new hw1) (by rfl) (fun j u hu => by simpa [encI] using hw1.cell hu) (by simp [encI, Value.oneCell']) (by simp only [List.length_cons, List.length_nil, hlen]; omega) (by omega) ?_
      intro v' w2 ho2 hg2 hn2
      have hk2 : Kept (fun j => (Value.slice ua ((ps.take i).drop m).reverse.length uc).ownBlock = some j) w1 w2 := Kept.grown hg2 (fun _ h => h)
      have hb2 : Below w.heap.size w w2 := hb.trans ((hw1.below.mono szx).trans (hk2.below (by omega) (fun g h => (ho.block g h).1)))
      have hstep : ((ps.take i).drop (m - 1)).reverse = ((ps.take i).drop m).reverse ++ [x] := by
        have hl : m - 1 < (ps.take i).length := by rw [List.length_take]; omega
        rw [List.drop_eq_getElem_cons hl, List.reverse_cons, show m - 1 + 1 = m by omega]
        congr 2
        have := List.getElem?_eq_getElem hl
        rw [List.getElem?_take_of_lt (by omega), hx] at this
        exact (Option.some.inj this).symm
      simp -dsimp only [push_cast, Nat.reduceAdd, Nat.reduceLeDiff, Nat.reduceBEq, decide_true, ne_eq, eq_self, not_true_eq_false, not_false_eq_true, true_imp_iff, false_imp_iff, Int.reduceNe, Int.reduceEq, Int.reduceLT, Int.reduceLE, Bool.not_true, Bool.not_false]
      refine ⟨⟨by omega, by omega⟩, ⟨m - 1, _, rfl, rfl, by omega, ?_, hb2⟩, by rw [h6]; simp only [intOf]; omega⟩
      rw [hstep]
      exact ho2
    · have hm0 : m = 0 := by omega
      subst hm0
      rw [List.drop_zero] at ho
      refine wpL_draw (fun _ => True) mixed (by kernel_rfl) trivial ?_
      simp -dsimp only [push_cast, Nat.reduceAdd, Nat.reduceLeDiff, Nat.reduceBEq, decide_true, ne_eq, eq_self, not_true_eq_false, not_false_eq_true, true_imp_iff, false_imp_iff, Int.reduceNe, Int.reduceEq, Int.reduceLT, Int.reduceLE, Bool.not_true, Bool.not_false]
      refine sliceLoK ((hv.below hb).below (Below.refl _ _).drew) hi ?_
      intro a' c' hs
      simp -dsimp only [push_cast, Nat.reduceAdd, Nat.reduceLeDiff, Nat.reduceBEq, decide_true, ne_eq, eq_self, not_true_eq_false, not_false_eq_true, true_imp_iff, false_imp_iff, Int.reduceNe, Int.reduceEq, Int.reduceLT, Int.reduceLE, Bool.not_true, Bool.not_false]
      exact ⟨⟨_, _, rfl, ho.keptX (Kept.refl (fun _ => False) _).drew (fun _ _ h => h), hs⟩, hb.drew⟩

theorem reverse_c (l : List Int) (base : Nat) (v : Value) (w : World) (hn : l.length < 1000000000) (ho : Own base 3 1 encI w v l) (hb0 : base ≤ w.heap.size) :
    Fun Tryd.prog 59 [v] w fun _ w' => Own base 3 1 encI w' v l.reverse ∧ Below base w w' := by
  obtain ⟨a, c, rfl⟩ := ho.slice
  refine fun_of_vc Tryd.func59 rfl (by kernel_rfl) [] rfl ?_
  simp -dsimp only [push_cast, fr0, Tryd.ntmps59, List.length_cons, List.length_nil, Nat.reduceAdd, Nat.reduceSub, Nat.reduceBEq, List.replicate_succ, List.replicate_zero]
  refine ⟨⟨by omega, by omega⟩, ?_⟩
  refine wpL_loop [2, 3, 7, 8, 9, 10, 11, 12, 13, 14, 15, 16, 17, 18, 19, 20, 21, 22, 23, 24, 25, 26, 27] (fun z wx => ∃ (i : Nat) (cur : List Int), z 2 = .int .i64 i ∧ z 3 = .int .i64 ((l.length : Int) - 1 - i) ∧ 2 * i ≤ l.length ∧ cur.length = l.length ∧ (∀ k, k < l.length → cur[k]? = if k < i ∨ l.length - i ≤ k then l[l.length - 1 - k]? else l[k]?) ∧ Own base 3 1 encI wx (.slice a l.length c) cur ∧ Below base w wx) (fun z _ => l.length - (intOf (z 2)).toNat) ?_ ?_
  · exact ⟨0, l, rfl, by simp [at_], by omega, rfl, fun k hk => by rw [if_neg (by omega)], ho, Below.refl _ _⟩
  · intro z wx hI
    obtain ⟨i, cur, h2, h3, hi, hcl, hcur, hox, hb⟩ := hI
    have szx := hb.size
    simp -dsimp only [push_cast, Nat.reduceAdd, Nat.reduceLeDiff, Nat.reduceBEq, decide_true, ne_eq, eq_self, not_true_eq_false, not_false_eq_true, true_imp_iff, false_imp_iff, Int.reduceNe, Int.reduceEq, Int.reduceLT, Int.reduceLE, Bool.not_true, Bool.not_false, h2, h3]
    refine ⟨fun hlt => ?_, fun hge => ?_⟩
    · have hex : ∃ (x y : Int) (g : Nat), cur[i]? = some x ∧ cur[l.length - 1 - i]? = some y ∧ a = some ⟨g, 0, none⟩ ∧ wx.cell? ⟨g, i, none⟩ = some (.int .i64 x) ∧ wx.cell? ⟨g, l.length - 1 - i, none⟩ = some (.int .i64 y) := by
        obtain ⟨x, hx, _⟩ := lt_get (l := cur) (i := i) (by omega)
        obtain ⟨y, hy, _⟩ := lt_get (l := cur) (i := l.length - 1 - i) (by omega)
        have hgx := hox.sl.get hx
        have hgy := hox.sl.get hy
        obtain ⟨b, o, e, _, hcx⟩ := hgx
        obtain ⟨b', o', e', _, hcy⟩ := hgy
        rw [e] at e'
        cases e'
        have ho0 : o = 0 := Own.at0 (by rw [← e]; exact hox)
        subst ho0
        exact ⟨x, y, b, hx, hy, e, by simpa using hcx 0 _ rfl, by simpa using hcy 0 _ rfl⟩
      obtain ⟨x, y, g, hx, hy, he, cx, cy⟩ := hex
      subst he
      have ej : ((l.length : Int) - 1 - i) = ((l.length - 1 - i : Nat) : Int) := by omega
      rw [ej]
      refine wpL_told [0, 1, 2, 3, 4, 5, 6, 7, 8, 9, 10, 11, 12] 13 [14, 15] (fun w' => w' = wx.drew) mixed (by kernel_rfl) rfl ?_
      have cx' : wx.drew.cell? ⟨g, i, none⟩ = some (.int .i64 x) := cx
      have cy' : wx.drew.cell? ⟨g, l.length - 1 - i, none⟩ = some (.int .i64 y) := cy
      have hod : Own base 3 1 encI wx.drew (.slice (some ⟨g, 0, none⟩) l.length c) cur := hox.keptX (Kept.refl (fun _ => False) _).drew (fun _ _ h => h)
      simp -dsimp only [push_cast, Nat.reduceAdd, Nat.reduceLeDiff, Nat.reduceBEq, decide_true, ne_eq, eq_self, not_true_eq_false, not_false_eq_true, true_imp_iff, false_imp_iff, Int.reduceNe, Int.reduceEq, Int.reduceLT, Int.reduceLE, Bool.not_true, Bool.not_false, cx', cy']
      refine ⟨⟨by omega, by omega⟩, fun w'' hC => by rw [hC, cy']; exact rfl, ⟨by omega, by omega⟩, fun w'' hC => by rw [hC, cx']; exact rfl, ⟨by omega, by omega⟩, ?_⟩
      refine storeOwn (i := i) (y := y) hod rfl (by omega) rfl rfl ?_
      intro w1 ho1 hk1 sz1
      refine ⟨trivial, ?_⟩
      simp -dsimp only [push_cast, Nat.reduceAdd, Nat.reduceLeDiff, Nat.reduceBEq, decide_true, ne_eq, eq_self, not_true_eq_false, not_false_eq_true, true_imp_iff, false_imp_iff, Int.reduceNe, Int.reduceEq, Int.reduceLT, Int.reduceLE, Bool.not_true, Bool.not_false]
      refine ⟨⟨by omega, by omega⟩, ?_⟩
      have hl1 : l.length - 1 - i < (cur.set i y).length := by rw [List.length_set]; omega
      have el1 : (cur.set i y).length = cur.length := List.length_set
      refine storeOwn (i := l.length - 1 - i) (y := x) ho1 rfl hl1 rfl rfl ?_
      intro w2 ho2 hk2 sz2
      have hkd : Kept (fun j => j = g) wx w2 := (((Kept.refl (fun j => j = g) wx).drew).trans hk1 (fun _ _ h => h)).trans hk2 (fun _ _ h => h)
      have hgb : base ≤ g := (hox.block g rfl).1
      refine ⟨trivial, ?_⟩
      simp -dsimp only [push_cast, Nat.reduceAdd, Nat.reduceLeDiff, Nat.reduceBEq, decide_true, ne_eq, eq_self, not_true_eq_false, not_false_eq_true, true_imp_iff, false_imp_iff, Int.reduceNe, Int.reduceEq, Int.reduceLT, Int.reduceLE, Bool.not_true, Bool.not_false]
      refine ⟨⟨by omega, by omega⟩, ⟨by omega, by omega⟩, ⟨i + 1, (cur.set i y).set (l.length - 1 - i) x, rfl, by congr 1; omega, by omega, by rw [List.length_set, List.length_set]; exact hcl, fun k hk => ?_, ho2, hb.trans (hkd.below (by omega) (fun j h => by rw [show j = g from h]; exact hgb))⟩, by rw [h2]; simp only [intOf]; omega⟩
      rw [List.getElem?_set, List.getElem?_set]
      have hci := hcur i (by omega)
      have hcj := hcur (l.length - 1 - i) (by omega)
      rw [if_neg (by omega)] at hci hcj
      rw [hx] at hci
      rw [hy] at hcj
      by_cases e1 : l.length - 1 - i = k
      · rw [if_pos e1, if_pos hl1, if_pos (by omega), hci]
        congr 1; omega
      · rw [if_neg e1]
        by_cases e2 : i = k
        · rw [if_pos e2, if_pos (by omega), if_pos (by omega), hcj]
          congr 1; omega
        · rw [if_neg e2, hcur k hk]
          by_cases e3 : k < i ∨ l.length - i ≤ k
          · rw [if_pos e3, if_pos (by omega)]
          · rw [if_neg e3, if_neg (by omega)]
    · have hrev : cur = l.reverse := by
        apply List.ext_getElem?
        intro k
        by_cases hk : k < l.length
        · rw [hcur k hk, List.getElem?_reverse hk]
          split
          · rfl
          · congr 1; omega
        · rw [List.getElem?_eq_none (by omega), List.getElem?_eq_none (by rw [List.length_reverse]; omega)]
      subst hrev
      exact ⟨hox, hb⟩

theorem sameInts_c (l m : List Nat) (hl : l.length < 1000000000) (X Y : Nat → Prop) (lv mv : Value) (w : World) (hlv : Sl X 1 (En encN) w lv l) (hmv : Sl Y 1 (En encN) w mv m) :
    Fun Tryd.prog 25 [lv, mv] w fun r w' => r = .bool (decide (l = m)) ∧ Below w.heap.size w w' := by
  obtain ⟨a, c, rfl, hc⟩ := hlv.shape
  obtain ⟨b, d, rfl, hd⟩ := hmv.shape
  refine fun_of_vc Tryd.func25 rfl (by kernel_rfl) [4] rfl ?_
  simp -dsimp only [push_cast, fr0, Tryd.ntmps25, List.length_cons, List.length_nil, Nat.reduceAdd, Nat.reduceSub, Nat.reduceBEq, List.replicate_succ, List.replicate_zero]
  refine ⟨fun hne => ?_, fun heq => ?_⟩
  · refine ⟨?_, Below.refl _ _⟩
    congr 1
    exact (decide_eq_false (fun h => by subst h; omega)).symm
  · have hlm : l.length = m.length := by omega
    refine wpL_loop [4, 5, 11, 12, 13, 14, 15, 16, 17, 18, 19, 20, 21, 22, 23, 24, 25] (fun z wx => ∃ (j : Nat), z 5 = .int .i64 j ∧ j ≤ l.length ∧ l.take j = m.take j ∧ Below w.heap.size w wx) (fun z _ => l.length - (intOf (z 5)).toNat) ?_ ?_
    · exact ⟨0, rfl, Nat.zero_le _, by simp, Below.refl _ _⟩
    · intro z wx hI
      obtain ⟨j, h5, hj, htk, hb⟩ := hI
      simp -dsimp only [push_cast, Nat.reduceAdd, Nat.reduceLeDiff, Nat.reduceBEq, decide_true, ne_eq, eq_self, not_true_eq_false, not_false_eq_true, true_imp_iff, false_imp_iff, Int.reduceNe, Int.reduceEq, Int.reduceLT, Int.reduceLE, Bool.not_true, Bool.not_false, h5]
      refine ⟨fun hlt => ?_, fun hge => ?_⟩
      · have hex : ∃ (x y : Nat) (g o g' o' : Nat), l[j]? = some x ∧ m[j]? = some y ∧ a = some ⟨g, o, none⟩ ∧ b = some ⟨g', o', none⟩ ∧ wx.drew.cell? ⟨g, o + j, none⟩ = some (.int .i64 x) ∧ wx.drew.cell? ⟨g', o' + j, none⟩ = some (.int .i64 y) := by
          obtain ⟨x, hx, _⟩ := lt_get (l := l) (i := j) (by omega)
          obtain ⟨y, hy, _⟩ := lt_get (l := m) (i := j) (by omega)
          have h1 := (hlv.below hb).get hx
          have h2 := (hmv.below hb).get hy
          obtain ⟨g, o, e, _, hcx⟩ := h1
          obtain ⟨g', o', e', _, hcy⟩ := h2
          exact ⟨x, y, g, o, g', o', hx, hy, e, e', by simpa using hcx 0 _ rfl, by simpa using hcy 0 _ rfl⟩
        obtain ⟨x, y, g, o, g', o', hx, hy, he, he', cx, cy⟩ := hex
        refine wpL_draw (fun w' => w' = wx.drew) mixed (by kernel_rfl) rfl ?_
        simp -dsimp only [push_cast, Nat.reduceAdd, Nat.reduceLeDiff, Nat.reduceBEq, decide_true, ne_eq, eq_self, not_true_eq_false, not_false_eq_true, true_imp_iff, false_imp_iff, Int.reduceNe, Int.reduceEq, Int.reduceLT, Int.reduceLE, Bool.not_true, Bool.not_false, indexAddrK_at he, indexAddrK_at he', cx, cy]
        refine ⟨⟨by omega, by omega⟩, fun w'' hC => by rw [hC, cx]; exact rfl, ⟨by omega, by omega⟩, fun w'' hC => by rw [hC, cy]; exact rfl, ?_⟩
        refine ⟨fun hne => ⟨?_, hb.drew⟩, fun heq => ?_⟩
        · congr 1
          refine (decide_eq_false (fun h => ?_)).symm
          subst h
          rw [hx] at hy
          cases hy
          exact hne rfl
        · have exy : x = y := by omega
          subst exy
          refine ⟨⟨by omega, by omega⟩, ⟨j + 1, rfl, by omega, ?_, hb.drew⟩, by rw [h5]; simp only [intOf]; omega⟩
          rw [List.take_add_one, List.take_add_one, htk, hx, hy]
      · refine ⟨?_, hb⟩
        rw [List.take_of_length_le (by omega), List.take_of_length_le (by omega)] at htk
        congr 1
        exact (decide_eq_true htk).symm
end Go.Proofs.YtimjpijbcnjaaaaDoor
