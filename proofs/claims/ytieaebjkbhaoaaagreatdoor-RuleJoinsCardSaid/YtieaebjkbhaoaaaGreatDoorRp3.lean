import Derived.Test.YtieaebjkbhaoaaaGreatDoorRp2
namespace Cae
theorem map_same {α : Type} {f : α → α} {l : List α} (h : ∀ r ∈ l, f r = r) : l.map f = l := by
  induction l with
  | nil => rfl
  | cons x l ih => rw [List.map_cons, h x (by simp), ih (fun r hr => h r (by simp [hr]))]
theorem setP_of {s : List UInt8} {l : List Rg} (h : PrintOf s l) : setP s = some l := by
  obtain ⟨hr, rfl⟩ := h
  have hb : ((printP l).drop 1).dropLast = bodyP l := by
    unfold printP bodyP
    simp
  have hmap : (if ((printP l).drop 1).dropLast = [] then ([] : List Rg) else (splitB 32 ((printP l).drop 1).dropLast).map fun p => (((hexV (cutP 45 p).1 : Nat) : Int), if (cutP 45 p).2.2 then ((hexV (cutP 45 p).2.1 : Nat) : Int) else ((hexV (cutP 45 p).1 : Nat) : Int))) = l := by
    rw [hb]
    by_cases h0 : bodyP l = []
    · rw [if_pos h0, bodyP_nil h0]
    · rw [if_neg h0, split_body hr h0, List.map_map]
      refine map_same fun r hrm => ?_
      obtain ⟨h1, h2, h3⟩ := mem_right (by omega) hr r hrm
      simp only [Function.comp]
      by_cases hlt : r.1 < r.2
      · rw [cut_rg h1 (by omega) (by omega) hlt]
        simp only [if_true]
        rw [hexP_val (by omega), hexP_val (by omega)]
        ext <;> simp <;> omega
      · rw [cut_rg1 h1 (by omega) hlt]
        simp only [Bool.false_eq_true, if_false]
        rw [hexP_val (by omega)]
        ext <;> simp <;> omega
  unfold setP
  simp only
  rw [hmap, hr]
  simp
theorem setP_no {s : List UInt8} (h : ∀ l, ¬ PrintOf s l) : setP s = none := by
  cases hs : setP s with
  | none => rfl
  | some l => exact absurd (setP_ok hs) (h l)
end Cae
namespace Go.Proofs.YtieaebjkbhaoaaaGreatDoor
open Go.Vc Go.Proofs Go.RowKit Cae
set_option maxRecDepth 100000
set_option linter.unusedSimpArgs false
set_option linter.unusedVariables false
attribute [local irreducible] wpL callK valK unitK runK Fun Sl Own vc vcOps opK pureK
set_option maxHeartbeats 4000000

def OneC (d : Nat) : Prop := ∀ (n : Int), 0 ≤ n → n + (d : Int) = 9 → ∀ (pb B : Nat) (w : World) (l : List Tok), PS pb B w l → Pc 38 [.pointer (some ⟨pb, 0, none⟩), .int .i64 n] pb B w l (oneP d) (fun w' r k => KindV (· < w.heap.size) w' r k)
def KindC (d : Nat) : Prop := ∀ (n : Int), 0 ≤ n → n + (d : Int) = 9 → ∀ (pb B : Nat) (w : World) (l : List Tok), PS pb B w l → Pc 26 [.pointer (some ⟨pb, 0, none⟩), .int .i64 n] pb B w l (kindP d) (fun w' r k => KindV (· < w.heap.size) w' r k)
theorem kind_of (d : Nat) (hone : OneC d) : KindC d := by
  intro n hn0 hn pb B w l0 h0
  obtain ⟨t, r, rfl⟩ := h0.tl.cons
  obtain ⟨b, o, c, hB, hc, hne, c0, c1, c2, c3⟩ := h0.hd
  have cb : w.cell? ⟨pb, 0, none⟩ = some (.slice (some ⟨b, o, none⟩) (r.length + 1) c) := hB.cell rfl
  have hl0 : ∃ l0, l0 = t :: r := ⟨_, rfl⟩
  obtain ⟨l0, hl0⟩ := hl0
  rw [← hl0] at h0 ⊢
  have hhd : Cae.hd l0 = t := by rw [hl0]; rfl
  refine fun2_of_vc Tryz.func26 rfl (by kernel_rfl) [.tmp 4] rfl ?_
  simp -dsimp (maxSteps := 4000000) only [push_cast, fr0, Tryz.ntmps26, List.length_cons, List.length_nil, Nat.reduceAdd, Nat.reduceSub, Nat.reduceBEq, List.replicate_succ, List.replicate_zero]
  simp -dsimp only [push_cast, Nat.reduceAdd, Nat.reduceLeDiff, Nat.reduceBEq, decide_true, ne_eq, eq_self, not_true_eq_false, not_false_eq_true, true_imp_iff, false_imp_iff, Int.reduceNe, Int.reduceEq, Int.reduceLT, Int.reduceLE, Bool.not_true, Bool.not_false, cb, c2]
  refine ⟨by omega, ?_⟩
  refine callP_of (hone n hn0 hn pb B w l0 h0) ?_ ?_
  · rintro v1 w1 ⟨k0, l1, e1, V1, P1, hk1⟩
    have hstart : kindP d l0 = kindLoop (oneP d) t.pos 1000 k0 l1 := by
      unfold kindP kindW
      rw [pb_of (p := peek) (x := Cae.hd l0) (l1 := l0) rfl, pb_of e1, hhd]
    simp -dsimp only [push_cast, Nat.reduceAdd, Nat.reduceLeDiff, Nat.reduceBEq, decide_true, ne_eq, eq_self, not_true_eq_false, not_false_eq_true, true_imp_iff, false_imp_iff, Int.reduceNe, Int.reduceEq, Int.reduceLT, Int.reduceLE, Bool.not_true, Bool.not_false]
    refine wpL_loop [4, 6, 7, 18, 19, 20, 21, 22, 23, 24, 25, 26, 27, 28, 29, 30, 31, 32, 33, 34, 35] (fun z w' => ∃ (m : Nat) (k1 : KindP) (l1 : List Tok), kindLoop (oneP d) t.pos m k1 l1 = kindP d l0 ∧ l1.length < m ∧ KindV (· < w.heap.size) w' (z 6) k1 ∧ PS pb B w' l1 ∧ Kept (· = pb) w w') (fun z w' => lenAt w' pb) ?_ ?_
    · have hlt : l1.length < 1000 := by have := P1.tl.len; omega
      exact ⟨1000, k0, l1, hstart.symm, hlt, V1, P1, hk1⟩
    rintro z w' ⟨m, k1, l1, hm2, hm, V1, hP1, hkw⟩
    obtain ⟨kb, hz6, hkb⟩ := V1.ptr
    rw [hz6] at V1
    obtain ⟨t1, r1, el1⟩ := hP1.tl.cons
    simp -dsimp only [push_cast, Nat.reduceAdd, Nat.reduceLeDiff, Nat.reduceBEq, decide_true, ne_eq, eq_self, not_true_eq_false, not_false_eq_true, true_imp_iff, false_imp_iff, Int.reduceNe, Int.reduceEq, Int.reduceLT, Int.reduceLE, Bool.not_true, Bool.not_false]
    refine callK_of (take_c [124] hP1) ?_
    rintro _ w2 hT
    rcases hT with ⟨hs1, rfl, t1', r1', el1', h51, P2, kt, hz⟩ | ⟨hs1, rfl, hww⟩
    · obtain ⟨rfl, rfl⟩ : t1 = t1' ∧ r1 = r1' := by rw [el1] at el1'; exact List.cons.inj el1'
      rw [el1] at hs1
      · -- one more
        have hbin : binP l1 = .ok (3, r1) := by
          rw [el1]
          simp [binP, pif, hs1, Cae.pb, popP, pr, h51]
        simp -dsimp only [push_cast, Nat.reduceAdd, Nat.reduceLeDiff, Nat.reduceBEq, decide_true, ne_eq, eq_self, not_true_eq_false, not_false_eq_true, true_imp_iff, false_imp_iff, Int.reduceNe, Int.reduceEq, Int.reduceLT, Int.reduceLE, Bool.not_true, Bool.not_false]
        refine callP_of (hone n hn0 hn pb B w2 r1 P2) ?_ ?_
        · rintro u w3 ⟨k2, l2, e2, V2, P3, k3⟩
          obtain ⟨ub, rfl, hub⟩ := V2.ptr
          simp -dsimp only [push_cast, Nat.reduceAdd, Nat.reduceLeDiff, Nat.reduceBEq, decide_true, ne_eq, eq_self, not_true_eq_false, not_false_eq_true, true_imp_iff, false_imp_iff, Int.reduceNe, Int.reduceEq, Int.reduceLT, Int.reduceLE, Bool.not_true, Bool.not_false, hz6]
          refine boxK_of ?_
          intro w4 hw4
          have B4 : Blk w4 w3.heap.size 82 [.int .i64 (3 : Nat), .int .i64 t.pos, .slice none 0 0, str [], .pointer (some ⟨kb, 0, none⟩), .pointer (some ⟨ub, 0, none⟩)] := hw4.blk
          have P4 := P3.below hw4.below
          have z4 := hw4.size
          have k14 : Kept (· = pb) w' w4 := (kt.trans k3 (fun i _ h => h)).trans (Kept.of_below hw4.below (X := (· = pb)) (fun i h1 h2 => by omega)) (fun i _ h => h)
          have z14 := k14.size
          have zw := hkw.size
          have hKa : KindV (· < w.heap.size) w4 (.pointer (some ⟨kb, 0, none⟩)) k1 := V1.mono k14 (fun i h => by have := hP1.lt; have := h0.le; omega) (fun _ h => h)
          have hKb : KindV (· < w.heap.size) w4 (.pointer (some ⟨ub, 0, none⟩)) k2 := V2.mono (Kept.of_below hw4.below (X := fun i => False) (fun i h1 h2 => by omega)) (fun _ h => h.elim) (fun i h => by have := kt.size; omega)
          have hnext : kindLoop (oneP d) t.pos (m - 1) (.bin 3 t.pos k1 k2) l2 = kindP d l0 := by
            rw [← hm2]
            obtain ⟨m', rfl⟩ : ∃ m', m = m' + 1 := ⟨m - 1, by omega⟩
            rw [kindLoop, pb_of hbin, if_neg (by decide), pb_of e2]
            rfl
          have hl2 : l2.length ≤ r1.length := by
            obtain ⟨pre, _, e, _⟩ := lo_one d _ _ _ e2
            rw [e, List.length_append]; omega
          have hl1 : l1.length = r1.length + 1 := by rw [el1, List.length_cons]
          have hlen4 := P4.len
          have hlen1 := hP1.len
          simp -dsimp only [push_cast, Nat.reduceAdd, Nat.reduceLeDiff, Nat.reduceBEq, decide_true, ne_eq, eq_self, not_true_eq_false, not_false_eq_true, true_imp_iff, false_imp_iff, Int.reduceNe, Int.reduceEq, Int.reduceLT, Int.reduceLE, Bool.not_true, Bool.not_false]
          refine ⟨⟨m - 1, _, l2, hnext, by omega, ?_, P4, hkw.trans k14 (fun i _ h => h)⟩, by rw [hlen4, hlen1]; omega⟩
          exact ⟨w3.heap.size, _, _, rfl, by have := kt.size; have := k3.size; omega, B4, hKa, hKb⟩
        · rintro c w3 ⟨e, pos, he, ht, hk3⟩
          simp -dsimp only [push_cast, Nat.reduceAdd, Nat.reduceLeDiff, Nat.reduceBEq, decide_true, ne_eq, eq_self, not_true_eq_false, not_false_eq_true, true_imp_iff, false_imp_iff, Int.reduceNe, Int.reduceEq, Int.reduceLT, Int.reduceLE, Bool.not_true, Bool.not_false]
          refine ⟨e, pos, ?_, ht.mono (by have := kt.size; have := hkw.size; omega), (hkw.trans kt (fun i _ h => h)).trans hk3 (fun i _ h => h)⟩
          rw [← hm2]
          obtain ⟨m', rfl⟩ : ∃ m', m = m' + 1 := ⟨m - 1, by omega⟩
          rw [kindLoop, pb_of hbin, if_neg (by decide)]
          unfold Cae.pb
          rw [he]
    · obtain rfl : w' = w2 := hww.symm
      rw [el1] at hs1
      simp -dsimp only [push_cast, Nat.reduceAdd, Nat.reduceLeDiff, Nat.reduceBEq, decide_true, ne_eq, eq_self, not_true_eq_false, not_false_eq_true, true_imp_iff, false_imp_iff, Int.reduceNe, Int.reduceEq, Int.reduceLT, Int.reduceLE, Bool.not_true, Bool.not_false]
      refine callK_of (take_c [38] hP1) ?_
      rintro _ w2 hT
      rcases hT with ⟨hs2, rfl, t1', r1', el1', h51, P2, kt, hz⟩ | ⟨hs2, rfl, hww⟩
      · obtain ⟨rfl, rfl⟩ : t1 = t1' ∧ r1 = r1' := by rw [el1] at el1'; exact List.cons.inj el1'
        rw [el1] at hs2
        · -- one more
          have hbin : binP l1 = .ok (4, r1) := by
            rw [el1]
            simp [binP, pif, hs1, hs2, Cae.pb, popP, pr, h51]
          simp -dsimp only [push_cast, Nat.reduceAdd, Nat.reduceLeDiff, Nat.reduceBEq, decide_true, ne_eq, eq_self, not_true_eq_false, not_false_eq_true, true_imp_iff, false_imp_iff, Int.reduceNe, Int.reduceEq, Int.reduceLT, Int.reduceLE, Bool.not_true, Bool.not_false]
          refine callP_of (hone n hn0 hn pb B w2 r1 P2) ?_ ?_
          · rintro u w3 ⟨k2, l2, e2, V2, P3, k3⟩
            obtain ⟨ub, rfl, hub⟩ := V2.ptr
            simp -dsimp only [push_cast, Nat.reduceAdd, Nat.reduceLeDiff, Nat.reduceBEq, decide_true, ne_eq, eq_self, not_true_eq_false, not_false_eq_true, true_imp_iff, false_imp_iff, Int.reduceNe, Int.reduceEq, Int.reduceLT, Int.reduceLE, Bool.not_true, Bool.not_false, hz6]
            refine boxK_of ?_
            intro w4 hw4
            have B4 : Blk w4 w3.heap.size 82 [.int .i64 (4 : Nat), .int .i64 t.pos, .slice none 0 0, str [], .pointer (some ⟨kb, 0, none⟩), .pointer (some ⟨ub, 0, none⟩)] := hw4.blk
            have P4 := P3.below hw4.below
            have z4 := hw4.size
            have k14 : Kept (· = pb) w' w4 := (kt.trans k3 (fun i _ h => h)).trans (Kept.of_below hw4.below (X := (· = pb)) (fun i h1 h2 => by omega)) (fun i _ h => h)
            have z14 := k14.size
            have zw := hkw.size
            have hKa : KindV (· < w.heap.size) w4 (.pointer (some ⟨kb, 0, none⟩)) k1 := V1.mono k14 (fun i h => by have := hP1.lt; have := h0.le; omega) (fun _ h => h)
            have hKb : KindV (· < w.heap.size) w4 (.pointer (some ⟨ub, 0, none⟩)) k2 := V2.mono (Kept.of_below hw4.below (X := fun i => False) (fun i h1 h2 => by omega)) (fun _ h => h.elim) (fun i h => by have := kt.size; omega)
            have hnext : kindLoop (oneP d) t.pos (m - 1) (.bin 4 t.pos k1 k2) l2 = kindP d l0 := by
              rw [← hm2]
              obtain ⟨m', rfl⟩ : ∃ m', m = m' + 1 := ⟨m - 1, by omega⟩
              rw [kindLoop, pb_of hbin, if_neg (by decide), pb_of e2]
              rfl
            have hl2 : l2.length ≤ r1.length := by
              obtain ⟨pre, _, e, _⟩ := lo_one d _ _ _ e2
              rw [e, List.length_append]; omega
            have hl1 : l1.length = r1.length + 1 := by rw [el1, List.length_cons]
            have hlen4 := P4.len
            have hlen1 := hP1.len
            simp -dsimp only [push_cast, Nat.reduceAdd, Nat.reduceLeDiff, Nat.reduceBEq, decide_true, ne_eq, eq_self, not_true_eq_false, not_false_eq_true, true_imp_iff, false_imp_iff, Int.reduceNe, Int.reduceEq, Int.reduceLT, Int.reduceLE, Bool.not_true, Bool.not_false]
            refine ⟨⟨m - 1, _, l2, hnext, by omega, ?_, P4, hkw.trans k14 (fun i _ h => h)⟩, by rw [hlen4, hlen1]; omega⟩
            exact ⟨w3.heap.size, _, _, rfl, by have := kt.size; have := k3.size; omega, B4, hKa, hKb⟩
          · rintro c w3 ⟨e, pos, he, ht, hk3⟩
            simp -dsimp only [push_cast, Nat.reduceAdd, Nat.reduceLeDiff, Nat.reduceBEq, decide_true, ne_eq, eq_self, not_true_eq_false, not_false_eq_true, true_imp_iff, false_imp_iff, Int.reduceNe, Int.reduceEq, Int.reduceLT, Int.reduceLE, Bool.not_true, Bool.not_false]
            refine ⟨e, pos, ?_, ht.mono (by have := kt.size; have := hkw.size; omega), (hkw.trans kt (fun i _ h => h)).trans hk3 (fun i _ h => h)⟩
            rw [← hm2]
            obtain ⟨m', rfl⟩ : ∃ m', m = m' + 1 := ⟨m - 1, by omega⟩
            rw [kindLoop, pb_of hbin, if_neg (by decide)]
            unfold Cae.pb
            rw [he]
      · obtain rfl : w' = w2 := hww.symm
        rw [el1] at hs2
        simp -dsimp only [push_cast, Nat.reduceAdd, Nat.reduceLeDiff, Nat.reduceBEq, decide_true, ne_eq, eq_self, not_true_eq_false, not_false_eq_true, true_imp_iff, false_imp_iff, Int.reduceNe, Int.reduceEq, Int.reduceLT, Int.reduceLE, Bool.not_true, Bool.not_false]
        refine callK_of (take_c [45] hP1) ?_
        rintro _ w2 hT
        rcases hT with ⟨hs3, rfl, t1', r1', el1', h51, P2, kt, hz⟩ | ⟨hs3, rfl, hww⟩
        · obtain ⟨rfl, rfl⟩ : t1 = t1' ∧ r1 = r1' := by rw [el1] at el1'; exact List.cons.inj el1'
          rw [el1] at hs3
          · -- one more
            have hbin : binP l1 = .ok (5, r1) := by
              rw [el1]
              simp [binP, pif, hs1, hs2, hs3, Cae.pb, popP, pr, h51]
            simp -dsimp only [push_cast, Nat.reduceAdd, Nat.reduceLeDiff, Nat.reduceBEq, decide_true, ne_eq, eq_self, not_true_eq_false, not_false_eq_true, true_imp_iff, false_imp_iff, Int.reduceNe, Int.reduceEq, Int.reduceLT, Int.reduceLE, Bool.not_true, Bool.not_false]
            refine callP_of (hone n hn0 hn pb B w2 r1 P2) ?_ ?_
            · rintro u w3 ⟨k2, l2, e2, V2, P3, k3⟩
              obtain ⟨ub, rfl, hub⟩ := V2.ptr
              simp -dsimp only [push_cast, Nat.reduceAdd, Nat.reduceLeDiff, Nat.reduceBEq, decide_true, ne_eq, eq_self, not_true_eq_false, not_false_eq_true, true_imp_iff, false_imp_iff, Int.reduceNe, Int.reduceEq, Int.reduceLT, Int.reduceLE, Bool.not_true, Bool.not_false, hz6]
              refine boxK_of ?_
              intro w4 hw4
              have B4 : Blk w4 w3.heap.size 82 [.int .i64 (5 : Nat), .int .i64 t.pos, .slice none 0 0, str [], .pointer (some ⟨kb, 0, none⟩), .pointer (some ⟨ub, 0, none⟩)] := hw4.blk
              have P4 := P3.below hw4.below
              have z4 := hw4.size
              have k14 : Kept (· = pb) w' w4 := (kt.trans k3 (fun i _ h => h)).trans (Kept.of_below hw4.below (X := (· = pb)) (fun i h1 h2 => by omega)) (fun i _ h => h)
              have z14 := k14.size
              have zw := hkw.size
              have hKa : KindV (· < w.heap.size) w4 (.pointer (some ⟨kb, 0, none⟩)) k1 := V1.mono k14 (fun i h => by have := hP1.lt; have := h0.le; omega) (fun _ h => h)
              have hKb : KindV (· < w.heap.size) w4 (.pointer (some ⟨ub, 0, none⟩)) k2 := V2.mono (Kept.of_below hw4.below (X := fun i => False) (fun i h1 h2 => by omega)) (fun _ h => h.elim) (fun i h => by have := kt.size; omega)
              have hnext : kindLoop (oneP d) t.pos (m - 1) (.bin 5 t.pos k1 k2) l2 = kindP d l0 := by
                rw [← hm2]
                obtain ⟨m', rfl⟩ : ∃ m', m = m' + 1 := ⟨m - 1, by omega⟩
                rw [kindLoop, pb_of hbin, if_neg (by decide), pb_of e2]
                rfl
              have hl2 : l2.length ≤ r1.length := by
                obtain ⟨pre, _, e, _⟩ := lo_one d _ _ _ e2
                rw [e, List.length_append]; omega
              have hl1 : l1.length = r1.length + 1 := by rw [el1, List.length_cons]
              have hlen4 := P4.len
              have hlen1 := hP1.len
              simp -dsimp only [push_cast, Nat.reduceAdd, Nat.reduceLeDiff, Nat.reduceBEq, decide_true, ne_eq, eq_self, not_true_eq_false, not_false_eq_true, true_imp_iff, false_imp_iff, Int.reduceNe, Int.reduceEq, Int.reduceLT, Int.reduceLE, Bool.not_true, Bool.not_false]
              refine ⟨⟨m - 1, _, l2, hnext, by omega, ?_, P4, hkw.trans k14 (fun i _ h => h)⟩, by rw [hlen4, hlen1]; omega⟩
              exact ⟨w3.heap.size, _, _, rfl, by have := kt.size; have := k3.size; omega, B4, hKa, hKb⟩
            · rintro c w3 ⟨e, pos, he, ht, hk3⟩
              simp -dsimp only [push_cast, Nat.reduceAdd, Nat.reduceLeDiff, Nat.reduceBEq, decide_true, ne_eq, eq_self, not_true_eq_false, not_false_eq_true, true_imp_iff, false_imp_iff, Int.reduceNe, Int.reduceEq, Int.reduceLT, Int.reduceLE, Bool.not_true, Bool.not_false]
              refine ⟨e, pos, ?_, ht.mono (by have := kt.size; have := hkw.size; omega), (hkw.trans kt (fun i _ h => h)).trans hk3 (fun i _ h => h)⟩
              rw [← hm2]
              obtain ⟨m', rfl⟩ : ∃ m', m = m' + 1 := ⟨m - 1, by omega⟩
              rw [kindLoop, pb_of hbin, if_neg (by decide)]
              unfold Cae.pb
              rw [he]
        · obtain rfl : w' = w2 := hww.symm
          rw [el1] at hs3
          simp -dsimp only [push_cast, Nat.reduceAdd, Nat.reduceLeDiff, Nat.reduceBEq, decide_true, ne_eq, eq_self, not_true_eq_false, not_false_eq_true, true_imp_iff, false_imp_iff, Int.reduceNe, Int.reduceEq, Int.reduceLT, Int.reduceLE, Bool.not_true, Bool.not_false, hz6]
          refine ⟨k1, l1, ?_, V1, hP1, hkw⟩
          rw [← hm2]
          obtain ⟨m', rfl⟩ : ∃ m', m = m' + 1 := ⟨m - 1, by omega⟩
          have hbin : binP l1 = .ok (0, l1) := by
            rw [el1]
            simp [binP, pif, hs1, hs2, hs3, pr]
          rw [kindLoop, pb_of hbin, if_pos rfl]
          rfl
  · rintro c w3 ⟨e, pos, he, ht, hk3⟩
    simp -dsimp only [push_cast, Nat.reduceAdd, Nat.reduceLeDiff, Nat.reduceBEq, decide_true, ne_eq, eq_self, not_true_eq_false, not_false_eq_true, true_imp_iff, false_imp_iff, Int.reduceNe, Int.reduceEq, Int.reduceLT, Int.reduceLE, Bool.not_true, Bool.not_false]
    refine ⟨e, pos, ?_, ht, hk3⟩
    unfold kindP kindW
    rw [pb_of (p := peek) (x := Cae.hd l0) (l1 := l0) rfl]
    unfold Cae.pb
    rw [he]
theorem one_zero : OneC 0 := by
  intro n hn0 hn pb B w l h
  refine fun2_of_vc Tryz.func38 rfl (by kernel_rfl) [.tmp 4] rfl ?_
  simp -dsimp (maxSteps := 4000000) only [push_cast, fr0, Tryz.ntmps38, List.length_cons, List.length_nil, Nat.reduceAdd, Nat.reduceSub, Nat.reduceBEq, List.replicate_succ, List.replicate_zero]
  refine callP_of (deep_c n h) ?_ ?_
  · rintro _ _ ⟨h8, rfl, rfl⟩
    omega
  · rintro c w' ⟨h8, ht, hb⟩
    simp -dsimp only [push_cast, Nat.reduceAdd, Nat.reduceLeDiff, Nat.reduceBEq, decide_true, ne_eq, eq_self, not_true_eq_false, not_false_eq_true, true_imp_iff, false_imp_iff, Int.reduceNe, Int.reduceEq, Int.reduceLT, Int.reduceLE, Bool.not_true, Bool.not_false]
    exact ⟨4, _, rfl, ht, Kept.of_below hb (fun i h1 h2 => by omega)⟩
theorem one_succ (d : Nat) (ih : OneC d) : OneC (d + 1) := by
  have ihk := kind_of d ih
  intro n hn0 hn pb B w l0 h0
  obtain ⟨t, r, hl0⟩ := h0.tl.cons
  have hhd : Cae.hd l0 = t := by rw [hl0]; rfl
  have h0' := h0
  rw [hl0] at h0'
  obtain ⟨b, o, c, hB, hc, hne, c0, c1, c2, c3⟩ := h0'.hd
  have cb : w.cell? ⟨pb, 0, none⟩ = some (.slice (some ⟨b, o, none⟩) (r.length + 1) c) := hB.cell rfl
  have hle := h0.le
  have hlt := h0.lt
  refine fun2_of_vc Tryz.func38 rfl (by kernel_rfl) [.tmp 4] rfl ?_
  simp -dsimp (maxSteps := 4000000) only [push_cast, fr0, Tryz.ntmps38, List.length_cons, List.length_nil, Nat.reduceAdd, Nat.reduceSub, Nat.reduceBEq, List.replicate_succ, List.replicate_zero]
  refine callP_of (deep_c n h0) ?_ (fun c w' hh => by have := hh.1; omega)
  rintro _ w0 ⟨h8, rfl, hw0⟩
  obtain rfl : w = w0 := hw0.symm
  simp -dsimp only [push_cast, Nat.reduceAdd, Nat.reduceLeDiff, Nat.reduceBEq, decide_true, ne_eq, eq_self, not_true_eq_false, not_false_eq_true, true_imp_iff, false_imp_iff, Int.reduceNe, Int.reduceEq, Int.reduceLT, Int.reduceLE, Bool.not_true, Bool.not_false, cb, c2]
  refine ⟨by omega, boxK_of ?_⟩
  intro w1 hw1
  have B1 : Blk w1 w.heap.size 82 [.int .i64 0, .int .i64 t.pos, .slice none 0 0, str [], .pointer none, .pointer none] := hw1.blk
  have P1 := h0.below hw1.below
  have P1' := h0'.below hw1.below
  have z1 := hw1.size
  have k1 : Kept (· = pb) w w1 := Kept.of_below hw1.below (fun i h1 h2 => by omega)
  obtain ⟨b', o', c', hB', hc', hne', c0', c1', c2', c3'⟩ := P1'.hd
  have cb' : w1.cell? ⟨pb, 0, none⟩ = some (.slice (some ⟨b', o', none⟩) (r.length + 1) c') := hB'.cell rfl
  have hunf : oneP (d + 1) l0 = pif (isKind 3) litP (pif (seeP [126]) (Cae.pb peek fun t => Cae.pb popP fun _ => Cae.pb (oneP d) fun k => pr (.not t.pos k))
    (pif (seeP [40]) (Cae.pb popP fun _ => Cae.pb (kindW (oneP d)) fun k => Cae.pb (mustP [41]) fun _ => pr k)
      (Cae.pb peek fun t => Cae.pb nameP fun n => pr (.ref t.pos n)))) l0 := rfl
  have hpk : ∀ {β : Type} (q : Tok → Pa β), Cae.pb peek q l0 = q t l0 := fun q => by rw [pb_of (p := peek) (x := Cae.hd l0) (l1 := l0) rfl, hhd]
  simp -dsimp only [push_cast, Nat.reduceAdd, Nat.reduceLeDiff, Nat.reduceBEq, decide_true, ne_eq, eq_self, not_true_eq_false, not_false_eq_true, true_imp_iff, false_imp_iff, Int.reduceNe, Int.reduceEq, Int.reduceLT, Int.reduceLE, Bool.not_true, Bool.not_false, cb', c0']
  refine ⟨by omega, fun h3 => ?_, fun h3 => ?_⟩
  · have hk3 : isKind 3 l0 = true := by
      have : t.kind = 3 := by omega
      simp [isKind, hhd, this]
    have h5 : t.kind ≠ 5 := by omega
    simp -dsimp only [push_cast, Nat.reduceAdd, Nat.reduceLeDiff, Nat.reduceBEq, decide_true, ne_eq, eq_self, not_true_eq_false, not_false_eq_true, true_imp_iff, false_imp_iff, Int.reduceNe, Int.reduceEq, Int.reduceLT, Int.reduceLE, Bool.not_true, Bool.not_false, cb', c1']
    refine ⟨by omega, ?_⟩
    refine callK_of (parse_c t.text (h0'.tl.txt t (by simp)) w1 P1.db P1.er) ?_
    rintro rv w2 ⟨hR, b2⟩
    have P2 := P1.below b2
    have P2' := P1'.below b2
    have B2 := B1.below b2 (by omega)
    have k2 : Kept (· = pb) w w2 := k1.trans (Kept.of_below b2 (X := (· = pb)) (fun i h1 h2 => by omega)) (fun i _ h => h)
    have z2 := b2.size
    rcases hR with ⟨v, s, rfl, ho, hpr⟩ | ⟨hno, rfl⟩
    · have hset := setP_of hpr
      have hs0 := ho.sl
      obtain ⟨va, vc, rfl, _⟩ := hs0.shape
      simp -dsimp only [push_cast, Nat.reduceAdd, Nat.reduceLeDiff, Nat.reduceBEq, decide_true, ne_eq, eq_self, not_true_eq_false, not_false_eq_true, true_imp_iff, false_imp_iff, Int.reduceNe, Int.reduceEq, Int.reduceLT, Int.reduceLE, Bool.not_true, Bool.not_false]
      refine storeK_of B2 (by simp) rfl ?_
      intro w3 hw3
      have B3 : Blk w3 w.heap.size 82 [.int .i64 1, .int .i64 t.pos, .slice none 0 0, str [], .pointer none, .pointer none] := hw3.blk
      simp -dsimp only [push_cast, Nat.reduceAdd, Nat.reduceLeDiff, Nat.reduceBEq, decide_true, ne_eq, eq_self, not_true_eq_false, not_false_eq_true, true_imp_iff, false_imp_iff, Int.reduceNe, Int.reduceEq, Int.reduceLT, Int.reduceLE, Bool.not_true, Bool.not_false]
      refine storeK_of B3 (by simp) rfl ?_
      intro w4 hw4
      have B4 : Blk w4 w.heap.size 82 [.int .i64 1, .int .i64 t.pos, .slice va s.length vc, str [], .pointer none, .pointer none] := hw4.blk
      have k34 : Kept (· = w.heap.size) w2 w4 := hw3.kept.trans hw4.kept (fun i _ h => h)
      have P4' := P2'.kept k34 (fun i h => by omega)
      have z4 := k34.size
      have k4 : Kept (· = pb) w w4 := k2.trans k34 (fun i h1 h2 => by omega)
      obtain ⟨b4, o4, c4, hB4, hc4, hne4, _, _, _, _⟩ := P4'.hd
      have cb4 : w4.cell? ⟨pb, 0, none⟩ = some (.slice (some ⟨b4, o4, none⟩) (r.length + 1) c4) := hB4.cell rfl
      simp -dsimp only [push_cast, Nat.reduceAdd, Nat.reduceLeDiff, Nat.reduceBEq, decide_true, ne_eq, eq_self, not_true_eq_false, not_false_eq_true, true_imp_iff, false_imp_iff, Int.reduceNe, Int.reduceEq, Int.reduceLT, Int.reduceLE, Bool.not_true, Bool.not_false, cb4, slice1]
      refine ⟨by omega, ?_⟩
      refine storeK_of hB4 (by simp) rfl ?_
      intro w5 hw5
      have P5 := P4'.pop hB4 h5 hw5
      have B5 := B4.kept hw5.kept (by omega)
      have k5 := k4.trans hw5.kept (fun i _ h => h)
      have s5 : Sl (· < w.heap.size) 2 (En encR) w5 (.slice va s.length vc) s := ((hs0.kept k34 (fun i h => by omega)).kept hw5.kept (fun i h => by omega)).weaken (fun i h => by omega)
      simp -dsimp only [push_cast, Nat.reduceAdd, Nat.reduceLeDiff, Nat.reduceBEq, decide_true, ne_eq, eq_self, not_true_eq_false, not_false_eq_true, true_imp_iff, false_imp_iff, Int.reduceNe, Int.reduceEq, Int.reduceLT, Int.reduceLE, Bool.not_true, Bool.not_false]
      refine ⟨.lit t.pos s, r, ?_, ⟨_, _, rfl, by omega, B5, s5⟩, P5, k5⟩
      rw [hunf]
      unfold pif
      rw [hk3, if_pos rfl]
      unfold litP
      rw [hpk, hset, hl0]
      simp [Cae.pb, popP, h5, pr]
    · have hset := setP_no hno
      simp -dsimp only [push_cast, Nat.reduceAdd, Nat.reduceLeDiff, Nat.reduceBEq, decide_true, ne_eq, eq_self, not_true_eq_false, not_false_eq_true, true_imp_iff, false_imp_iff, Int.reduceNe, Int.reduceEq, Int.reduceLT, Int.reduceLE, Bool.not_true, Bool.not_false]
      refine callP_of (fail_c 3 P2) (fun _ _ h => h.elim) ?_
      rintro c w3 ⟨ht, hb⟩
      simp -dsimp only [push_cast, Nat.reduceAdd, Nat.reduceLeDiff, Nat.reduceBEq, decide_true, ne_eq, eq_self, not_true_eq_false, not_false_eq_true, true_imp_iff, false_imp_iff, Int.reduceNe, Int.reduceEq, Int.reduceLT, Int.reduceLE, Bool.not_true, Bool.not_false]
      refine ⟨3, _, ?_, ht.mono (by omega), k2.trans (Kept.of_below hb (X := (· = pb)) (fun i h1 h2 => by omega)) (fun i _ h => h)⟩
      rw [hunf]
      unfold pif
      rw [hk3, if_pos rfl]
      unfold litP
      rw [hpk, hset]
      rfl
  · have hk3 : isKind 3 l0 = false := by
      have : t.kind ≠ 3 := fun e => h3 (by omega)
      simp [isKind, hhd, this]
    refine callK_of (take_c [126] P1) ?_
    rintro _ w2 hT
    rcases hT with ⟨hs1, rfl, t1, r1, el1, h51, P2, kt, hz⟩ | ⟨hs1, rfl, hww⟩
    · obtain ⟨rfl, rfl⟩ : t = t1 ∧ r = r1 := by rw [hl0] at el1; exact List.cons.inj el1
      have B2 := B1.kept kt (by omega)
      have hpop : popP l0 = .ok ((), r) := by rw [hl0]; exact popP_cons h51
      have hred : oneP (d + 1) l0 = Cae.pb (oneP d) (fun k => pr (.not t.pos k)) r := by
        rw [hunf]
        unfold pif
        rw [hk3, hs1, if_neg (by decide), if_pos rfl, hpk, pb_of hpop]
      simp -dsimp only [push_cast, Nat.reduceAdd, Nat.reduceLeDiff, Nat.reduceBEq, decide_true, ne_eq, eq_self, not_true_eq_false, not_false_eq_true, true_imp_iff, false_imp_iff, Int.reduceNe, Int.reduceEq, Int.reduceLT, Int.reduceLE, Bool.not_true, Bool.not_false]
      refine ⟨⟨by omega, by omega⟩, ?_⟩
      refine callP_of (ih (n + 1) (by omega) (by omega) pb B w2 r P2) ?_ ?_
      · rintro u w3 ⟨k, l3, e3, V3, P3, k3⟩
        obtain ⟨ub, rfl, hub⟩ := V3.ptr
        have B3 := B2.kept k3 (by omega)
        simp -dsimp only [push_cast, Nat.reduceAdd, Nat.reduceLeDiff, Nat.reduceBEq, decide_true, ne_eq, eq_self, not_true_eq_false, not_false_eq_true, true_imp_iff, false_imp_iff, Int.reduceNe, Int.reduceEq, Int.reduceLT, Int.reduceLE, Bool.not_true, Bool.not_false]
        refine storeK_of B3 (by simp) rfl ?_
        intro w4 hw4
        have B4 : Blk w4 w.heap.size 82 [.int .i64 6, .int .i64 t.pos, .slice none 0 0, str [], .pointer none, .pointer none] := hw4.blk
        simp -dsimp only [push_cast, Nat.reduceAdd, Nat.reduceLeDiff, Nat.reduceBEq, decide_true, ne_eq, eq_self, not_true_eq_false, not_false_eq_true, true_imp_iff, false_imp_iff, Int.reduceNe, Int.reduceEq, Int.reduceLT, Int.reduceLE, Bool.not_true, Bool.not_false]
        refine storeK_of B4 (by simp) rfl ?_
        intro w5 hw5
        have B5 : Blk w5 w.heap.size 82 [.int .i64 6, .int .i64 t.pos, .slice none 0 0, str [], .pointer (some ⟨ub, 0, none⟩), .pointer none] := hw5.blk
        have k35 : Kept (· = w.heap.size) w3 w5 := hw4.kept.trans hw5.kept (fun i _ h => h)
        have P5 := P3.kept k35 (fun i h => by omega)
        have z3 := k3.size
        have k5 : Kept (· = pb) w w5 := ((k1.trans kt (fun i _ h => h)).trans k3 (fun i _ h => h)).trans k35 (fun i h1 h2 => by omega)
        simp -dsimp only [push_cast, Nat.reduceAdd, Nat.reduceLeDiff, Nat.reduceBEq, decide_true, ne_eq, eq_self, not_true_eq_false, not_false_eq_true, true_imp_iff, false_imp_iff, Int.reduceNe, Int.reduceEq, Int.reduceLT, Int.reduceLE, Bool.not_true, Bool.not_false]
        refine ⟨.not t.pos k, l3, ?_, ⟨_, _, rfl, by omega, B5, V3.mono k35 (fun i h => by omega) (fun i h => by omega)⟩, P5, k5⟩
        rw [hred, pb_of e3]
        rfl
      · rintro c w3 ⟨e, pos, he, ht, hk⟩
        simp -dsimp only [push_cast, Nat.reduceAdd, Nat.reduceLeDiff, Nat.reduceBEq, decide_true, ne_eq, eq_self, not_true_eq_false, not_false_eq_true, true_imp_iff, false_imp_iff, Int.reduceNe, Int.reduceEq, Int.reduceLT, Int.reduceLE, Bool.not_true, Bool.not_false]
        refine ⟨e, pos, ?_, ht.mono (by omega), (k1.trans kt (fun i _ h => h)).trans hk (fun i _ h => h)⟩
        rw [hred]
        unfold Cae.pb
        rw [he]
    · obtain rfl : w1 = w2 := hww.symm
      simp -dsimp only [push_cast, Nat.reduceAdd, Nat.reduceLeDiff, Nat.reduceBEq, decide_true, ne_eq, eq_self, not_true_eq_false, not_false_eq_true, true_imp_iff, false_imp_iff, Int.reduceNe, Int.reduceEq, Int.reduceLT, Int.reduceLE, Bool.not_true, Bool.not_false]
      refine callK_of (take_c [40] P1) ?_
      rintro _ w2 hT
      rcases hT with ⟨hs2, rfl, t1, r1, el1, h51, P2, kt, hz⟩ | ⟨hs2, rfl, hww⟩
      · obtain ⟨rfl, rfl⟩ : t = t1 ∧ r = r1 := by rw [hl0] at el1; exact List.cons.inj el1
        have hpop : popP l0 = .ok ((), r) := by rw [hl0]; exact popP_cons h51
        have hred : oneP (d + 1) l0 = Cae.pb (kindP d) (fun k => Cae.pb (mustP [41]) fun _ => pr k) r := by
          rw [hunf]
          unfold pif
          rw [hk3, hs1, hs2, if_neg (by decide), if_neg (by decide), if_pos rfl, pb_of hpop]
          rfl
        simp -dsimp only [push_cast, Nat.reduceAdd, Nat.reduceLeDiff, Nat.reduceBEq, decide_true, ne_eq, eq_self, not_true_eq_false, not_false_eq_true, true_imp_iff, false_imp_iff, Int.reduceNe, Int.reduceEq, Int.reduceLT, Int.reduceLE, Bool.not_true, Bool.not_false]
        refine ⟨⟨by omega, by omega⟩, ?_⟩
        refine callP_of (ihk (n + 1) (by omega) (by omega) pb B w2 r P2) ?_ ?_
        · rintro u w3 ⟨k, l3, e3, V3, P3, k3⟩
          simp -dsimp only [push_cast, Nat.reduceAdd, Nat.reduceLeDiff, Nat.reduceBEq, decide_true, ne_eq, eq_self, not_true_eq_false, not_false_eq_true, true_imp_iff, false_imp_iff, Int.reduceNe, Int.reduceEq, Int.reduceLT, Int.reduceLE, Bool.not_true, Bool.not_false]
          refine callP_of (must_c [41] P3) ?_ ?_
          · rintro _ w4 ⟨_, l4, e4, rfl, P4, k4⟩
            simp -dsimp only [push_cast, Nat.reduceAdd, Nat.reduceLeDiff, Nat.reduceBEq, decide_true, ne_eq, eq_self, not_true_eq_false, not_false_eq_true, true_imp_iff, false_imp_iff, Int.reduceNe, Int.reduceEq, Int.reduceLT, Int.reduceLE, Bool.not_true, Bool.not_false]
            have z3 := k3.size
            refine ⟨k, l4, ?_, V3.mono k4 (fun i h => by omega) (fun i h => by omega), P4, ((k1.trans kt (fun i _ h => h)).trans k3 (fun i _ h => h)).trans k4 (fun i _ h => h)⟩
            rw [hred, pb_of e3, pb_of e4]
            rfl
          · rintro c w4 ⟨e, pos, he, ht, hk⟩
            simp -dsimp only [push_cast, Nat.reduceAdd, Nat.reduceLeDiff, Nat.reduceBEq, decide_true, ne_eq, eq_self, not_true_eq_false, not_false_eq_true, true_imp_iff, false_imp_iff, Int.reduceNe, Int.reduceEq, Int.reduceLT, Int.reduceLE, Bool.not_true, Bool.not_false]
            have z3 := k3.size
            refine ⟨e, pos, ?_, ht.mono (by omega), ((k1.trans kt (fun i _ h => h)).trans k3 (fun i _ h => h)).trans hk (fun i _ h => h)⟩
            rw [hred, pb_of e3]
            unfold Cae.pb
            rw [he]
        · rintro c w3 ⟨e, pos, he, ht, hk⟩
          simp -dsimp only [push_cast, Nat.reduceAdd, Nat.reduceLeDiff, Nat.reduceBEq, decide_true, ne_eq, eq_self, not_true_eq_false, not_false_eq_true, true_imp_iff, false_imp_iff, Int.reduceNe, Int.reduceEq, Int.reduceLT, Int.reduceLE, Bool.not_true, Bool.not_false]
          refine ⟨e, pos, ?_, ht.mono (by omega), (k1.trans kt (fun i _ h => h)).trans hk (fun i _ h => h)⟩
          rw [hred]
          unfold Cae.pb
          rw [he]
      · obtain rfl : w1 = w2 := hww.symm
        have hred : oneP (d + 1) l0 = Cae.pb nameP (fun n => pr (.ref t.pos n)) l0 := by
          rw [hunf]
          unfold pif
          rw [hk3, hs1, hs2, if_neg (by decide), if_neg (by decide), if_neg (by decide), hpk]
        simp -dsimp only [push_cast, Nat.reduceAdd, Nat.reduceLeDiff, Nat.reduceBEq, decide_true, ne_eq, eq_self, not_true_eq_false, not_false_eq_true, true_imp_iff, false_imp_iff, Int.reduceNe, Int.reduceEq, Int.reduceLT, Int.reduceLE, Bool.not_true, Bool.not_false]
        refine callP_of (name_c P1) ?_ ?_
        · rintro _ w3 ⟨nm, l3, e3, rfl, P3, k3⟩
          have B3 := B1.kept k3 (by omega)
          simp -dsimp only [push_cast, Nat.reduceAdd, Nat.reduceLeDiff, Nat.reduceBEq, decide_true, ne_eq, eq_self, not_true_eq_false, not_false_eq_true, true_imp_iff, false_imp_iff, Int.reduceNe, Int.reduceEq, Int.reduceLT, Int.reduceLE, Bool.not_true, Bool.not_false]
          refine storeK_of B3 (by simp) rfl ?_
          intro w4 hw4
          have B4 : Blk w4 w.heap.size 82 [.int .i64 2, .int .i64 t.pos, .slice none 0 0, str [], .pointer none, .pointer none] := hw4.blk
          simp -dsimp only [push_cast, Nat.reduceAdd, Nat.reduceLeDiff, Nat.reduceBEq, decide_true, ne_eq, eq_self, not_true_eq_false, not_false_eq_true, true_imp_iff, false_imp_iff, Int.reduceNe, Int.reduceEq, Int.reduceLT, Int.reduceLE, Bool.not_true, Bool.not_false]
          refine storeK_of B4 (by simp) rfl ?_
          intro w5 hw5
          have B5 : Blk w5 w.heap.size 82 [.int .i64 2, .int .i64 t.pos, .slice none 0 0, str nm, .pointer none, .pointer none] := hw5.blk
          have k35 : Kept (· = w.heap.size) w3 w5 := hw4.kept.trans hw5.kept (fun i _ h => h)
          have P5 := P3.kept k35 (fun i h => by omega)
          have z3 := k3.size
          have k5 : Kept (· = pb) w w5 := (k1.trans k3 (fun i _ h => h)).trans k35 (fun i h1 h2 => by omega)
          simp -dsimp only [push_cast, Nat.reduceAdd, Nat.reduceLeDiff, Nat.reduceBEq, decide_true, ne_eq, eq_self, not_true_eq_false, not_false_eq_true, true_imp_iff, false_imp_iff, Int.reduceNe, Int.reduceEq, Int.reduceLT, Int.reduceLE, Bool.not_true, Bool.not_false]
          refine ⟨.ref t.pos nm, l3, ?_, ⟨_, rfl, by omega, B5⟩, P5, k5⟩
          rw [hred, pb_of e3]
          rfl
        · rintro c w3 ⟨e, pos, he, ht, hk⟩
          simp -dsimp only [push_cast, Nat.reduceAdd, Nat.reduceLeDiff, Nat.reduceBEq, decide_true, ne_eq, eq_self, not_true_eq_false, not_false_eq_true, true_imp_iff, false_imp_iff, Int.reduceNe, Int.reduceEq, Int.reduceLT, Int.reduceLE, Bool.not_true, Bool.not_false]
          refine ⟨e, pos, ?_, ht.mono (by omega), k1.trans hk (fun i _ h => h)⟩
          rw [hred]
          unfold Cae.pb
          rw [he]
theorem one_c : ∀ d, OneC d
  | 0 => one_zero
  | d + 1 => one_succ d (one_c d)
theorem kind_c (d : Nat) : KindC d := kind_of d (one_c d)
end Go.Proofs.YtieaebjkbhaoaaaGreatDoor
