import Derived.Test.YtieaebjkbhaoaaaGreatDoorRq2
namespace Cae
theorem texts_map (l : List PatP) (n : Nat) : patTexts l n = l.map (patText · n) := by
  induction l with
  | nil => rfl
  | cons x l ih => rw [patTexts, ih]; rfl
theorem lens_mem : ∀ {l : List (List UInt8)} {x : List UInt8}, x ∈ l → x.length ≤ Go.Lib.lens l
  | y :: l, x, h => by
    simp only [Go.Lib.lens, List.map_cons, List.sum_cons]
    rcases List.mem_cons.1 h with rfl | h
    · omega
    · have := lens_mem h
      simp only [Go.Lib.lens] at this
      omega
theorem join_bounds (l : List (List UInt8)) (sep : List UInt8) (hs : 1 ≤ sep.length) : Go.Lib.lens l ≤ (Go.Lib.join l sep).length ∧ l.length ≤ (Go.Lib.join l sep).length + 1 := by
  cases l with
  | nil => simp [Go.Lib.lens]
  | cons x l =>
    rw [Go.Lib.join_cons, List.length_append, Go.Lib.joinTail_length]
    have : 1 * l.length ≤ sep.length * l.length := Nat.mul_le_mul_right _ hs
    simp only [Go.Lib.lens, List.map_cons, List.sum_cons, List.length_cons]
    omega
theorem pt_two (x : PatP) : (patText x 2).length ≤ (patText x 1).length + 2 := by
  cases x with
  | cat l =>
    have h1 := (inPar_len (decide (1 < 2)) (Go.Lib.join (patTexts l 2) [32])).2
    have h2 := (inPar_len (decide (1 < 1)) (Go.Lib.join (patTexts l 2) [32])).1
    simp only [patText]
    omega
  | alt l =>
    have h1 := (inPar_len (decide (0 < 2)) (Go.Lib.join (patTexts l 1) [32, 124, 32])).2
    have h2 := (inPar_len (decide (0 < 1)) (Go.Lib.join (patTexts l 1) [32, 124, 32])).1
    simp only [patText]
    omega
  | _ => simp [patText]
theorem pn_in_cat {l : List PatP} : (Go.Lib.join (patTexts l 2) [32]).length + 5 = pn (.cat l) ∧ l.length ≤ pn (.cat l) ∧ ∀ x ∈ l, pn x ≤ pn (.cat l) := by
  have h0 := join_bounds (patTexts l 2) [32] (by decide)
  have h1 : (Go.Lib.join (patTexts l 2) [32]).length + 5 = pn (.cat l) := by simp [pn, patText, inPar]
  refine ⟨h1, ?_, fun x hx => ?_⟩
  · rw [texts_map, List.length_map] at h0
    rw [texts_map] at h1
    omega
  · have : (patText x 2).length ≤ Go.Lib.lens (patTexts l 2) := lens_mem (by rw [texts_map]; exact List.mem_map.2 ⟨x, hx, rfl⟩)
    have h2 : pn x = (patText x 2).length + 3 := rfl
    omega
theorem pn_in_alt {l : List PatP} : (Go.Lib.join (patTexts l 1) [32, 124, 32]).length + 5 = pn (.alt l) ∧ l.length ≤ pn (.alt l) ∧ ∀ x ∈ l, pn x ≤ pn (.alt l) := by
  have h0 := join_bounds (patTexts l 1) [32, 124, 32] (by decide)
  have h1 : (Go.Lib.join (patTexts l 1) [32, 124, 32]).length + 5 = pn (.alt l) := by simp [pn, patText, inPar]
  refine ⟨h1, ?_, fun x hx => ?_⟩
  · rw [texts_map, List.length_map] at h0
    rw [texts_map] at h1
    omega
  · have : (patText x 1).length ≤ Go.Lib.lens (patTexts l 1) := lens_mem (by rw [texts_map]; exact List.mem_map.2 ⟨x, hx, rfl⟩)
    have h2 : pn x = (patText x 2).length + 3 := rfl
    have := pt_two x
    omega
end Cae
namespace Go.Proofs.YtieaebjkbhaoaaaGreatDoor
open Go.Vc Go.Proofs Go.RowKit Cae
set_option maxRecDepth 100000
set_option linter.unusedSimpArgs false
set_option linter.unusedVariables false
attribute [local irreducible] wpL callK valK unitK runK Fun Sl Own vc vcOps opK pureK
set_option maxHeartbeats 4000000
def TextC (x : PatP) : Prop := PatOk x → pn x ≤ 100000000 → ∀ (least : Nat), least ≤ 2 → ∀ (X : Nat → Prop) (v : Value) (w : World), PatV X w v x → Db w →
    Fun Tryz.prog 31 [v, .int .i64 least] w fun r w' => r = str (patText x least) ∧ Below w.heap.size w w'
theorem PatV.drew {X : Nat → Prop} {w : World} {x : PatP} {v : Value} (h : PatV X w v x) : PatV X w.drew v x :=
  h.mono (X := X) ((Kept.refl (fun _ => False) w).drew) (fun _ h => h.elim) (fun _ h => h)
theorem PatsV.nth {X : Nat → Prop} {w : World} : ∀ {l : List PatP} {vs : List Nat} {i : Nat} {x : PatP}, PatsV X w vs l → l[i]? = some x → ∃ u, vs[i]? = some u ∧ PatV X w (ptrP u) x
  | [], _, i, x, _, hx => by simp at hx
  | _ :: _, [], _, _, h, _ => by simp only [PatsV] at h
  | y :: l, v :: vs, 0, x, h, hx => by
    simp only [PatsV] at h
    cases hx
    exact ⟨v, rfl, h.1⟩
  | y :: l, v :: vs, i + 1, x, h, hx => by
    simp only [PatsV] at h
    exact PatsV.nth (i := i) h.2 (by simpa using hx)
theorem patsOk_mem : ∀ {l : List PatP} {x : PatP}, PatsOk l → x ∈ l → PatOk x
  | y :: l, x, h, hx => by
    simp only [PatsOk] at h
    rcases List.mem_cons.1 hx with rfl | hx
    · exact h.1
    · exact patsOk_mem h.2 hx
theorem text_one (k : KindP) : TextC (.one k) := by
  intro hok hpn least hle X v w hV hd
  simp only [PatV] at hV
  obtain ⟨b, u, rfl, hb, hB, h1⟩ := hV
  obtain ⟨b1, rfl, hb1⟩ := h1.ptr
  have d0 : w.cell? ⟨b, 0, none⟩ = some (.int .i64 1) := hB.cell rfl
  have d1 : w.cell? ⟨b, 1, none⟩ = some (.pointer (some ⟨b1, 0, none⟩)) := hB.cell rfl
  have hl : pn (.one k) = (kindText k true).length + 3 := by simp [pn, patText]
  simp only [PatOk] at hok
  refine fun_of_vc Tryz.func31 rfl (by kernel_rfl) [4] rfl ?_
  simp -dsimp (maxSteps := 4000000) only [push_cast, fr0, Tryz.ntmps31, List.length_cons, List.length_nil, Nat.reduceAdd, Nat.reduceSub, Nat.reduceBEq, List.replicate_succ, List.replicate_zero]
  simp -dsimp only [push_cast, Nat.reduceAdd, Nat.reduceLeDiff, Nat.reduceBEq, decide_true, ne_eq, eq_self, not_true_eq_false, not_false_eq_true, true_imp_iff, false_imp_iff, Int.reduceNe, Int.reduceEq, Int.reduceLT, Int.reduceLE, Bool.not_true, Bool.not_false, d0, d1]
  refine callK_of (kindText_c k hok true (by omega) X _ w h1 hd) ?_
  rintro _ w2 ⟨rfl, hb2⟩
  simp -dsimp only [push_cast, Nat.reduceAdd, Nat.reduceLeDiff, Nat.reduceBEq, decide_true, ne_eq, eq_self, not_true_eq_false, not_false_eq_true, true_imp_iff, false_imp_iff, Int.reduceNe, Int.reduceEq, Int.reduceLT, Int.reduceLE, Bool.not_true, Bool.not_false]
  exact ⟨by simp only [patText], hb2⟩
theorem text_any : TextC .any := by
  intro hok hpn least hle X v w hV hd
  simp only [PatV] at hV
  obtain ⟨b, rfl, hb, hB⟩ := hV
  have d0 : w.cell? ⟨b, 0, none⟩ = some (.int .i64 2) := hB.cell rfl
  refine fun_of_vc Tryz.func31 rfl (by kernel_rfl) [4] rfl ?_
  simp -dsimp (maxSteps := 4000000) only [push_cast, fr0, Tryz.ntmps31, List.length_cons, List.length_nil, Nat.reduceAdd, Nat.reduceSub, Nat.reduceBEq, List.replicate_succ, List.replicate_zero]
  simp -dsimp only [push_cast, Nat.reduceAdd, Nat.reduceLeDiff, Nat.reduceBEq, decide_true, ne_eq, eq_self, not_true_eq_false, not_false_eq_true, true_imp_iff, false_imp_iff, Int.reduceNe, Int.reduceEq, Int.reduceLT, Int.reduceLE, Bool.not_true, Bool.not_false, d0]
  exact ⟨by simp only [patText], Below.refl _ _⟩
theorem text_edge : TextC .edge := by
  intro hok hpn least hle X v w hV hd
  simp only [PatV] at hV
  obtain ⟨b, rfl, hb, hB⟩ := hV
  have d0 : w.cell? ⟨b, 0, none⟩ = some (.int .i64 3) := hB.cell rfl
  refine fun_of_vc Tryz.func31 rfl (by kernel_rfl) [4] rfl ?_
  simp -dsimp (maxSteps := 4000000) only [push_cast, fr0, Tryz.ntmps31, List.length_cons, List.length_nil, Nat.reduceAdd, Nat.reduceSub, Nat.reduceBEq, List.replicate_succ, List.replicate_zero]
  simp -dsimp only [push_cast, Nat.reduceAdd, Nat.reduceLeDiff, Nat.reduceBEq, decide_true, ne_eq, eq_self, not_true_eq_false, not_false_eq_true, true_imp_iff, false_imp_iff, Int.reduceNe, Int.reduceEq, Int.reduceLT, Int.reduceLE, Bool.not_true, Bool.not_false, d0]
  exact ⟨by simp only [patText], Below.refl _ _⟩
theorem text_cat (l : List PatP) (hall : ∀ x ∈ l, TextC x) : TextC (.cat l) := by
  intro hok hpn least hle X v w hV hd
  simp only [PatV] at hV
  obtain ⟨b, sv, vs, rfl, hb, hB, hs, hV⟩ := hV
  have hsh := hs.shape
  obtain ⟨sa, sc, rfl, hsc⟩ := hsh
  have hpc := pn_in_cat (l := l)
  have hvl := hV.len
  simp only [PatOk] at hok
  have d0 : w.cell? ⟨b, 0, none⟩ = some (.int .i64 4) := hB.cell rfl
  have d2 : w.cell? ⟨b, 2, none⟩ = some (.slice sa l.length sc) := by rw [← hvl]; exact hB.cell rfl
  refine fun_of_vc Tryz.func31 rfl (by kernel_rfl) [4] rfl ?_
  simp -dsimp (maxSteps := 4000000) only [push_cast, fr0, Tryz.ntmps31, List.length_cons, List.length_nil, Nat.reduceAdd, Nat.reduceSub, Nat.reduceBEq, List.replicate_succ, List.replicate_zero]
  simp -dsimp only [push_cast, Nat.reduceAdd, Nat.reduceLeDiff, Nat.reduceBEq, decide_true, ne_eq, eq_self, not_true_eq_false, not_false_eq_true, true_imp_iff, false_imp_iff, Int.reduceNe, Int.reduceEq, Int.reduceLT, Int.reduceLE, Bool.not_true, Bool.not_false, d0, d2]
  refine wpL_loop [7, 9, 51, 52, 53, 54, 55, 56, 57, 58, 59, 60] (fun z wx => ∃ (i : Nat) (ov : Value), z 51 = .int .i64 i ∧ z 7 = ov ∧ i ≤ l.length ∧ Vc.Own w.heap.size 9 1 encS wx ov (patTexts (l.take i) 2) ∧ Below w.heap.size w wx) (fun z _ => l.length - (intOf (z 51)).toNat) ?_ ?_
  · exact ⟨0, _, rfl, rfl, Nat.zero_le _, Vc.Own.nil (enc := encS) _ _ (fun _ => rfl) _, Below.refl _ _⟩
  · intro z wx hI
    obtain ⟨i, ov, h9, h3, hi, hox, hbx⟩ := hI
    have szx := hbx.size
    simp -dsimp only [push_cast, Nat.reduceAdd, Nat.reduceLeDiff, Nat.reduceBEq, decide_true, ne_eq, eq_self, not_true_eq_false, not_false_eq_true, true_imp_iff, false_imp_iff, Int.reduceNe, Int.reduceEq, Int.reduceLT, Int.reduceLE, Bool.not_true, Bool.not_false, h9, h3]
    refine ⟨fun hlt => ?_, fun hge => ?_⟩
    · obtain ⟨x, hx, hxm, _, ht⟩ := lt_get (l := l) (i := i) (by omega)
      obtain ⟨u, hu, hVx⟩ := PatsV.nth hV hx
      obtain ⟨b1, o, rfl, hnb, hcell⟩ := (hs.below hbx).get hu
      have cx : wx.cell? ⟨b1, o + i, none⟩ = some (ptrP u) := by have := hcell 0 _ rfl; simpa using this
      have est : patTexts (l.take (i + 1)) 2 = patTexts (l.take i) 2 ++ [patText x 2] := by
        rw [ht, texts_map, texts_map, List.map_append]; rfl
      have hun : ptrP u = .pointer (some ⟨u, 0, none⟩) := rfl
      rw [hun] at cx
      simp -dsimp only [push_cast, Nat.reduceAdd, Nat.reduceLeDiff, Nat.reduceBEq, decide_true, ne_eq, eq_self, not_true_eq_false, not_false_eq_true, true_imp_iff, false_imp_iff, Int.reduceNe, Int.reduceEq, Int.reduceLT, Int.reduceLE, Bool.not_true, Bool.not_false, cx, Nat.mul_one]
      refine ⟨⟨by omega, by omega⟩, ?_⟩
      obtain ⟨oa, oc, rfl⟩ := hox.slice
      refine callK_of (hall x hxm (patsOk_mem hok hxm) (by have := hpc.2.2 x hxm; omega) 2 (by decide) X _ wx (hVx.below hbx) (hd.below hbx hd.lt)) ?_
      rintro _ w5 ⟨rfl, hb5⟩
      have sz5 := hb5.size
      have ho5 := hox.below hb5
      have hB5 := hbx.trans (hb5.mono szx)
      simp -dsimp only [push_cast, Nat.reduceAdd, Nat.reduceLeDiff, Nat.reduceBEq, decide_true, ne_eq, eq_self, not_true_eq_false, not_false_eq_true, true_imp_iff, false_imp_iff, Int.reduceNe, Int.reduceEq, Int.reduceLT, Int.reduceLE, Bool.not_true, Bool.not_false]
      refine rowK elI_93 rfl rfl (by omega) ?_
      intro w7 hw7
      have sz7 : w7.heap.size = w5.heap.size + 1 := hw7.size
      have ho7 := ho5.new hw7
      simp -dsimp only [push_cast, Nat.reduceAdd, Nat.reduceLeDiff, Nat.reduceBEq, decide_true, ne_eq, eq_self, not_true_eq_false, not_false_eq_true, true_imp_iff, false_imp_iff, Int.reduceNe, Int.reduceEq, Int.reduceLT, Int.reduceLE, Bool.not_true, Bool.not_false]
      refine appendK2 (base := w.heap.size) [patText x 2] (enc := encS) elI_93 ho7 (by rfl) (fun j u hu => by rw [Nat.zero_add]; exact hw7.cell hu) (by simp [encS, str, Value.oneCell']) (by rw [texts_map]; simp only [List.length_cons, List.length_nil, List.length_map, List.length_take]; omega) (by omega) ?_
      intro v8 w8 ho8 hg8 hn8
      have hb8 : Below w.heap.size w w8 := (hB5.trans (hw7.below.mono (by omega))).trans ((Kept.grown (X := fun j => w.heap.size ≤ j) hg8 (fun k hk => (ho7.block k hk).1)).below (by omega) (fun _ h => h))
      rw [← est] at ho8
      simp -dsimp only [push_cast, Nat.reduceAdd, Nat.reduceLeDiff, Nat.reduceBEq, decide_true, ne_eq, eq_self, not_true_eq_false, not_false_eq_true, true_imp_iff, false_imp_iff, Int.reduceNe, Int.reduceEq, Int.reduceLT, Int.reduceLE, Bool.not_true, Bool.not_false]
      exact ⟨⟨by omega, by omega⟩, ⟨i + 1, _, rfl, rfl, by omega, ho8, hb8⟩, by rw [h9]; simp only [intOf]; omega⟩
    · have hin : i = l.length := by omega
      subst hin
      rw [List.take_length] at hox
      refine callK_of (join_c (patTexts l 2) [32] (by rw [texts_map, List.length_map]; omega) (by omega) _ _ wx hox.sl) ?_
      rintro _ w6 ⟨rfl, hb6⟩
      have hB6 := hbx.trans (hb6.mono szx)
      simp -dsimp only [push_cast, Nat.reduceAdd, Nat.reduceLeDiff, Nat.reduceBEq, decide_true, ne_eq, eq_self, not_true_eq_false, not_false_eq_true, true_imp_iff, false_imp_iff, Int.reduceNe, Int.reduceEq, Int.reduceLT, Int.reduceLE, Bool.not_true, Bool.not_false]
      refine ⟨fun hlt => ⟨by omega, by simp only [List.length_append, List.length_singleton]; omega, congrArg str ?_, hB6⟩, fun hge => ⟨congrArg str ?_, hB6⟩⟩
      · have : 1 < least := by omega
        simp [patText, inPar, this]
      · have : ¬ 1 < least := by omega
        simp [patText, inPar, this]
theorem text_alt (l : List PatP) (hall : ∀ x ∈ l, TextC x) : TextC (.alt l) := by
  intro hok hpn least hle X v w hV hd
  simp only [PatV] at hV
  obtain ⟨b, sv, vs, rfl, hb, hB, hs, hV⟩ := hV
  have hsh := hs.shape
  obtain ⟨sa, sc, rfl, hsc⟩ := hsh
  have hpc := pn_in_alt (l := l)
  have hvl := hV.len
  simp only [PatOk] at hok
  have d0 : w.cell? ⟨b, 0, none⟩ = some (.int .i64 5) := hB.cell rfl
  have d2 : w.cell? ⟨b, 2, none⟩ = some (.slice sa l.length sc) := by rw [← hvl]; exact hB.cell rfl
  refine fun_of_vc Tryz.func31 rfl (by kernel_rfl) [4] rfl ?_
  simp -dsimp (maxSteps := 4000000) only [push_cast, fr0, Tryz.ntmps31, List.length_cons, List.length_nil, Nat.reduceAdd, Nat.reduceSub, Nat.reduceBEq, List.replicate_succ, List.replicate_zero]
  simp -dsimp only [push_cast, Nat.reduceAdd, Nat.reduceLeDiff, Nat.reduceBEq, decide_true, ne_eq, eq_self, not_true_eq_false, not_false_eq_true, true_imp_iff, false_imp_iff, Int.reduceNe, Int.reduceEq, Int.reduceLT, Int.reduceLE, Bool.not_true, Bool.not_false, d0, d2]
  refine wpL_loop [7, 11, 70, 71, 72, 73, 74, 75, 76, 77, 78, 79] (fun z wx => ∃ (i : Nat) (ov : Value), z 70 = .int .i64 i ∧ z 7 = ov ∧ i ≤ l.length ∧ Vc.Own w.heap.size 9 1 encS wx ov (patTexts (l.take i) 1) ∧ Below w.heap.size w wx) (fun z _ => l.length - (intOf (z 70)).toNat) ?_ ?_
  · exact ⟨0, _, rfl, rfl, Nat.zero_le _, Vc.Own.nil (enc := encS) _ _ (fun _ => rfl) _, Below.refl _ _⟩
  · intro z wx hI
    obtain ⟨i, ov, h9, h3, hi, hox, hbx⟩ := hI
    have szx := hbx.size
    simp -dsimp only [push_cast, Nat.reduceAdd, Nat.reduceLeDiff, Nat.reduceBEq, decide_true, ne_eq, eq_self, not_true_eq_false, not_false_eq_true, true_imp_iff, false_imp_iff, Int.reduceNe, Int.reduceEq, Int.reduceLT, Int.reduceLE, Bool.not_true, Bool.not_false, h9, h3]
    refine ⟨fun hlt => ?_, fun hge => ?_⟩
    · obtain ⟨x, hx, hxm, _, ht⟩ := lt_get (l := l) (i := i) (by omega)
      obtain ⟨u, hu, hVx⟩ := PatsV.nth hV hx
      obtain ⟨b1, o, rfl, hnb, hcell⟩ := (hs.below hbx).get hu
      have cx : wx.cell? ⟨b1, o + i, none⟩ = some (ptrP u) := by have := hcell 0 _ rfl; simpa using this
      have est : patTexts (l.take (i + 1)) 1 = patTexts (l.take i) 1 ++ [patText x 1] := by
        rw [ht, texts_map, texts_map, List.map_append]; rfl
      have hun : ptrP u = .pointer (some ⟨u, 0, none⟩) := rfl
      rw [hun] at cx
      simp -dsimp only [push_cast, Nat.reduceAdd, Nat.reduceLeDiff, Nat.reduceBEq, decide_true, ne_eq, eq_self, not_true_eq_false, not_false_eq_true, true_imp_iff, false_imp_iff, Int.reduceNe, Int.reduceEq, Int.reduceLT, Int.reduceLE, Bool.not_true, Bool.not_false, cx, Nat.mul_one]
      refine ⟨⟨by omega, by omega⟩, ?_⟩
      obtain ⟨oa, oc, rfl⟩ := hox.slice
      refine callK_of (hall x hxm (patsOk_mem hok hxm) (by have := hpc.2.2 x hxm; omega) 1 (by decide) X _ wx (hVx.below hbx) (hd.below hbx hd.lt)) ?_
      rintro _ w5 ⟨rfl, hb5⟩
      have sz5 := hb5.size
      have ho5 := hox.below hb5
      have hB5 := hbx.trans (hb5.mono szx)
      simp -dsimp only [push_cast, Nat.reduceAdd, Nat.reduceLeDiff, Nat.reduceBEq, decide_true, ne_eq, eq_self, not_true_eq_false, not_false_eq_true, true_imp_iff, false_imp_iff, Int.reduceNe, Int.reduceEq, Int.reduceLT, Int.reduceLE, Bool.not_true, Bool.not_false]
      refine rowK elI_93 rfl rfl (by omega) ?_
      intro w7 hw7
      have sz7 : w7.heap.size = w5.heap.size + 1 := hw7.size
      have ho7 := ho5.new hw7
      simp -dsimp only [push_cast, Nat.reduceAdd, Nat.reduceLeDiff, Nat.reduceBEq, decide_true, ne_eq, eq_self, not_true_eq_false, not_false_eq_true, true_imp_iff, false_imp_iff, Int.reduceNe, Int.reduceEq, Int.reduceLT, Int.reduceLE, Bool.not_true, Bool.not_false]
      refine appendK2 (base := w.heap.size) [patText x 1] (enc := encS) elI_93 ho7 (by rfl) (fun j u hu => by rw [Nat.zero_add]; exact hw7.cell hu) (by simp [encS, str, Value.oneCell']) (by rw [texts_map]; simp only [List.length_cons, List.length_nil, List.length_map, List.length_take]; omega) (by omega) ?_
      intro v8 w8 ho8 hg8 hn8
      have hb8 : Below w.heap.size w w8 := (hB5.trans (hw7.below.mono (by omega))).trans ((Kept.grown (X := fun j => w.heap.size ≤ j) hg8 (fun k hk => (ho7.block k hk).1)).below (by omega) (fun _ h => h))
      rw [← est] at ho8
      simp -dsimp only [push_cast, Nat.reduceAdd, Nat.reduceLeDiff, Nat.reduceBEq, decide_true, ne_eq, eq_self, not_true_eq_false, not_false_eq_true, true_imp_iff, false_imp_iff, Int.reduceNe, Int.reduceEq, Int.reduceLT, Int.reduceLE, Bool.not_true, Bool.not_false]
      exact ⟨⟨by omega, by omega⟩, ⟨i + 1, _, rfl, rfl, by omega, ho8, hb8⟩, by rw [h9]; simp only [intOf]; omega⟩
    · have hin : i = l.length := by omega
      subst hin
      rw [List.take_length] at hox
      refine callK_of (join_c (patTexts l 1) [32, 124, 32] (by rw [texts_map, List.length_map]; omega) (by omega) _ _ wx hox.sl) ?_
      rintro _ w6 ⟨rfl, hb6⟩
      have hB6 := hbx.trans (hb6.mono szx)
      simp -dsimp only [push_cast, Nat.reduceAdd, Nat.reduceLeDiff, Nat.reduceBEq, decide_true, ne_eq, eq_self, not_true_eq_false, not_false_eq_true, true_imp_iff, false_imp_iff, Int.reduceNe, Int.reduceEq, Int.reduceLT, Int.reduceLE, Bool.not_true, Bool.not_false]
      refine ⟨fun hlt => ⟨by omega, by simp only [List.length_append, List.length_singleton]; omega, congrArg str ?_, hB6⟩, fun hge => ⟨congrArg str ?_, hB6⟩⟩
      · have : 0 < least := by omega
        simp [patText, inPar, this]
      · have : ¬ 0 < least := by omega
        simp [patText, inPar, this]
end Go.Proofs.YtieaebjkbhaoaaaGreatDoor
