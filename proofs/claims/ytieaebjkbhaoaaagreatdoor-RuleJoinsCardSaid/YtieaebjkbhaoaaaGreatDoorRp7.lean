import Derived.Test.YtieaebjkbhaoaaaGreatDoorRp6
import Derived.Test.YtieaebjkbhaoaaaGreatDoorVr
import Derived.Test.YtieaebjkbhaoaaaGreatDoorBoom
namespace Go.Proofs.YtieaebjkbhaoaaaGreatDoor
open Go.Vc Go.Proofs Go.RowKit Cae
set_option maxRecDepth 100000
set_option linter.unusedSimpArgs false
set_option linter.unusedVariables false
attribute [local irreducible] wpL callK valK unitK runK Fun Sl Own vc vcOps opK pureK
set_option maxHeartbeats 4000000

/-- A part is of a token at least. -/
def Sh {α : Type} (p : Pa α) : Prop := ∀ l x l', p l = .ok (x, l') → l'.length < l.length
def Le {α : Type} (p : Pa α) : Prop := ∀ l x l', p l = .ok (x, l') → l'.length ≤ l.length
theorem Lo.le {α : Type} {R : α → α → Prop} {p : Pa α} (h : Lo R p p) : Le p := fun l x l' e => by
  obtain ⟨pre, _, e, _⟩ := h l x l' e
  rw [e, List.length_append]; omega
theorem LoS.sh {α : Type} {R : α → α → Prop} {p : Pa α} (h : LoS R p p) : Sh p := fun l x l' e => by
  obtain ⟨pre, hne, _, e, _⟩ := h l x l' e
  have := List.length_pos_iff.2 hne
  rw [e, List.length_append]; omega
theorem Sh.le {α : Type} {p : Pa α} (h : Sh p) : Le p := fun l x l' e => Nat.le_of_lt (h l x l' e)
theorem Sh.pb {α β : Type} {p : Pa α} {q : α → Pa β} (h : Sh p) (k : ∀ x, Le (q x)) : Sh (Cae.pb p q) := fun l y l' e => by
  obtain ⟨x, l1, e1, e2⟩ := pb_ok e
  exact Nat.lt_of_le_of_lt (k x _ _ _ e2) (h _ _ _ e1)
theorem Sh.pbr {α β : Type} {p : Pa α} {q : α → Pa β} (h : Le p) (k : ∀ x, Sh (q x)) : Sh (Cae.pb p q) := fun l y l' e => by
  obtain ⟨x, l1, e1, e2⟩ := pb_ok e
  exact Nat.lt_of_lt_of_le (k x _ _ _ e2) (h _ _ _ e1)
theorem Le.pb {α β : Type} {p : Pa α} {q : α → Pa β} (h : Le p) (k : ∀ x, Le (q x)) : Le (Cae.pb p q) := fun l y l' e => by
  obtain ⟨x, l1, e1, e2⟩ := pb_ok e
  exact Nat.le_trans (k x _ _ _ e2) (h _ _ _ e1)
theorem Le.pr {α : Type} {x : α} : Le (pr x) := fun l y l' e => by cases e; exact Nat.le_refl _
theorem Sh.pif {α : Type} {c : List Tok → Bool} {p q : Pa α} (h : Sh p) (k : Sh q) : Sh (Cae.pif c p q) := fun l x l' e => by
  unfold Cae.pif at e
  split at e
  · exact h _ _ _ e
  · exact k _ _ _ e
theorem Sh.fail {α : Type} {n : Nat} : Sh (pfail n : Pa α) := fun l x l' e => by cases e
theorem le_peek : Le peek := Lo.le Lo.peek
theorem sh_pop : Sh popP := LoS.sh lo_pop
theorem ke_refl : ∀ {k : KindP}, KE k k := fun _ => rfl
theorem sh_one : ∀ d, Sh (oneP d)
  | 0 => Sh.fail
  | d + 1 => Sh.pif (LoS.sh lo_lit) (Sh.pif (Sh.pbr le_peek fun _ => Sh.pb sh_pop fun _ => Le.pb (Lo.le (lo_one d)) fun _ => Le.pr)
      (Sh.pif (Sh.pb sh_pop fun _ => Le.pb (Lo.le (lo_kindW (lo_one d))) fun _ => Le.pb (LoS.sh (lo_must _)).le fun _ => Le.pr)
        (Sh.pbr le_peek fun _ => Sh.pb (LoS.sh lo_name) fun _ => Le.pr)))
theorem sh_unit : ∀ d, Sh (unitP d)
  | 0 => Sh.fail
  | d + 1 => Sh.pif (Sh.pb sh_pop fun _ => Le.pr) (Sh.pif (Sh.pb sh_pop fun _ => Le.pr) (Sh.pif (Sh.pb sh_pop fun _ => Le.pb (Lo.le (lo_patW (lo_unit d))) fun _ => Le.pb (LoS.sh (lo_must _)).le fun _ => Le.pr)
      (Sh.pif (Sh.pb (sh_one (d + 1)) fun _ => Le.pr) Sh.fail)))
theorem unit_less {d : Nat} {l l' : List Tok} {x : PatP} (h : unitP d l = .ok (x, l')) : l'.length < l.length := sh_unit d _ _ _ h
theorem again_less {d : Nat} {l l' : List Tok} {x : PatP} (h : againW d (unitP d) l = .ok (x, l')) : l'.length < l.length := by
  obtain ⟨y, l1, h1, h2⟩ := pb_ok h
  have a := unit_less h1
  obtain ⟨pre, _, e, _⟩ := lo_againLoop d _ _ _ _ (show PE y y from fun _ => rfl) _ _ _ h2
  have : l1.length = pre.length + l'.length := by rw [e, List.length_append]
  omega
theorem row_of (d : Nat) (ha : AgainC d) : RowC d := by
  intro n hn0 hn pb B w l0 h0
  have hle := h0.le
  have hlt := h0.lt
  refine fun2_of_vc Tryz.func40 rfl (by kernel_rfl) [.tmp 4] rfl ?_
  simp -dsimp (maxSteps := 4000000) only [push_cast, fr0, Tryz.ntmps40, List.length_cons, List.length_nil, Nat.reduceAdd, Nat.reduceSub, Nat.reduceBEq, List.replicate_succ, List.replicate_zero]
  simp -dsimp only [push_cast, Nat.reduceAdd, Nat.reduceLeDiff, Nat.reduceBEq, decide_true, ne_eq, eq_self, not_true_eq_false, not_false_eq_true, true_imp_iff, false_imp_iff, Int.reduceNe, Int.reduceEq, Int.reduceLT, Int.reduceLE, Bool.not_true, Bool.not_false]
  refine boxK_of ?_
  intro w1 hw1
  have B1 : Blk w1 w.heap.size 90 [.int .i64 4, .pointer none, .slice none 0 0, .int .i64 0, .int .i64 0] := hw1.blk
  have P1 := h0.below hw1.below
  have z1 := hw1.size
  have k1 : Kept (· = pb) w w1 := Kept.new hw1
  simp -dsimp only [push_cast, Nat.reduceAdd, Nat.reduceLeDiff, Nat.reduceBEq, decide_true, ne_eq, eq_self, not_true_eq_false, not_false_eq_true, true_imp_iff, false_imp_iff, Int.reduceNe, Int.reduceEq, Int.reduceLT, Int.reduceLE, Bool.not_true, Bool.not_false]
  refine wpL_loop [8, 9, 10, 11, 12, 13, 14, 15, 16, 17, 18, 19, 20, 21, 22, 23, 24, 25, 26, 27, 28, 29, 30, 31, 32, 33, 34, 35, 36, 37, 38, 39, 40, 41, 42, 43] (fun z w' => ∃ (m : Nat) (acc : List PatP) (l1 : List Tok) (sv : Value) (vs : List Nat), rowLoop (againW d (unitP d)) m acc l1 = rowLoop (againW d (unitP d)) 1000 [] l0 ∧ l1.length < m ∧ acc.length + m ≤ 1000 ∧
      Blk w' w.heap.size 90 [.int .i64 4, .pointer none, sv, .int .i64 0, .int .i64 0] ∧ Go.Vc.Own (w.heap.size + 1) 62 1 encP w' sv vs ∧ PatsV (fun b => b < w.heap.size ∨ b = w.heap.size ∨ sv.ownBlock = some b) w' vs acc ∧ PS pb B w' l1 ∧ Kept (· = pb) w w') (fun z w' => lenAt w' pb) ?_ ?_
  · have hlt : l0.length < 1000 := by have := h0.tl.len; omega
    exact ⟨1000, [], l0, _, [], rfl, hlt, by simp, B1, Own.nil (enc := encP) _ _ (fun _ => rfl) _, by simp only [PatsV], P1, k1⟩
  rintro z w' ⟨m, acc, l1, sv, vs, hm2, hm, hacc, hB, hO, hV, hP1, hkw⟩
  obtain ⟨t1, r1, el1⟩ := hP1.tl.cons
  have hP1' := hP1
  rw [el1] at hP1'
  obtain ⟨b, o, c, hBp, hc, hne, c0, c1, c2, c3⟩ := hP1'.hd
  have cb : w'.cell? ⟨pb, 0, none⟩ = some (.slice (some ⟨b, o, none⟩) (r1.length + 1) c) := hBp.cell rfl
  have hzw := hkw.size
  have hstP : startP l1 = (t1.kind == 3 || namedP l1 || seeP [46] l1 || seeP [36] l1 || seeP [40] l1) := by unfold startP isKind; rw [el1]; rfl
  simp -dsimp only [push_cast, Nat.reduceAdd, Nat.reduceLeDiff, Nat.reduceBEq, decide_true, ne_eq, eq_self, not_true_eq_false, not_false_eq_true, true_imp_iff, false_imp_iff, Int.reduceNe, Int.reduceEq, Int.reduceLT, Int.reduceLE, Bool.not_true, Bool.not_false, cb, c0]
  refine ⟨by omega, fun h3 => ?_, fun h3 => ?_⟩
  · have hk3 : (t1.kind == 3) = false := by
      have : t1.kind ≠ 3 := fun e => h3 (by omega)
      simpa using this
    rw [hk3, Bool.false_or] at hstP
    refine callK_of (named_c hP1) ?_
    rintro _ w2 ⟨rfl, b2⟩
    have P2 := hP1.below b2
    have hB2 := hB.below b2 hB.lt
    have hO2 := hO.below b2
    have hV2 := PatsV.mono (X' := fun b => b < w.heap.size ∨ b = w.heap.size ∨ sv.ownBlock = some b) (Kept.of_below b2 (X := fun _ => False) (fun i h1 h2 => by omega)) (fun _ h => h.elim) (fun _ h => h) hV
    have k2 := hkw.trans (Kept.of_below b2 (X := (· = pb)) (fun i h1 h2 => by omega)) (fun i _ h => h)
    cases hnm : namedP l1 with
    | true =>
      have hst : startP l1 = true := by rw [hstP, hnm]; rfl
      simp -dsimp only [push_cast, Nat.reduceAdd, Nat.reduceLeDiff, Nat.reduceBEq, decide_true, ne_eq, eq_self, not_true_eq_false, not_false_eq_true, true_imp_iff, false_imp_iff, Int.reduceNe, Int.reduceEq, Int.reduceLT, Int.reduceLE, Bool.not_true, Bool.not_false]
      -- at world w2: hB2 hO2 hV2 P2 k2
      have hm1 : ∃ m', m = m' + 1 := ⟨m - 1, by omega⟩
      obtain ⟨m', hmm⟩ := hm1
      have hz2 : w.heap.size < w2.heap.size := hB2.lt
      have kd : Kept (fun _ => False) w2 w2.drew := (Kept.refl _ _).drew
      have hBd := hB2.kept kd (fun h => h)
      have Pd := P2.kept kd (fun i h => h.elim)
      have kdd := k2.trans kd (fun i h1 h2 => h2.elim)
      have d2 : w2.drew.cell? ⟨w.heap.size, 2, none⟩ = some sv := hBd.cell rfl
      have hstep : rowLoop (againW d (unitP d)) m acc l1 = Cae.pb (againW d (unitP d)) (fun x => rowLoop (againW d (unitP d)) m' (acc ++ [x])) l1 := by
        rw [hmm, rowLoop]
        unfold pif
        rw [hst, if_pos rfl]
      cases hp : againW d (unitP d) l1 with
      | error e =>
        refine wpL_boom (E := PThr pb w l0 (rowW (againW d (unitP d)))) [(), (), (), (), (), (), ()] mixed (by kernel_rfl) (fun ce te we hE => ?_) ?_
        · simp -dsimp only [push_cast, Nat.reduceAdd, Nat.reduceLeDiff, Nat.reduceBEq, decide_true, ne_eq, eq_self, not_true_eq_false, not_false_eq_true, true_imp_iff, false_imp_iff, Int.reduceNe, Int.reduceEq, Int.reduceLT, Int.reduceLE, Bool.not_true, Bool.not_false]
          exact hE
        · simp -dsimp only [push_cast, Nat.reduceAdd, Nat.reduceLeDiff, Nat.reduceBEq, decide_true, ne_eq, eq_self, not_true_eq_false, not_false_eq_true, true_imp_iff, false_imp_iff, Int.reduceNe, Int.reduceEq, Int.reduceLT, Int.reduceLE, Bool.not_true, Bool.not_false, d2]
          refine ⟨fun w'' h => by rw [h, d2]; exact rfl, ?_⟩
          refine callB_of (ha n hn0 hn pb B w2.drew l1 Pd) (fun v we ⟨x, l', h1, _⟩ => by rw [hp] at h1; cases h1) ?_
          rintro ce we ⟨en, pos, he, ht, hke⟩
          refine ⟨en, pos, ?_, ht.mono (by have := kdd.size; omega), kdd.trans hke (fun i _ h => h)⟩
          have hl : rowLoop (againW d (unitP d)) 1000 [] l0 = .error (en, pos) := by
            rw [← hm2, hstep]
            unfold Cae.pb
            rw [he]
          unfold rowW Cae.pb
          rw [hl]
      | ok q =>
        obtain ⟨x, l2⟩ := q
        have hl2 : l2.length < l1.length := again_less hp
        refine wpL_lastN (fun w' => Blk w' w.heap.size 90 [.int .i64 4, .pointer none, sv, .int .i64 0, .int .i64 0]) mixed (by kernel_rfl) (by simp) hB2.drew ?_
        simp -dsimp only [push_cast, Nat.reduceAdd, Nat.reduceLeDiff, Nat.reduceBEq, decide_true, ne_eq, eq_self, not_true_eq_false, not_false_eq_true, true_imp_iff, false_imp_iff, Int.reduceNe, Int.reduceEq, Int.reduceLT, Int.reduceLE, Bool.not_true, Bool.not_false, d2]
        refine ⟨fun w'' h => by rw [Blk.cell h (o := 2) rfl]; exact rfl, ?_⟩
        refine callP_of (ha n hn0 hn pb B w2.drew l1 Pd) ?_ (fun ce we ⟨en, pos, he, _⟩ => by rw [hp] at he; cases he)
        rintro u w3 ⟨x', l2', e3, V3, P3, k3⟩
        obtain ⟨rfl, rfl⟩ : x = x' ∧ l2 = l2' := by rw [hp] at e3; cases e3; exact ⟨rfl, rfl⟩
        obtain ⟨ub, rfl, hub, hubX⟩ := V3.ptr
        have B3 := hBd.kept k3 (by omega)
        have z3 := k3.size
        have hzd : w2.heap.size = w2.drew.heap.size := rfl
        have hob : ∀ g, sv.ownBlock = some g → g < w2.heap.size := fun g hg => (hO2.block g hg).2
        have hO3 := (hO2.keptX kd (fun g _ h => h)).keptX k3 (fun g hg h => by have := (hO2.block g hg).1; omega)
        have hV3 := PatsV.mono (X' := fun b => (b < w.heap.size ∨ b = w.heap.size ∨ sv.ownBlock = some b) ∨ w2.heap.size ≤ b) ((kd.weaken (Y := (· = pb)) (fun i _ h => h.elim)).trans k3 (fun i _ h => h)) (fun i h => by omega) (fun i h => h) (PatsV.top hV2)
        refine ⟨B3, ?_⟩
        simp -dsimp only [push_cast, Nat.reduceAdd, Nat.reduceLeDiff, Nat.reduceBEq, decide_true, ne_eq, eq_self, not_true_eq_false, not_false_eq_true, true_imp_iff, false_imp_iff, Int.reduceNe, Int.reduceEq, Int.reduceLT, Int.reduceLE, Bool.not_true, Bool.not_false]
        refine rowK elI_88 rfl rfl (by omega) ?_
        intro w4 hw4
        have B4 := B3.below hw4.below B3.lt
        have z4 := hw4.size
        have hO4 := hO3.new hw4
        have P4 := P3.below hw4.below
        refine ⟨B4, ?_⟩
        simp -dsimp only [push_cast, Nat.reduceAdd, Nat.reduceLeDiff, Nat.reduceBEq, decide_true, ne_eq, eq_self, not_true_eq_false, not_false_eq_true, true_imp_iff, false_imp_iff, Int.reduceNe, Int.reduceEq, Int.reduceLT, Int.reduceLE, Bool.not_true, Bool.not_false]
        refine appendK2 (base := w.heap.size + 1) [ub] (enc := encP) elI_88 hO4 (by rfl) (fun j y hy => by simpa [encP, ptrP] using hw4.cell hy) encP_one (by rw [PatsV.len hV2]; simp only [List.length_cons, List.length_nil]; omega) (by omega) ?_
        intro sv5 w5 hO5 hg5 hn5
        have kg : Kept (fun j => sv.ownBlock = some j) w4 w5 := Kept.grown hg5 (fun _ h => h)
        have hog : ∀ g, sv.ownBlock = some g → w.heap.size + 1 ≤ g := fun g hg => (hO2.block g hg).1
        have B5 := B4.kept kg (fun h => by have := hog _ h; omega)
        have P5 := P4.kept kg (fun i h => by have := hog _ h; omega)
        have z5 := kg.size
        refine ⟨B5, ?_⟩
        obtain ⟨a5, c5, rfl⟩ := hO5.slice
        simp -dsimp only [push_cast, Nat.reduceAdd, Nat.reduceLeDiff, Nat.reduceBEq, decide_true, ne_eq, eq_self, not_true_eq_false, not_false_eq_true, true_imp_iff, false_imp_iff, Int.reduceNe, Int.reduceEq, Int.reduceLT, Int.reduceLE, Bool.not_true, Bool.not_false]
        refine storeK_of B5 (by simp) rfl ?_
        intro w6 hw6
        have B6 : Blk w6 w.heap.size 90 [.int .i64 4, .pointer none, .slice a5 (vs ++ [ub]).length c5, .int .i64 0, .int .i64 0] := hw6.blk
        have P6 := P5.kept hw6.kept (fun i h => by omega)
        have z6 := hw6.size
        have hO6 := hO5.keptX hw6.kept (fun g hg h => by have := (hO5.block g hg).1; omega)
        have k6 := (((kdd.trans k3 (fun i _ h => h)).trans (Kept.new (X := (· = pb)) hw4) (fun i _ h => h)).trans kg (fun i h1 h2 => by have := hog _ h2; omega)).trans hw6.kept (fun i h1 h2 => by omega)
        have kY : Kept (fun i => i = w.heap.size ∨ sv.ownBlock = some i) w3 w6 := ((Kept.new (X := fun i => i = w.heap.size ∨ sv.ownBlock = some i) hw4).trans kg (fun i _ h => .inr h)).trans hw6.kept (fun i _ h => .inl h)
        have hX : ∀ i, (i < w.heap.size ∨ i = w.heap.size ∨ (Value.slice a5 (vs ++ [ub]).length c5).ownBlock = some i) → i < w.heap.size ∨ i = w.heap.size ∨ sv.ownBlock = some i ∨ w4.heap.size ≤ i := fun i h => by
          rcases h with h | h | h
          · exact .inl h
          · exact .inr (.inl h)
          · rcases hn5 i h with h | h
            · exact .inr (.inr (.inl h))
            · exact .inr (.inr (.inr h))
        have hV6 : PatsV (fun b => b < w.heap.size ∨ b = w.heap.size ∨ (Value.slice a5 (vs ++ [ub]).length c5).ownBlock = some b) w6 (vs ++ [ub]) (acc ++ [x]) := by
          refine PatsV.snoc (PatsV.mono kY (fun i h => ?_) (fun i h => ?_) hV3) (PatV.mono kY (fun i h => ?_) (fun i h => ?_) V3.top)
          · rcases h with h | h
            · exact .inl (.inr (.inl h))
            · exact .inl (.inr (.inr h))
          · rcases hX i h with h | h | h | h
            · exact .inl (.inl h)
            · exact .inl (.inr (.inl h))
            · exact .inl (.inr (.inr h))
            · exact .inr (by omega)
          · rcases h with h | h
            · exact .inl (by omega)
            · exact .inl (hob i h)
          · rcases hX i h with h | h | h | h
            · exact .inl (by omega)
            · exact .inl (by omega)
            · exact .inl (hob i h)
            · exact .inr (by omega)
        have hlen6 := P6.len
        have hlen1 := hP1.len
        have hnx : rowLoop (againW d (unitP d)) m' (acc ++ [x]) l2 = rowLoop (againW d (unitP d)) 1000 [] l0 := by rw [← hm2, hstep, pb_of hp]
        simp -dsimp only [push_cast, Nat.reduceAdd, Nat.reduceLeDiff, Nat.reduceBEq, decide_true, ne_eq, eq_self, not_true_eq_false, not_false_eq_true, true_imp_iff, false_imp_iff, Int.reduceNe, Int.reduceEq, Int.reduceLT, Int.reduceLE, Bool.not_true, Bool.not_false]
        exact ⟨⟨m', acc ++ [x], l2, _, vs ++ [ub], hnx, by omega, by rw [List.length_append, List.length_singleton]; omega, B6, hO6, hV6, P6, k6⟩, by rw [hlen6, hlen1]; exact hl2⟩
    | false =>
      rw [hnm, Bool.false_or] at hstP
      simp -dsimp only [push_cast, Nat.reduceAdd, Nat.reduceLeDiff, Nat.reduceBEq, decide_true, ne_eq, eq_self, not_true_eq_false, not_false_eq_true, true_imp_iff, false_imp_iff, Int.reduceNe, Int.reduceEq, Int.reduceLT, Int.reduceLE, Bool.not_true, Bool.not_false]
      refine callK_of (see_c [46] P2) ?_
      rintro _ w3 ⟨rfl, hw3⟩
      obtain rfl : w2 = w3 := hw3.symm
      cases hs1 : seeP [46] l1 with
      | true =>
        have hst : startP l1 = true := by rw [hstP, hs1]; rfl
        simp -dsimp only [push_cast, Nat.reduceAdd, Nat.reduceLeDiff, Nat.reduceBEq, decide_true, ne_eq, eq_self, not_true_eq_false, not_false_eq_true, true_imp_iff, false_imp_iff, Int.reduceNe, Int.reduceEq, Int.reduceLT, Int.reduceLE, Bool.not_true, Bool.not_false]
        -- at world w2: hB2 hO2 hV2 P2 k2
        have hm1 : ∃ m', m = m' + 1 := ⟨m - 1, by omega⟩
        obtain ⟨m', hmm⟩ := hm1
        have hz2 : w.heap.size < w2.heap.size := hB2.lt
        have kd : Kept (fun _ => False) w2 w2.drew := (Kept.refl _ _).drew
        have hBd := hB2.kept kd (fun h => h)
        have Pd := P2.kept kd (fun i h => h.elim)
        have kdd := k2.trans kd (fun i h1 h2 => h2.elim)
        have d2 : w2.drew.cell? ⟨w.heap.size, 2, none⟩ = some sv := hBd.cell rfl
        have hstep : rowLoop (againW d (unitP d)) m acc l1 = Cae.pb (againW d (unitP d)) (fun x => rowLoop (againW d (unitP d)) m' (acc ++ [x])) l1 := by
          rw [hmm, rowLoop]
          unfold pif
          rw [hst, if_pos rfl]
        cases hp : againW d (unitP d) l1 with
        | error e =>
          refine wpL_boom (E := PThr pb w l0 (rowW (againW d (unitP d)))) [(), (), (), (), (), (), ()] mixed (by kernel_rfl) (fun ce te we hE => ?_) ?_
          · simp -dsimp only [push_cast, Nat.reduceAdd, Nat.reduceLeDiff, Nat.reduceBEq, decide_true, ne_eq, eq_self, not_true_eq_false, not_false_eq_true, true_imp_iff, false_imp_iff, Int.reduceNe, Int.reduceEq, Int.reduceLT, Int.reduceLE, Bool.not_true, Bool.not_false]
            exact hE
          · simp -dsimp only [push_cast, Nat.reduceAdd, Nat.reduceLeDiff, Nat.reduceBEq, decide_true, ne_eq, eq_self, not_true_eq_false, not_false_eq_true, true_imp_iff, false_imp_iff, Int.reduceNe, Int.reduceEq, Int.reduceLT, Int.reduceLE, Bool.not_true, Bool.not_false, d2]
            refine ⟨fun w'' h => by rw [h, d2]; exact rfl, ?_⟩
            refine callB_of (ha n hn0 hn pb B w2.drew l1 Pd) (fun v we ⟨x, l', h1, _⟩ => by rw [hp] at h1; cases h1) ?_
            rintro ce we ⟨en, pos, he, ht, hke⟩
            refine ⟨en, pos, ?_, ht.mono (by have := kdd.size; omega), kdd.trans hke (fun i _ h => h)⟩
            have hl : rowLoop (againW d (unitP d)) 1000 [] l0 = .error (en, pos) := by
              rw [← hm2, hstep]
              unfold Cae.pb
              rw [he]
            unfold rowW Cae.pb
            rw [hl]
        | ok q =>
          obtain ⟨x, l2⟩ := q
          have hl2 : l2.length < l1.length := again_less hp
          refine wpL_lastN (fun w' => Blk w' w.heap.size 90 [.int .i64 4, .pointer none, sv, .int .i64 0, .int .i64 0]) mixed (by kernel_rfl) (by simp) hB2.drew ?_
          simp -dsimp only [push_cast, Nat.reduceAdd, Nat.reduceLeDiff, Nat.reduceBEq, decide_true, ne_eq, eq_self, not_true_eq_false, not_false_eq_true, true_imp_iff, false_imp_iff, Int.reduceNe, Int.reduceEq, Int.reduceLT, Int.reduceLE, Bool.not_true, Bool.not_false, d2]
          refine ⟨fun w'' h => by rw [Blk.cell h (o := 2) rfl]; exact rfl, ?_⟩
          refine callP_of (ha n hn0 hn pb B w2.drew l1 Pd) ?_ (fun ce we ⟨en, pos, he, _⟩ => by rw [hp] at he; cases he)
          rintro u w3 ⟨x', l2', e3, V3, P3, k3⟩
          obtain ⟨rfl, rfl⟩ : x = x' ∧ l2 = l2' := by rw [hp] at e3; cases e3; exact ⟨rfl, rfl⟩
          obtain ⟨ub, rfl, hub, hubX⟩ := V3.ptr
          have B3 := hBd.kept k3 (by omega)
          have z3 := k3.size
          have hzd : w2.heap.size = w2.drew.heap.size := rfl
          have hob : ∀ g, sv.ownBlock = some g → g < w2.heap.size := fun g hg => (hO2.block g hg).2
          have hO3 := (hO2.keptX kd (fun g _ h => h)).keptX k3 (fun g hg h => by have := (hO2.block g hg).1; omega)
          have hV3 := PatsV.mono (X' := fun b => (b < w.heap.size ∨ b = w.heap.size ∨ sv.ownBlock = some b) ∨ w2.heap.size ≤ b) ((kd.weaken (Y := (· = pb)) (fun i _ h => h.elim)).trans k3 (fun i _ h => h)) (fun i h => by omega) (fun i h => h) (PatsV.top hV2)
          refine ⟨B3, ?_⟩
          simp -dsimp only [push_cast, Nat.reduceAdd, Nat.reduceLeDiff, Nat.reduceBEq, decide_true, ne_eq, eq_self, not_true_eq_false, not_false_eq_true, true_imp_iff, false_imp_iff, Int.reduceNe, Int.reduceEq, Int.reduceLT, Int.reduceLE, Bool.not_true, Bool.not_false]
          refine rowK elI_88 rfl rfl (by omega) ?_
          intro w4 hw4
          have B4 := B3.below hw4.below B3.lt
          have z4 := hw4.size
          have hO4 := hO3.new hw4
          have P4 := P3.below hw4.below
          refine ⟨B4, ?_⟩
          simp -dsimp only [push_cast, Nat.reduceAdd, Nat.reduceLeDiff, Nat.reduceBEq, decide_true, ne_eq, eq_self, not_true_eq_false, not_false_eq_true, true_imp_iff, false_imp_iff, Int.reduceNe, Int.reduceEq, Int.reduceLT, Int.reduceLE, Bool.not_true, Bool.not_false]
          refine appendK2 (base := w.heap.size + 1) [ub] (enc := encP) elI_88 hO4 (by rfl) (fun j y hy => by simpa [encP, ptrP] using hw4.cell hy) encP_one (by rw [PatsV.len hV2]; simp only [List.length_cons, List.length_nil]; omega) (by omega) ?_
          intro sv5 w5 hO5 hg5 hn5
          have kg : Kept (fun j => sv.ownBlock = some j) w4 w5 := Kept.grown hg5 (fun _ h => h)
          have hog : ∀ g, sv.ownBlock = some g → w.heap.size + 1 ≤ g := fun g hg => (hO2.block g hg).1
          have B5 := B4.kept kg (fun h => by have := hog _ h; omega)
          have P5 := P4.kept kg (fun i h => by have := hog _ h; omega)
          have z5 := kg.size
          refine ⟨B5, ?_⟩
          obtain ⟨a5, c5, rfl⟩ := hO5.slice
          simp -dsimp only [push_cast, Nat.reduceAdd, Nat.reduceLeDiff, Nat.reduceBEq, decide_true, ne_eq, eq_self, not_true_eq_false, not_false_eq_true, true_imp_iff, false_imp_iff, Int.reduceNe, Int.reduceEq, Int.reduceLT, Int.reduceLE, Bool.not_true, Bool.not_false]
          refine storeK_of B5 (by simp) rfl ?_
          intro w6 hw6
          have B6 : Blk w6 w.heap.size 90 [.int .i64 4, .pointer none, .slice a5 (vs ++ [ub]).length c5, .int .i64 0, .int .i64 0] := hw6.blk
          have P6 := P5.kept hw6.kept (fun i h => by omega)
          have z6 := hw6.size
          have hO6 := hO5.keptX hw6.kept (fun g hg h => by have := (hO5.block g hg).1; omega)
          have k6 := (((kdd.trans k3 (fun i _ h => h)).trans (Kept.new (X := (· = pb)) hw4) (fun i _ h => h)).trans kg (fun i h1 h2 => by have := hog _ h2; omega)).trans hw6.kept (fun i h1 h2 => by omega)
          have kY : Kept (fun i => i = w.heap.size ∨ sv.ownBlock = some i) w3 w6 := ((Kept.new (X := fun i => i = w.heap.size ∨ sv.ownBlock = some i) hw4).trans kg (fun i _ h => .inr h)).trans hw6.kept (fun i _ h => .inl h)
          have hX : ∀ i, (i < w.heap.size ∨ i = w.heap.size ∨ (Value.slice a5 (vs ++ [ub]).length c5).ownBlock = some i) → i < w.heap.size ∨ i = w.heap.size ∨ sv.ownBlock = some i ∨ w4.heap.size ≤ i := fun i h => by
            rcases h with h | h | h
            · exact .inl h
            · exact .inr (.inl h)
            · rcases hn5 i h with h | h
              · exact .inr (.inr (.inl h))
              · exact .inr (.inr (.inr h))
          have hV6 : PatsV (fun b => b < w.heap.size ∨ b = w.heap.size ∨ (Value.slice a5 (vs ++ [ub]).length c5).ownBlock = some b) w6 (vs ++ [ub]) (acc ++ [x]) := by
            refine PatsV.snoc (PatsV.mono kY (fun i h => ?_) (fun i h => ?_) hV3) (PatV.mono kY (fun i h => ?_) (fun i h => ?_) V3.top)
            · rcases h with h | h
              · exact .inl (.inr (.inl h))
              · exact .inl (.inr (.inr h))
            · rcases hX i h with h | h | h | h
              · exact .inl (.inl h)
              · exact .inl (.inr (.inl h))
              · exact .inl (.inr (.inr h))
              · exact .inr (by omega)
            · rcases h with h | h
              · exact .inl (by omega)
              · exact .inl (hob i h)
            · rcases hX i h with h | h | h | h
              · exact .inl (by omega)
              · exact .inl (by omega)
              · exact .inl (hob i h)
              · exact .inr (by omega)
          have hlen6 := P6.len
          have hlen1 := hP1.len
          have hnx : rowLoop (againW d (unitP d)) m' (acc ++ [x]) l2 = rowLoop (againW d (unitP d)) 1000 [] l0 := by rw [← hm2, hstep, pb_of hp]
          simp -dsimp only [push_cast, Nat.reduceAdd, Nat.reduceLeDiff, Nat.reduceBEq, decide_true, ne_eq, eq_self, not_true_eq_false, not_false_eq_true, true_imp_iff, false_imp_iff, Int.reduceNe, Int.reduceEq, Int.reduceLT, Int.reduceLE, Bool.not_true, Bool.not_false]
          exact ⟨⟨m', acc ++ [x], l2, _, vs ++ [ub], hnx, by omega, by rw [List.length_append, List.length_singleton]; omega, B6, hO6, hV6, P6, k6⟩, by rw [hlen6, hlen1]; exact hl2⟩
      | false =>
        rw [hs1, Bool.false_or] at hstP
        simp -dsimp only [push_cast, Nat.reduceAdd, Nat.reduceLeDiff, Nat.reduceBEq, decide_true, ne_eq, eq_self, not_true_eq_false, not_false_eq_true, true_imp_iff, false_imp_iff, Int.reduceNe, Int.reduceEq, Int.reduceLT, Int.reduceLE, Bool.not_true, Bool.not_false]
        refine callK_of (see_c [36] P2) ?_
        rintro _ w3 ⟨rfl, hw3⟩
        obtain rfl : w2 = w3 := hw3.symm
        cases hs2 : seeP [36] l1 with
        | true =>
          have hst : startP l1 = true := by rw [hstP, hs2]; rfl
          simp -dsimp only [push_cast, Nat.reduceAdd, Nat.reduceLeDiff, Nat.reduceBEq, decide_true, ne_eq, eq_self, not_true_eq_false, not_false_eq_true, true_imp_iff, false_imp_iff, Int.reduceNe, Int.reduceEq, Int.reduceLT, Int.reduceLE, Bool.not_true, Bool.not_false]
          -- at world w2: hB2 hO2 hV2 P2 k2
          have hm1 : ∃ m', m = m' + 1 := ⟨m - 1, by omega⟩
          obtain ⟨m', hmm⟩ := hm1
          have hz2 : w.heap.size < w2.heap.size := hB2.lt
          have kd : Kept (fun _ => False) w2 w2.drew := (Kept.refl _ _).drew
          have hBd := hB2.kept kd (fun h => h)
          have Pd := P2.kept kd (fun i h => h.elim)
          have kdd := k2.trans kd (fun i h1 h2 => h2.elim)
          have d2 : w2.drew.cell? ⟨w.heap.size, 2, none⟩ = some sv := hBd.cell rfl
          have hstep : rowLoop (againW d (unitP d)) m acc l1 = Cae.pb (againW d (unitP d)) (fun x => rowLoop (againW d (unitP d)) m' (acc ++ [x])) l1 := by
            rw [hmm, rowLoop]
            unfold pif
            rw [hst, if_pos rfl]
          cases hp : againW d (unitP d) l1 with
          | error e =>
            refine wpL_boom (E := PThr pb w l0 (rowW (againW d (unitP d)))) [(), (), (), (), (), (), ()] mixed (by kernel_rfl) (fun ce te we hE => ?_) ?_
            · simp -dsimp only [push_cast, Nat.reduceAdd, Nat.reduceLeDiff, Nat.reduceBEq, decide_true, ne_eq, eq_self, not_true_eq_false, not_false_eq_true, true_imp_iff, false_imp_iff, Int.reduceNe, Int.reduceEq, Int.reduceLT, Int.reduceLE, Bool.not_true, Bool.not_false]
              exact hE
            · simp -dsimp only [push_cast, Nat.reduceAdd, Nat.reduceLeDiff, Nat.reduceBEq, decide_true, ne_eq, eq_self, not_true_eq_false, not_false_eq_true, true_imp_iff, false_imp_iff, Int.reduceNe, Int.reduceEq, Int.reduceLT, Int.reduceLE, Bool.not_true, Bool.not_false, d2]
              refine ⟨fun w'' h => by rw [h, d2]; exact rfl, ?_⟩
              refine callB_of (ha n hn0 hn pb B w2.drew l1 Pd) (fun v we ⟨x, l', h1, _⟩ => by rw [hp] at h1; cases h1) ?_
              rintro ce we ⟨en, pos, he, ht, hke⟩
              refine ⟨en, pos, ?_, ht.mono (by have := kdd.size; omega), kdd.trans hke (fun i _ h => h)⟩
              have hl : rowLoop (againW d (unitP d)) 1000 [] l0 = .error (en, pos) := by
                rw [← hm2, hstep]
                unfold Cae.pb
                rw [he]
              unfold rowW Cae.pb
              rw [hl]
          | ok q =>
            obtain ⟨x, l2⟩ := q
            have hl2 : l2.length < l1.length := again_less hp
            refine wpL_lastN (fun w' => Blk w' w.heap.size 90 [.int .i64 4, .pointer none, sv, .int .i64 0, .int .i64 0]) mixed (by kernel_rfl) (by simp) hB2.drew ?_
            simp -dsimp only [push_cast, Nat.reduceAdd, Nat.reduceLeDiff, Nat.reduceBEq, decide_true, ne_eq, eq_self, not_true_eq_false, not_false_eq_true, true_imp_iff, false_imp_iff, Int.reduceNe, Int.reduceEq, Int.reduceLT, Int.reduceLE, Bool.not_true, Bool.not_false, d2]
            refine ⟨fun w'' h => by rw [Blk.cell h (o := 2) rfl]; exact rfl, ?_⟩
            refine callP_of (ha n hn0 hn pb B w2.drew l1 Pd) ?_ (fun ce we ⟨en, pos, he, _⟩ => by rw [hp] at he; cases he)
            rintro u w3 ⟨x', l2', e3, V3, P3, k3⟩
            obtain ⟨rfl, rfl⟩ : x = x' ∧ l2 = l2' := by rw [hp] at e3; cases e3; exact ⟨rfl, rfl⟩
            obtain ⟨ub, rfl, hub, hubX⟩ := V3.ptr
            have B3 := hBd.kept k3 (by omega)
            have z3 := k3.size
            have hzd : w2.heap.size = w2.drew.heap.size := rfl
            have hob : ∀ g, sv.ownBlock = some g → g < w2.heap.size := fun g hg => (hO2.block g hg).2
            have hO3 := (hO2.keptX kd (fun g _ h => h)).keptX k3 (fun g hg h => by have := (hO2.block g hg).1; omega)
            have hV3 := PatsV.mono (X' := fun b => (b < w.heap.size ∨ b = w.heap.size ∨ sv.ownBlock = some b) ∨ w2.heap.size ≤ b) ((kd.weaken (Y := (· = pb)) (fun i _ h => h.elim)).trans k3 (fun i _ h => h)) (fun i h => by omega) (fun i h => h) (PatsV.top hV2)
            refine ⟨B3, ?_⟩
            simp -dsimp only [push_cast, Nat.reduceAdd, Nat.reduceLeDiff, Nat.reduceBEq, decide_true, ne_eq, eq_self, not_true_eq_false, not_false_eq_true, true_imp_iff, false_imp_iff, Int.reduceNe, Int.reduceEq, Int.reduceLT, Int.reduceLE, Bool.not_true, Bool.not_false]
            refine rowK elI_88 rfl rfl (by omega) ?_
            intro w4 hw4
            have B4 := B3.below hw4.below B3.lt
            have z4 := hw4.size
            have hO4 := hO3.new hw4
            have P4 := P3.below hw4.below
            refine ⟨B4, ?_⟩
            simp -dsimp only [push_cast, Nat.reduceAdd, Nat.reduceLeDiff, Nat.reduceBEq, decide_true, ne_eq, eq_self, not_true_eq_false, not_false_eq_true, true_imp_iff, false_imp_iff, Int.reduceNe, Int.reduceEq, Int.reduceLT, Int.reduceLE, Bool.not_true, Bool.not_false]
            refine appendK2 (base := w.heap.size + 1) [ub] (enc := encP) elI_88 hO4 (by rfl) (fun j y hy => by simpa [encP, ptrP] using hw4.cell hy) encP_one (by rw [PatsV.len hV2]; simp only [List.length_cons, List.length_nil]; omega) (by omega) ?_
            intro sv5 w5 hO5 hg5 hn5
            have kg : Kept (fun j => sv.ownBlock = some j) w4 w5 := Kept.grown hg5 (fun _ h => h)
            have hog : ∀ g, sv.ownBlock = some g → w.heap.size + 1 ≤ g := fun g hg => (hO2.block g hg).1
            have B5 := B4.kept kg (fun h => by have := hog _ h; omega)
            have P5 := P4.kept kg (fun i h => by have := hog _ h; omega)
            have z5 := kg.size
            refine ⟨B5, ?_⟩
            obtain ⟨a5, c5, rfl⟩ := hO5.slice
            simp -dsimp only [push_cast, Nat.reduceAdd, Nat.reduceLeDiff, Nat.reduceBEq, decide_true, ne_eq, eq_self, not_true_eq_false, not_false_eq_true, true_imp_iff, false_imp_iff, Int.reduceNe, Int.reduceEq, Int.reduceLT, Int.reduceLE, Bool.not_true, Bool.not_false]
            refine storeK_of B5 (by simp) rfl ?_
            intro w6 hw6
            have B6 : Blk w6 w.heap.size 90 [.int .i64 4, .pointer none, .slice a5 (vs ++ [ub]).length c5, .int .i64 0, .int .i64 0] := hw6.blk
            have P6 := P5.kept hw6.kept (fun i h => by omega)
            have z6 := hw6.size
            have hO6 := hO5.keptX hw6.kept (fun g hg h => by have := (hO5.block g hg).1; omega)
            have k6 := (((kdd.trans k3 (fun i _ h => h)).trans (Kept.new (X := (· = pb)) hw4) (fun i _ h => h)).trans kg (fun i h1 h2 => by have := hog _ h2; omega)).trans hw6.kept (fun i h1 h2 => by omega)
            have kY : Kept (fun i => i = w.heap.size ∨ sv.ownBlock = some i) w3 w6 := ((Kept.new (X := fun i => i = w.heap.size ∨ sv.ownBlock = some i) hw4).trans kg (fun i _ h => .inr h)).trans hw6.kept (fun i _ h => .inl h)
            have hX : ∀ i, (i < w.heap.size ∨ i = w.heap.size ∨ (Value.slice a5 (vs ++ [ub]).length c5).ownBlock = some i) → i < w.heap.size ∨ i = w.heap.size ∨ sv.ownBlock = some i ∨ w4.heap.size ≤ i := fun i h => by
              rcases h with h | h | h
              · exact .inl h
              · exact .inr (.inl h)
              · rcases hn5 i h with h | h
                · exact .inr (.inr (.inl h))
                · exact .inr (.inr (.inr h))
            have hV6 : PatsV (fun b => b < w.heap.size ∨ b = w.heap.size ∨ (Value.slice a5 (vs ++ [ub]).length c5).ownBlock = some b) w6 (vs ++ [ub]) (acc ++ [x]) := by
              refine PatsV.snoc (PatsV.mono kY (fun i h => ?_) (fun i h => ?_) hV3) (PatV.mono kY (fun i h => ?_) (fun i h => ?_) V3.top)
              · rcases h with h | h
                · exact .inl (.inr (.inl h))
                · exact .inl (.inr (.inr h))
              · rcases hX i h with h | h | h | h
                · exact .inl (.inl h)
                · exact .inl (.inr (.inl h))
                · exact .inl (.inr (.inr h))
                · exact .inr (by omega)
              · rcases h with h | h
                · exact .inl (by omega)
                · exact .inl (hob i h)
              · rcases hX i h with h | h | h | h
                · exact .inl (by omega)
                · exact .inl (by omega)
                · exact .inl (hob i h)
                · exact .inr (by omega)
            have hlen6 := P6.len
            have hlen1 := hP1.len
            have hnx : rowLoop (againW d (unitP d)) m' (acc ++ [x]) l2 = rowLoop (againW d (unitP d)) 1000 [] l0 := by rw [← hm2, hstep, pb_of hp]
            simp -dsimp only [push_cast, Nat.reduceAdd, Nat.reduceLeDiff, Nat.reduceBEq, decide_true, ne_eq, eq_self, not_true_eq_false, not_false_eq_true, true_imp_iff, false_imp_iff, Int.reduceNe, Int.reduceEq, Int.reduceLT, Int.reduceLE, Bool.not_true, Bool.not_false]
            exact ⟨⟨m', acc ++ [x], l2, _, vs ++ [ub], hnx, by omega, by rw [List.length_append, List.length_singleton]; omega, B6, hO6, hV6, P6, k6⟩, by rw [hlen6, hlen1]; exact hl2⟩
        | false =>
          rw [hs2, Bool.false_or] at hstP
          simp -dsimp only [push_cast, Nat.reduceAdd, Nat.reduceLeDiff, Nat.reduceBEq, decide_true, ne_eq, eq_self, not_true_eq_false, not_false_eq_true, true_imp_iff, false_imp_iff, Int.reduceNe, Int.reduceEq, Int.reduceLT, Int.reduceLE, Bool.not_true, Bool.not_false]
          refine callK_of (see_c [40] P2) ?_
          rintro _ w3 ⟨rfl, hw3⟩
          obtain rfl : w2 = w3 := hw3.symm
          cases hs3 : seeP [40] l1 with
          | true =>
            have hst : startP l1 = true := by rw [hstP, hs3]
            simp -dsimp only [push_cast, Nat.reduceAdd, Nat.reduceLeDiff, Nat.reduceBEq, decide_true, ne_eq, eq_self, not_true_eq_false, not_false_eq_true, true_imp_iff, false_imp_iff, Int.reduceNe, Int.reduceEq, Int.reduceLT, Int.reduceLE, Bool.not_true, Bool.not_false]
            -- at world w2: hB2 hO2 hV2 P2 k2
            have hm1 : ∃ m', m = m' + 1 := ⟨m - 1, by omega⟩
            obtain ⟨m', hmm⟩ := hm1
            have hz2 : w.heap.size < w2.heap.size := hB2.lt
            have kd : Kept (fun _ => False) w2 w2.drew := (Kept.refl _ _).drew
            have hBd := hB2.kept kd (fun h => h)
            have Pd := P2.kept kd (fun i h => h.elim)
            have kdd := k2.trans kd (fun i h1 h2 => h2.elim)
            have d2 : w2.drew.cell? ⟨w.heap.size, 2, none⟩ = some sv := hBd.cell rfl
            have hstep : rowLoop (againW d (unitP d)) m acc l1 = Cae.pb (againW d (unitP d)) (fun x => rowLoop (againW d (unitP d)) m' (acc ++ [x])) l1 := by
              rw [hmm, rowLoop]
              unfold pif
              rw [hst, if_pos rfl]
            cases hp : againW d (unitP d) l1 with
            | error e =>
              refine wpL_boom (E := PThr pb w l0 (rowW (againW d (unitP d)))) [(), (), (), (), (), (), ()] mixed (by kernel_rfl) (fun ce te we hE => ?_) ?_
              · simp -dsimp only [push_cast, Nat.reduceAdd, Nat.reduceLeDiff, Nat.reduceBEq, decide_true, ne_eq, eq_self, not_true_eq_false, not_false_eq_true, true_imp_iff, false_imp_iff, Int.reduceNe, Int.reduceEq, Int.reduceLT, Int.reduceLE, Bool.not_true, Bool.not_false]
                exact hE
              · simp -dsimp only [push_cast, Nat.reduceAdd, Nat.reduceLeDiff, Nat.reduceBEq, decide_true, ne_eq, eq_self, not_true_eq_false, not_false_eq_true, true_imp_iff, false_imp_iff, Int.reduceNe, Int.reduceEq, Int.reduceLT, Int.reduceLE, Bool.not_true, Bool.not_false, d2]
                refine ⟨fun w'' h => by rw [h, d2]; exact rfl, ?_⟩
                refine callB_of (ha n hn0 hn pb B w2.drew l1 Pd) (fun v we ⟨x, l', h1, _⟩ => by rw [hp] at h1; cases h1) ?_
                rintro ce we ⟨en, pos, he, ht, hke⟩
                refine ⟨en, pos, ?_, ht.mono (by have := kdd.size; omega), kdd.trans hke (fun i _ h => h)⟩
                have hl : rowLoop (againW d (unitP d)) 1000 [] l0 = .error (en, pos) := by
                  rw [← hm2, hstep]
                  unfold Cae.pb
                  rw [he]
                unfold rowW Cae.pb
                rw [hl]
            | ok q =>
              obtain ⟨x, l2⟩ := q
              have hl2 : l2.length < l1.length := again_less hp
              refine wpL_lastN (fun w' => Blk w' w.heap.size 90 [.int .i64 4, .pointer none, sv, .int .i64 0, .int .i64 0]) mixed (by kernel_rfl) (by simp) hB2.drew ?_
              simp -dsimp only [push_cast, Nat.reduceAdd, Nat.reduceLeDiff, Nat.reduceBEq, decide_true, ne_eq, eq_self, not_true_eq_false, not_false_eq_true, true_imp_iff, false_imp_iff, Int.reduceNe, Int.reduceEq, Int.reduceLT, Int.reduceLE, Bool.not_true, Bool.not_false, d2]
              refine ⟨fun w'' h => by rw [Blk.cell h (o := 2) rfl]; exact rfl, ?_⟩
              refine callP_of (ha n hn0 hn pb B w2.drew l1 Pd) ?_ (fun ce we ⟨en, pos, he, _⟩ => by rw [hp] at he; cases he)
              rintro u w3 ⟨x', l2', e3, V3, P3, k3⟩
              obtain ⟨rfl, rfl⟩ : x = x' ∧ l2 = l2' := by rw [hp] at e3; cases e3; exact ⟨rfl, rfl⟩
              obtain ⟨ub, rfl, hub, hubX⟩ := V3.ptr
              have B3 := hBd.kept k3 (by omega)
              have z3 := k3.size
              have hzd : w2.heap.size = w2.drew.heap.size := rfl
              have hob : ∀ g, sv.ownBlock = some g → g < w2.heap.size := fun g hg => (hO2.block g hg).2
              have hO3 := (hO2.keptX kd (fun g _ h => h)).keptX k3 (fun g hg h => by have := (hO2.block g hg).1; omega)
              have hV3 := PatsV.mono (X' := fun b => (b < w.heap.size ∨ b = w.heap.size ∨ sv.ownBlock = some b) ∨ w2.heap.size ≤ b) ((kd.weaken (Y := (· = pb)) (fun i _ h => h.elim)).trans k3 (fun i _ h => h)) (fun i h => by omega) (fun i h => h) (PatsV.top hV2)
              refine ⟨B3, ?_⟩
              simp -dsimp only [push_cast, Nat.reduceAdd, Nat.reduceLeDiff, Nat.reduceBEq, decide_true, ne_eq, eq_self, not_true_eq_false, not_false_eq_true, true_imp_iff, false_imp_iff, Int.reduceNe, Int.reduceEq, Int.reduceLT, Int.reduceLE, Bool.not_true, Bool.not_false]
              refine rowK elI_88 rfl rfl (by omega) ?_
              intro w4 hw4
              have B4 := B3.below hw4.below B3.lt
              have z4 := hw4.size
              have hO4 := hO3.new hw4
              have P4 := P3.below hw4.below
              refine ⟨B4, ?_⟩
              simp -dsimp only [push_cast, Nat.reduceAdd, Nat.reduceLeDiff, Nat.reduceBEq, decide_true, ne_eq, eq_self, not_true_eq_false, not_false_eq_true, true_imp_iff, false_imp_iff, Int.reduceNe, Int.reduceEq, Int.reduceLT, Int.reduceLE, Bool.not_true, Bool.not_false]
              refine appendK2 (base := w.heap.size + 1) [ub] (enc := encP) elI_88 hO4 (by rfl) (fun j y hy => by simpa [encP, ptrP] using hw4.cell hy) encP_one (by rw [PatsV.len hV2]; simp only [List.length_cons, List.length_nil]; omega) (by omega) ?_
              intro sv5 w5 hO5 hg5 hn5
              have kg : Kept (fun j => sv.ownBlock = some j) w4 w5 := Kept.grown hg5 (fun _ h => h)
              have hog : ∀ g, sv.ownBlock = some g → w.heap.size + 1 ≤ g := fun g hg => (hO2.block g hg).1
              have B5 := B4.kept kg (fun h => by have := hog _ h; omega)
              have P5 := P4.kept kg (fun i h => by have := hog _ h; omega)
              have z5 := kg.size
              refine ⟨B5, ?_⟩
              obtain ⟨a5, c5, rfl⟩ := hO5.slice
              simp -dsimp only [push_cast, Nat.reduceAdd, Nat.reduceLeDiff, Nat.reduceBEq, decide_true, ne_eq, eq_self, not_true_eq_false, not_false_eq_true, true_imp_iff, false_imp_iff, Int.reduceNe, Int.reduceEq, Int.reduceLT, Int.reduceLE, Bool.not_true, Bool.not_false]
              refine storeK_of B5 (by simp) rfl ?_
              intro w6 hw6
              have B6 : Blk w6 w.heap.size 90 [.int .i64 4, .pointer none, .slice a5 (vs ++ [ub]).length c5, .int .i64 0, .int .i64 0] := hw6.blk
              have P6 := P5.kept hw6.kept (fun i h => by omega)
              have z6 := hw6.size
              have hO6 := hO5.keptX hw6.kept (fun g hg h => by have := (hO5.block g hg).1; omega)
              have k6 := (((kdd.trans k3 (fun i _ h => h)).trans (Kept.new (X := (· = pb)) hw4) (fun i _ h => h)).trans kg (fun i h1 h2 => by have := hog _ h2; omega)).trans hw6.kept (fun i h1 h2 => by omega)
              have kY : Kept (fun i => i = w.heap.size ∨ sv.ownBlock = some i) w3 w6 := ((Kept.new (X := fun i => i = w.heap.size ∨ sv.ownBlock = some i) hw4).trans kg (fun i _ h => .inr h)).trans hw6.kept (fun i _ h => .inl h)
              have hX : ∀ i, (i < w.heap.size ∨ i = w.heap.size ∨ (Value.slice a5 (vs ++ [ub]).length c5).ownBlock = some i) → i < w.heap.size ∨ i = w.heap.size ∨ sv.ownBlock = some i ∨ w4.heap.size ≤ i := fun i h => by
                rcases h with h | h | h
                · exact .inl h
                · exact .inr (.inl h)
                · rcases hn5 i h with h | h
                  · exact .inr (.inr (.inl h))
                  · exact .inr (.inr (.inr h))
              have hV6 : PatsV (fun b => b < w.heap.size ∨ b = w.heap.size ∨ (Value.slice a5 (vs ++ [ub]).length c5).ownBlock = some b) w6 (vs ++ [ub]) (acc ++ [x]) := by
                refine PatsV.snoc (PatsV.mono kY (fun i h => ?_) (fun i h => ?_) hV3) (PatV.mono kY (fun i h => ?_) (fun i h => ?_) V3.top)
                · rcases h with h | h
                  · exact .inl (.inr (.inl h))
                  · exact .inl (.inr (.inr h))
                · rcases hX i h with h | h | h | h
                  · exact .inl (.inl h)
                  · exact .inl (.inr (.inl h))
                  · exact .inl (.inr (.inr h))
                  · exact .inr (by omega)
                · rcases h with h | h
                  · exact .inl (by omega)
                  · exact .inl (hob i h)
                · rcases hX i h with h | h | h | h
                  · exact .inl (by omega)
                  · exact .inl (by omega)
                  · exact .inl (hob i h)
                  · exact .inr (by omega)
              have hlen6 := P6.len
              have hlen1 := hP1.len
              have hnx : rowLoop (againW d (unitP d)) m' (acc ++ [x]) l2 = rowLoop (againW d (unitP d)) 1000 [] l0 := by rw [← hm2, hstep, pb_of hp]
              simp -dsimp only [push_cast, Nat.reduceAdd, Nat.reduceLeDiff, Nat.reduceBEq, decide_true, ne_eq, eq_self, not_true_eq_false, not_false_eq_true, true_imp_iff, false_imp_iff, Int.reduceNe, Int.reduceEq, Int.reduceLT, Int.reduceLE, Bool.not_true, Bool.not_false]
              exact ⟨⟨m', acc ++ [x], l2, _, vs ++ [ub], hnx, by omega, by rw [List.length_append, List.length_singleton]; omega, B6, hO6, hV6, P6, k6⟩, by rw [hlen6, hlen1]; exact hl2⟩
          | false =>
            have hst : startP l1 = false := by rw [hstP, hs3]
            have hfin : rowW (againW d (unitP d)) l0 = .ok (rowOf acc, l1) := by
              have hl : rowLoop (againW d (unitP d)) 1000 [] l0 = .ok (acc, l1) := by
                rw [← hm2]
                obtain ⟨m', hmm⟩ : ∃ m', m = m' + 1 := ⟨m - 1, by omega⟩
                rw [hmm, rowLoop]
                unfold pif
                rw [hst]
                rfl
              unfold rowW
              rw [pb_of hl]
              rfl
            have hV2l := PatsV.len hV2
            have hO2s := hO2.slice
            obtain ⟨va, vc, hsv⟩ := hO2s
            rw [hsv] at hB2 hO2 hV2
            have d2 : w2.cell? ⟨w.heap.size, 2, none⟩ = some (.slice va vs.length vc) := hB2.cell rfl
            have hsl := hO2.sl
            have hzs := k2.size
            simp -dsimp only [push_cast, Nat.reduceAdd, Nat.reduceLeDiff, Nat.reduceBEq, decide_true, ne_eq, eq_self, not_true_eq_false, not_false_eq_true, true_imp_iff, false_imp_iff, Int.reduceNe, Int.reduceEq, Int.reduceLT, Int.reduceLE, Bool.not_true, Bool.not_false, d2]
            refine ⟨fun h1 => ?_, fun h1 => ?_⟩
            · obtain ⟨u, hvs⟩ : ∃ u, vs = [u] := List.length_eq_one_iff.1 (by omega)
              obtain ⟨x, hac⟩ : ∃ x, acc = [x] := List.length_eq_one_iff.1 (by omega)
              rw [hvs] at hsl d2 hV2
              rw [hac] at hV2 hfin
              simp only [PatsV, and_true] at hV2
              obtain ⟨b5, o5, rfl, _, hcell⟩ := hsl.get (i := 0) (x := u) rfl
              have d5 : w2.cell? ⟨b5, o5, none⟩ = some (ptrP u) := by have := hcell 0 _ rfl; simpa using this
              simp only [List.length_cons, List.length_nil, Nat.zero_add] at d2
              simp -dsimp only [push_cast, Nat.reduceAdd, Nat.reduceLeDiff, Nat.reduceBEq, decide_true, ne_eq, eq_self, not_true_eq_false, not_false_eq_true, true_imp_iff, false_imp_iff, Int.reduceNe, Int.reduceEq, Int.reduceLT, Int.reduceLE, Bool.not_true, Bool.not_false, d2, Nat.zero_mul, Nat.add_zero, d5]
              refine ⟨by omega, x, l1, hfin, PatV.mono (Kept.refl (fun _ => False) _) (fun _ h => h.elim) (fun i h => .inl h) hV2, P2, k2⟩
            · have hne : acc.length ≠ 1 := by omega
              have hro : rowOf acc = .cat acc := by
                unfold rowOf
                split
                · rename_i x
                  exact absurd rfl hne
                · rfl
              refine ⟨.cat acc, l1, by rw [← hro]; exact hfin, ?_, P2, k2⟩
              simp only [PatV]
              exact ⟨_, _, vs, rfl, by omega, hB2, hsl.weaken (fun i h => by omega), PatsV.mono (Kept.refl (fun _ => False) _) (fun _ h => h.elim) (fun i h => .inl h) hV2⟩
  · have hst : startP l1 = true := by
      have : t1.kind = 3 := by omega
      rw [hstP, this]; rfl
    have P2 := hP1
    have hB2 := hB
    have hO2 := hO
    have hV2 := hV
    have k2 := hkw
    -- at world w': hB2 hO2 hV2 P2 k2
    have hm1 : ∃ m', m = m' + 1 := ⟨m - 1, by omega⟩
    obtain ⟨m', hmm⟩ := hm1
    have hz2 : w.heap.size < w'.heap.size := hB2.lt
    have kd : Kept (fun _ => False) w' w'.drew := (Kept.refl _ _).drew
    have hBd := hB2.kept kd (fun h => h)
    have Pd := P2.kept kd (fun i h => h.elim)
    have kdd := k2.trans kd (fun i h1 h2 => h2.elim)
    have d2 : w'.drew.cell? ⟨w.heap.size, 2, none⟩ = some sv := hBd.cell rfl
    have hstep : rowLoop (againW d (unitP d)) m acc l1 = Cae.pb (againW d (unitP d)) (fun x => rowLoop (againW d (unitP d)) m' (acc ++ [x])) l1 := by
      rw [hmm, rowLoop]
      unfold pif
      rw [hst, if_pos rfl]
    cases hp : againW d (unitP d) l1 with
    | error e =>
      refine wpL_boom (E := PThr pb w l0 (rowW (againW d (unitP d)))) [(), (), (), (), (), (), ()] mixed (by kernel_rfl) (fun ce te we hE => ?_) ?_
      · simp -dsimp only [push_cast, Nat.reduceAdd, Nat.reduceLeDiff, Nat.reduceBEq, decide_true, ne_eq, eq_self, not_true_eq_false, not_false_eq_true, true_imp_iff, false_imp_iff, Int.reduceNe, Int.reduceEq, Int.reduceLT, Int.reduceLE, Bool.not_true, Bool.not_false]
        exact hE
      · simp -dsimp only [push_cast, Nat.reduceAdd, Nat.reduceLeDiff, Nat.reduceBEq, decide_true, ne_eq, eq_self, not_true_eq_false, not_false_eq_true, true_imp_iff, false_imp_iff, Int.reduceNe, Int.reduceEq, Int.reduceLT, Int.reduceLE, Bool.not_true, Bool.not_false, d2]
        refine ⟨fun w'' h => by rw [h, d2]; exact rfl, ?_⟩
        refine callB_of (ha n hn0 hn pb B w'.drew l1 Pd) (fun v we ⟨x, l', h1, _⟩ => by rw [hp] at h1; cases h1) ?_
        rintro ce we ⟨en, pos, he, ht, hke⟩
        refine ⟨en, pos, ?_, ht.mono (by have := kdd.size; omega), kdd.trans hke (fun i _ h => h)⟩
        have hl : rowLoop (againW d (unitP d)) 1000 [] l0 = .error (en, pos) := by
          rw [← hm2, hstep]
          unfold Cae.pb
          rw [he]
        unfold rowW Cae.pb
        rw [hl]
    | ok q =>
      obtain ⟨x, l2⟩ := q
      have hl2 : l2.length < l1.length := again_less hp
      refine wpL_lastN (fun w' => Blk w' w.heap.size 90 [.int .i64 4, .pointer none, sv, .int .i64 0, .int .i64 0]) mixed (by kernel_rfl) (by simp) hB2.drew ?_
      simp -dsimp only [push_cast, Nat.reduceAdd, Nat.reduceLeDiff, Nat.reduceBEq, decide_true, ne_eq, eq_self, not_true_eq_false, not_false_eq_true, true_imp_iff, false_imp_iff, Int.reduceNe, Int.reduceEq, Int.reduceLT, Int.reduceLE, Bool.not_true, Bool.not_false, d2]
      refine ⟨fun w'' h => by rw [Blk.cell h (o := 2) rfl]; exact rfl, ?_⟩
      refine callP_of (ha n hn0 hn pb B w'.drew l1 Pd) ?_ (fun ce we ⟨en, pos, he, _⟩ => by rw [hp] at he; cases he)
      rintro u w3 ⟨x', l2', e3, V3, P3, k3⟩
      obtain ⟨rfl, rfl⟩ : x = x' ∧ l2 = l2' := by rw [hp] at e3; cases e3; exact ⟨rfl, rfl⟩
      obtain ⟨ub, rfl, hub, hubX⟩ := V3.ptr
      have B3 := hBd.kept k3 (by omega)
      have z3 := k3.size
      have hzd : w'.heap.size = w'.drew.heap.size := rfl
      have hob : ∀ g, sv.ownBlock = some g → g < w'.heap.size := fun g hg => (hO2.block g hg).2
      have hO3 := (hO2.keptX kd (fun g _ h => h)).keptX k3 (fun g hg h => by have := (hO2.block g hg).1; omega)
      have hV3 := PatsV.mono (X' := fun b => (b < w.heap.size ∨ b = w.heap.size ∨ sv.ownBlock = some b) ∨ w'.heap.size ≤ b) ((kd.weaken (Y := (· = pb)) (fun i _ h => h.elim)).trans k3 (fun i _ h => h)) (fun i h => by omega) (fun i h => h) (PatsV.top hV2)
      refine ⟨B3, ?_⟩
      simp -dsimp only [push_cast, Nat.reduceAdd, Nat.reduceLeDiff, Nat.reduceBEq, decide_true, ne_eq, eq_self, not_true_eq_false, not_false_eq_true, true_imp_iff, false_imp_iff, Int.reduceNe, Int.reduceEq, Int.reduceLT, Int.reduceLE, Bool.not_true, Bool.not_false]
      refine rowK elI_88 rfl rfl (by omega) ?_
      intro w4 hw4
      have B4 := B3.below hw4.below B3.lt
      have z4 := hw4.size
      have hO4 := hO3.new hw4
      have P4 := P3.below hw4.below
      refine ⟨B4, ?_⟩
      simp -dsimp only [push_cast, Nat.reduceAdd, Nat.reduceLeDiff, Nat.reduceBEq, decide_true, ne_eq, eq_self, not_true_eq_false, not_false_eq_true, true_imp_iff, false_imp_iff, Int.reduceNe, Int.reduceEq, Int.reduceLT, Int.reduceLE, Bool.not_true, Bool.not_false]
      refine appendK2 (base := w.heap.size + 1) [ub] (enc := encP) elI_88 hO4 (by rfl) (fun j y hy => by simpa [encP, ptrP] using hw4.cell hy) encP_one (by rw [PatsV.len hV2]; simp only [List.length_cons, List.length_nil]; omega) (by omega) ?_
      intro sv5 w5 hO5 hg5 hn5
      have kg : Kept (fun j => sv.ownBlock = some j) w4 w5 := Kept.grown hg5 (fun _ h => h)
      have hog : ∀ g, sv.ownBlock = some g → w.heap.size + 1 ≤ g := fun g hg => (hO2.block g hg).1
      have B5 := B4.kept kg (fun h => by have := hog _ h; omega)
      have P5 := P4.kept kg (fun i h => by have := hog _ h; omega)
      have z5 := kg.size
      refine ⟨B5, ?_⟩
      obtain ⟨a5, c5, rfl⟩ := hO5.slice
      simp -dsimp only [push_cast, Nat.reduceAdd, Nat.reduceLeDiff, Nat.reduceBEq, decide_true, ne_eq, eq_self, not_true_eq_false, not_false_eq_true, true_imp_iff, false_imp_iff, Int.reduceNe, Int.reduceEq, Int.reduceLT, Int.reduceLE, Bool.not_true, Bool.not_false]
      refine storeK_of B5 (by simp) rfl ?_
      intro w6 hw6
      have B6 : Blk w6 w.heap.size 90 [.int .i64 4, .pointer none, .slice a5 (vs ++ [ub]).length c5, .int .i64 0, .int .i64 0] := hw6.blk
      have P6 := P5.kept hw6.kept (fun i h => by omega)
      have z6 := hw6.size
      have hO6 := hO5.keptX hw6.kept (fun g hg h => by have := (hO5.block g hg).1; omega)
      have k6 := (((kdd.trans k3 (fun i _ h => h)).trans (Kept.new (X := (· = pb)) hw4) (fun i _ h => h)).trans kg (fun i h1 h2 => by have := hog _ h2; omega)).trans hw6.kept (fun i h1 h2 => by omega)
      have kY : Kept (fun i => i = w.heap.size ∨ sv.ownBlock = some i) w3 w6 := ((Kept.new (X := fun i => i = w.heap.size ∨ sv.ownBlock = some i) hw4).trans kg (fun i _ h => .inr h)).trans hw6.kept (fun i _ h => .inl h)
      have hX : ∀ i, (i < w.heap.size ∨ i = w.heap.size ∨ (Value.slice a5 (vs ++ [ub]).length c5).ownBlock = some i) → i < w.heap.size ∨ i = w.heap.size ∨ sv.ownBlock = some i ∨ w4.heap.size ≤ i := fun i h => by
        rcases h with h | h | h
        · exact .inl h
        · exact .inr (.inl h)
        · rcases hn5 i h with h | h
          · exact .inr (.inr (.inl h))
          · exact .inr (.inr (.inr h))
      have hV6 : PatsV (fun b => b < w.heap.size ∨ b = w.heap.size ∨ (Value.slice a5 (vs ++ [ub]).length c5).ownBlock = some b) w6 (vs ++ [ub]) (acc ++ [x]) := by
        refine PatsV.snoc (PatsV.mono kY (fun i h => ?_) (fun i h => ?_) hV3) (PatV.mono kY (fun i h => ?_) (fun i h => ?_) V3.top)
        · rcases h with h | h
          · exact .inl (.inr (.inl h))
          · exact .inl (.inr (.inr h))
        · rcases hX i h with h | h | h | h
          · exact .inl (.inl h)
          · exact .inl (.inr (.inl h))
          · exact .inl (.inr (.inr h))
          · exact .inr (by omega)
        · rcases h with h | h
          · exact .inl (by omega)
          · exact .inl (hob i h)
        · rcases hX i h with h | h | h | h
          · exact .inl (by omega)
          · exact .inl (by omega)
          · exact .inl (hob i h)
          · exact .inr (by omega)
      have hlen6 := P6.len
      have hlen1 := hP1.len
      have hnx : rowLoop (againW d (unitP d)) m' (acc ++ [x]) l2 = rowLoop (againW d (unitP d)) 1000 [] l0 := by rw [← hm2, hstep, pb_of hp]
      simp -dsimp only [push_cast, Nat.reduceAdd, Nat.reduceLeDiff, Nat.reduceBEq, decide_true, ne_eq, eq_self, not_true_eq_false, not_false_eq_true, true_imp_iff, false_imp_iff, Int.reduceNe, Int.reduceEq, Int.reduceLT, Int.reduceLE, Bool.not_true, Bool.not_false]
      exact ⟨⟨m', acc ++ [x], l2, _, vs ++ [ub], hnx, by omega, by rw [List.length_append, List.length_singleton]; omega, B6, hO6, hV6, P6, k6⟩, by rw [hlen6, hlen1]; exact hl2⟩
end Go.Proofs.YtieaebjkbhaoaaaGreatDoor
