/- Texts of this claim, merged: Rp7, Rp8, Rr7, Rr8, Rr9. -/
import Derived.Test.YtphebgkbkdjjoaaGreatDoorM8
import Derived.Test.YtphebgkbkdjjoaaGreatDoorM6
import Derived.Test.YtphebgkbkdjjoaaGreatDoorM7
section
namespace Go.Proofs.YtphebgkbkdjjoaaGreatDoor
open Go.Vc Go.Proofs Go.RowKit Cae
set_option maxRecDepth 100000
set_option linter.unusedSimpArgs false
set_option linter.unusedVariables false
attribute [local irreducible] wpL callK valK unitK runK Fun Sl Vc.Own vc vcOps opK pureK
set_option maxHeartbeats 4000000

/-- A part is of a token at least. -/
def Sh {α : Type} (p : Pa α) : Prop := ∀ l x l', p l = .ok (x, l') → l'.length < l.length
def Le {α : Type} (p : Pa α) : Prop := ∀ l x l', p l = .ok (x, l') → l'.length ≤ l.length
theorem Lo.le {α : Type} {R : α → α → Prop} {p : Pa α} (h : Lo R p p) : Le p := fun l x l' e => by
  obtain ⟨pre, _, e, _⟩ := h l x l' e
  rw [e, List.length_append]; omega
theorem LoS.sh {α : Type} {R : α → α → Prop} {p : Pa α} (h : LoS R p p) : Sh p := fun l x l' e => by
  obtain ⟨pre, hne, _, e, _⟩ := h l x l' e
  have := List.length_pos_iff.2 hne
  rw [e, List.length_append]; omega
theorem Sh.le {α : Type} {p : Pa α} (h : Sh p) : Le p := fun l x l' e => Nat.le_of_lt (h l x l' e)
theorem Sh.pb {α β : Type} {p : Pa α} {q : α → Pa β} (h : Sh p) (k : ∀ x, Le (q x)) : Sh (Cae.pb p q) := fun l y l' e => by
  obtain ⟨x, l1, e1, e2⟩ := pb_ok e
  exact Nat.lt_of_le_of_lt (k x _ _ _ e2) (h _ _ _ e1)
theorem Sh.pbr {α β : Type} {p : Pa α} {q : α → Pa β} (h : Le p) (k : ∀ x, Sh (q x)) : Sh (Cae.pb p q) := fun l y l' e => by
  obtain ⟨x, l1, e1, e2⟩ := pb_ok e
  exact Nat.lt_of_lt_of_le (k x _ _ _ e2) (h _ _ _ e1)
theorem Le.pb {α β : Type} {p : Pa α} {q : α → Pa β} (h : Le p) (k : ∀ x, Le (q x)) : Le (Cae.pb p q) := fun l y l' e => by
  obtain ⟨x, l1, e1, e2⟩ := pb_ok e
  exact Nat.le_trans (k x _ _ _ e2) (h _ _ _ e1)
theorem Le.pr {α : Type} {x : α} : Le (pr x) := fun l y l' e => by cases e; exact Nat.le_refl _
theorem Sh.pif {α : Type} {c : List Cae.Tok → Bool} {p q : Pa α} (h : Sh p) (k : Sh q) : Sh (Cae.pif c p q) := fun l x l' e => by
  unfold Cae.pif at e
  split at e
  · exact h _ _ _ e
  · exact k _ _ _ e
theorem Sh.fail {α : Type} {n : Nat} : Sh (pfail n : Pa α) := fun l x l' e => by cases e
theorem le_peek : Le peek := Lo.le Lo.peek
theorem sh_pop : Sh popP := LoS.sh lo_pop
theorem sh_one : ∀ d, Sh (oneP d)
  | 0 => Sh.fail
  | d + 1 => Sh.pif (LoS.sh lo_lit) (Sh.pif (Sh.pbr le_peek fun _ => Sh.pb sh_pop fun _ => Le.pb (Lo.le (lo_one d)) fun _ => Le.pr)
      (Sh.pif (Sh.pb sh_pop fun _ => Le.pb (Lo.le (lo_kindW (lo_one d))) fun _ => Le.pb (LoS.sh (lo_must _)).le fun _ => Le.pr)
        (Sh.pbr le_peek fun _ => Sh.pb (LoS.sh lo_name) fun _ => Le.pr)))
theorem sh_unit : ∀ d, Sh (unitP d)
  | 0 => Sh.fail
  | d + 1 => Sh.pif (Sh.pb sh_pop fun _ => Le.pr) (Sh.pif (Sh.pb sh_pop fun _ => Le.pr) (Sh.pif (Sh.pb sh_pop fun _ => Le.pb (Lo.le (lo_patW (lo_unit d))) fun _ => Le.pb (LoS.sh (lo_must _)).le fun _ => Le.pr)
      (Sh.pif (Sh.pb (sh_one (d + 1)) fun _ => Le.pr) Sh.fail)))
theorem unit_less {d : Nat} {l l' : List Cae.Tok} {x : PatP} (h : unitP d l = .ok (x, l')) : l'.length < l.length := sh_unit d _ _ _ h
theorem again_less {d : Nat} {l l' : List Cae.Tok} {x : PatP} (h : againW d (unitP d) l = .ok (x, l')) : l'.length < l.length := by
  obtain ⟨y, l1, h1, h2⟩ := pb_ok h
  have a := unit_less h1
  obtain ⟨pre, _, e, _⟩ := lo_againLoop d _ _ _ _ (show PE y y from fun _ => rfl) _ _ _ h2
  have : l1.length = pre.length + l'.length := by rw [e, List.length_append]
  omega
theorem row_of (d : Nat) (ha : AgainC d) : RowC d := by
  intro n hn0 hn pb B w l0 h0
  have hle := h0.le
  have hlt := h0.lt
  refine fun2_of_vc Tryz.func72 rfl (by kernel_rfl) [.tmp 4] rfl ?_
  push_cast -dsimp (maxSteps := 4000000) [Tryz.ntmps72]
  push_cast -dsimp
  refine boxK_of ?_
  intro w1 hw1
  have B1 : Blk w1 w.heap.size 83 [.int .i64 4, .pointer none, .slice none 0 0, .int .i64 0, .int .i64 0] := hw1.blk
  have P1 := h0.below hw1.below
  have z1 := hw1.size
  have k1 : Kept (· = pb) w w1 := Kept.new hw1
  push_cast -dsimp
  refine wpL_loop [8, 9, 10, 11, 12, 13, 14, 15, 16, 17, 18, 19, 20, 21, 22, 23, 24, 25, 26, 27, 28, 29, 30, 31, 32, 33, 34, 35, 36, 37, 38, 39, 40, 41, 42, 43] (fun z w' => ∃ (m : Nat) (acc : List PatP) (l1 : List Cae.Tok) (sv : Value) (vs : List Nat), rowLoop (againW d (unitP d)) m acc l1 = rowLoop (againW d (unitP d)) 1000 [] l0 ∧ l1.length < m ∧ acc.length + m ≤ 1000 ∧
      Blk w' w.heap.size 83 [.int .i64 4, .pointer none, sv, .int .i64 0, .int .i64 0] ∧ Go.Vc.Own (w.heap.size + 1) 42 1 encP w' sv vs ∧ PatsV (fun b => b < w.heap.size ∨ b = w.heap.size ∨ sv.ownBlock = some b) w' vs acc ∧ PS pb B w' l1 ∧ Kept (· = pb) w w') (fun z w' => lenAt w' pb) ?_ ?_
  · have hlt : l0.length < 1000 := by have := h0.tl.len; omega
    exact ⟨1000, [], l0, _, [], rfl, hlt, by simp, B1, Vc.Own.nil (enc := encP) _ _ (fun _ => rfl) _, by simp only [PatsV], P1, k1⟩
  rintro z w' ⟨m, acc, l1, sv, vs, hm2, hm, hacc, hB, hO, hV, hP1, hkw⟩
  obtain ⟨t1, r1, el1⟩ := hP1.tl.cons
  have hP1' := hP1
  rw [el1] at hP1'
  obtain ⟨b, o, c, hBp, hc, hne, c0, c1, c2, c3⟩ := hP1'.hd
  have cb : w'.cell? ⟨pb, 0, none⟩ = some (.slice (some ⟨b, o, none⟩) (r1.length + 1) c) := hBp.cell rfl
  have hzw := hkw.size
  have hstP : startP l1 = (t1.kind == 3 || namedP l1 || seeP [46] l1 || seeP [36] l1 || seeP [40] l1) := by unfold startP isKind; rw [el1]; rfl
  push_cast -dsimp [cb, c0]
  refine ⟨by omega, fun h3 => ?_, fun h3 => ?_⟩
  · have hk3 : (t1.kind == 3) = false := by
      have : t1.kind ≠ 3 := fun e => h3 (by omega)
      simpa using this
    rw [hk3, Bool.false_or] at hstP
    refine callK_of (named_c hP1) ?_
    rintro _ w2 ⟨rfl, b2⟩
    have P2 := hP1.below b2
    have hB2 := hB.below b2 hB.lt
    have hO2 := hO.below b2
    have hV2 := PatsV.mono (X' := fun b => b < w.heap.size ∨ b = w.heap.size ∨ sv.ownBlock = some b) (Kept.of_below b2 (X := fun _ => False) (fun i h1 h2 => by omega)) (fun _ h => h.elim) (fun _ h => h) hV
    have k2 := hkw.trans (Kept.of_below b2 (X := (· = pb)) (fun i h1 h2 => by omega)) (fun i _ h => h)
    cases hnm : namedP l1 with
    | true =>
      have hst : startP l1 = true := by rw [hstP, hnm]; rfl
      push_cast -dsimp
      -- at world w2: hB2 hO2 hV2 P2 k2
      have hm1 : ∃ m', m = m' + 1 := ⟨m - 1, by omega⟩
      obtain ⟨m', hmm⟩ := hm1
      have hz2 : w.heap.size < w2.heap.size := hB2.lt
      have kd : Kept (fun _ => False) w2 w2.drew := (Kept.refl _ _).drew
      have hBd := hB2.kept kd (fun h => h)
      have Pd := P2.kept kd (fun i h => h.elim)
      have kdd := k2.trans kd (fun i h1 h2 => h2.elim)
      have d2 : w2.drew.cell? ⟨w.heap.size, 2, none⟩ = some sv := hBd.cell rfl
      have hstep : rowLoop (againW d (unitP d)) m acc l1 = Cae.pb (againW d (unitP d)) (fun x => rowLoop (againW d (unitP d)) m' (acc ++ [x])) l1 := by
        rw [hmm, rowLoop]
        unfold pif
        rw [hst, if_pos rfl]
      cases hp : againW d (unitP d) l1 with
      | error e =>
        refine wpL_boom (E := PThr pb w l0 (rowW (againW d (unitP d)))) [(), (), (), (), (), (), ()] mixed (by kernel_rfl) (fun ce te we hE => ?_) ?_
        · push_cast -dsimp
          exact hE
        · push_cast -dsimp [d2]
          refine ⟨fun w'' h => by rw [h, d2]; exact rfl, ?_⟩
          refine callB_of (ha n hn0 hn pb B w2.drew l1 Pd) (fun v we ⟨x, l', h1, _⟩ => by rw [hp] at h1; cases h1) ?_
          rintro ce we ⟨en, pos, he, ht, hke⟩
          refine ⟨en, pos, ?_, ht.mono (by have := kdd.size; omega), kdd.trans hke (fun i _ h => h)⟩
          have hl : rowLoop (againW d (unitP d)) 1000 [] l0 = .error (en, pos) := by
            rw [← hm2, hstep]
            unfold Cae.pb
            rw [he]
          unfold rowW Cae.pb
          rw [hl]
      | ok q =>
        obtain ⟨x, l2⟩ := q
        have hl2 : l2.length < l1.length := again_less hp
        refine wpL_last (fun w' => Blk w' w.heap.size 83 [.int .i64 4, .pointer none, sv, .int .i64 0, .int .i64 0]) mixed (by kernel_rfl) (by simp) hB2.drew ?_
        push_cast -dsimp [d2]
        refine ⟨fun w'' h => by rw [Blk.cell h (o := 2) rfl]; exact rfl, ?_⟩
        refine callP_of (ha n hn0 hn pb B w2.drew l1 Pd) ?_ (fun ce we ⟨en, pos, he, _⟩ => by rw [hp] at he; cases he)
        rintro u w3 ⟨x', l2', e3, V3, P3, k3⟩
        obtain ⟨rfl, rfl⟩ : x = x' ∧ l2 = l2' := by rw [hp] at e3; cases e3; exact ⟨rfl, rfl⟩
        obtain ⟨ub, rfl, hub, hubX⟩ := V3.ptr
        have B3 := hBd.kept k3 (by omega)
        have z3 := k3.size
        have hzd : w2.heap.size = w2.drew.heap.size := rfl
        have hob : ∀ g, sv.ownBlock = some g → g < w2.heap.size := fun g hg => (hO2.block g hg).2
        have hO3 := (hO2.keptX kd (fun g _ h => h)).keptX k3 (fun g hg h => by have := (hO2.block g hg).1; omega)
        have hV3 := PatsV.mono (X' := fun b => (b < w.heap.size ∨ b = w.heap.size ∨ sv.ownBlock = some b) ∨ w2.heap.size ≤ b) ((kd.weaken (Y := (· = pb)) (fun i _ h => h.elim)).trans k3 (fun i _ h => h)) (fun i h => by omega) (fun i h => h) (PatsV.top hV2)
        refine ⟨B3, ?_⟩
        push_cast -dsimp
        refine rowK elI_81 rfl rfl (by omega) ?_
        intro w4 hw4
        have B4 := B3.below hw4.below B3.lt
        have z4 := hw4.size
        have hO4 := hO3.new hw4
        have P4 := P3.below hw4.below
        refine ⟨B4, ?_⟩
        push_cast -dsimp
        refine appendK2 (base := w.heap.size + 1) [ub] (enc := encP) elI_81 hO4 (by rfl) (fun j y hy => by simpa [encP, ptrP] using hw4.cell hy) encP_one (by rw [PatsV.len hV2]; simp only [List.length_cons, List.length_nil]; omega) (by omega) ?_
        intro sv5 w5 hO5 hg5 hn5
        have kg : Kept (fun j => sv.ownBlock = some j) w4 w5 := Kept.grown hg5 (fun _ h => h)
        have hog : ∀ g, sv.ownBlock = some g → w.heap.size + 1 ≤ g := fun g hg => (hO2.block g hg).1
        have B5 := B4.kept kg (fun h => by have := hog _ h; omega)
        have P5 := P4.kept kg (fun i h => by have := hog _ h; omega)
        have z5 := kg.size
        refine ⟨B5, ?_⟩
        obtain ⟨a5, c5, rfl⟩ := hO5.slice
        push_cast -dsimp
        refine storeK_of B5 (by simp) rfl ?_
        intro w6 hw6
        have B6 : Blk w6 w.heap.size 83 [.int .i64 4, .pointer none, .slice a5 (vs ++ [ub]).length c5, .int .i64 0, .int .i64 0] := hw6.blk
        have P6 := P5.kept hw6.kept (fun i h => by omega)
        have z6 := hw6.size
        have hO6 := hO5.keptX hw6.kept (fun g hg h => by have := (hO5.block g hg).1; omega)
        have k6 := (((kdd.trans k3 (fun i _ h => h)).trans (Kept.new (X := (· = pb)) hw4) (fun i _ h => h)).trans kg (fun i h1 h2 => by have := hog _ h2; omega)).trans hw6.kept (fun i h1 h2 => by omega)
        have kY : Kept (fun i => i = w.heap.size ∨ sv.ownBlock = some i) w3 w6 := ((Kept.new (X := fun i => i = w.heap.size ∨ sv.ownBlock = some i) hw4).trans kg (fun i _ h => .inr h)).trans hw6.kept (fun i _ h => .inl h)
        have hX : ∀ i, (i < w.heap.size ∨ i = w.heap.size ∨ (Value.slice a5 (vs ++ [ub]).length c5).ownBlock = some i) → i < w.heap.size ∨ i = w.heap.size ∨ sv.ownBlock = some i ∨ w4.heap.size ≤ i := fun i h => by
          rcases h with h | h | h
          · exact .inl h
          · exact .inr (.inl h)
          · rcases hn5 i h with h | h
            · exact .inr (.inr (.inl h))
            · exact .inr (.inr (.inr h))
        have hV6 : PatsV (fun b => b < w.heap.size ∨ b = w.heap.size ∨ (Value.slice a5 (vs ++ [ub]).length c5).ownBlock = some b) w6 (vs ++ [ub]) (acc ++ [x]) := by
          refine PatsV.snoc (PatsV.mono kY (fun i h => ?_) (fun i h => ?_) hV3) (PatV.mono kY (fun i h => ?_) (fun i h => ?_) V3.top)
          · rcases h with h | h
            · exact .inl (.inr (.inl h))
            · exact .inl (.inr (.inr h))
          · rcases hX i h with h | h | h | h
            · exact .inl (.inl h)
            · exact .inl (.inr (.inl h))
            · exact .inl (.inr (.inr h))
            · exact .inr (by omega)
          · rcases h with h | h
            · exact .inl (by omega)
            · exact .inl (hob i h)
          · rcases hX i h with h | h | h | h
            · exact .inl (by omega)
            · exact .inl (by omega)
            · exact .inl (hob i h)
            · exact .inr (by omega)
        have hlen6 := P6.len
        have hlen1 := hP1.len
        have hnx : rowLoop (againW d (unitP d)) m' (acc ++ [x]) l2 = rowLoop (againW d (unitP d)) 1000 [] l0 := by rw [← hm2, hstep, pb_of hp]
        push_cast -dsimp
        exact ⟨⟨m', acc ++ [x], l2, _, vs ++ [ub], hnx, by omega, by rw [List.length_append, List.length_singleton]; omega, B6, hO6, hV6, P6, k6⟩, by rw [hlen6, hlen1]; exact hl2⟩
    | false =>
      rw [hnm, Bool.false_or] at hstP
      push_cast -dsimp
      refine callK_of (see_c [46] P2) ?_
      rintro _ w3 ⟨rfl, hw3⟩
      obtain rfl : w2 = w3 := hw3.symm
      cases hs1 : seeP [46] l1 with
      | true =>
        have hst : startP l1 = true := by rw [hstP, hs1]; rfl
        push_cast -dsimp
        -- at world w2: hB2 hO2 hV2 P2 k2
        have hm1 : ∃ m', m = m' + 1 := ⟨m - 1, by omega⟩
        obtain ⟨m', hmm⟩ := hm1
        have hz2 : w.heap.size < w2.heap.size := hB2.lt
        have kd : Kept (fun _ => False) w2 w2.drew := (Kept.refl _ _).drew
        have hBd := hB2.kept kd (fun h => h)
        have Pd := P2.kept kd (fun i h => h.elim)
        have kdd := k2.trans kd (fun i h1 h2 => h2.elim)
        have d2 : w2.drew.cell? ⟨w.heap.size, 2, none⟩ = some sv := hBd.cell rfl
        have hstep : rowLoop (againW d (unitP d)) m acc l1 = Cae.pb (againW d (unitP d)) (fun x => rowLoop (againW d (unitP d)) m' (acc ++ [x])) l1 := by
          rw [hmm, rowLoop]
          unfold pif
          rw [hst, if_pos rfl]
        cases hp : againW d (unitP d) l1 with
        | error e =>
          refine wpL_boom (E := PThr pb w l0 (rowW (againW d (unitP d)))) [(), (), (), (), (), (), ()] mixed (by kernel_rfl) (fun ce te we hE => ?_) ?_
          · push_cast -dsimp
            exact hE
          · push_cast -dsimp [d2]
            refine ⟨fun w'' h => by rw [h, d2]; exact rfl, ?_⟩
            refine callB_of (ha n hn0 hn pb B w2.drew l1 Pd) (fun v we ⟨x, l', h1, _⟩ => by rw [hp] at h1; cases h1) ?_
            rintro ce we ⟨en, pos, he, ht, hke⟩
            refine ⟨en, pos, ?_, ht.mono (by have := kdd.size; omega), kdd.trans hke (fun i _ h => h)⟩
            have hl : rowLoop (againW d (unitP d)) 1000 [] l0 = .error (en, pos) := by
              rw [← hm2, hstep]
              unfold Cae.pb
              rw [he]
            unfold rowW Cae.pb
            rw [hl]
        | ok q =>
          obtain ⟨x, l2⟩ := q
          have hl2 : l2.length < l1.length := again_less hp
          refine wpL_last (fun w' => Blk w' w.heap.size 83 [.int .i64 4, .pointer none, sv, .int .i64 0, .int .i64 0]) mixed (by kernel_rfl) (by simp) hB2.drew ?_
          push_cast -dsimp [d2]
          refine ⟨fun w'' h => by rw [Blk.cell h (o := 2) rfl]; exact rfl, ?_⟩
          refine callP_of (ha n hn0 hn pb B w2.drew l1 Pd) ?_ (fun ce we ⟨en, pos, he, _⟩ => by rw [hp] at he; cases he)
          rintro u w3 ⟨x', l2', e3, V3, P3, k3⟩
          obtain ⟨rfl, rfl⟩ : x = x' ∧ l2 = l2' := by rw [hp] at e3; cases e3; exact ⟨rfl, rfl⟩
          obtain ⟨ub, rfl, hub, hubX⟩ := V3.ptr
          have B3 := hBd.kept k3 (by omega)
          have z3 := k3.size
          have hzd : w2.heap.size = w2.drew.heap.size := rfl
          have hob : ∀ g, sv.ownBlock = some g → g < w2.heap.size := fun g hg => (hO2.block g hg).2
          have hO3 := (hO2.keptX kd (fun g _ h => h)).keptX k3 (fun g hg h => by have := (hO2.block g hg).1; omega)
          have hV3 := PatsV.mono (X' := fun b => (b < w.heap.size ∨ b = w.heap.size ∨ sv.ownBlock = some b) ∨ w2.heap.size ≤ b) ((kd.weaken (Y := (· = pb)) (fun i _ h => h.elim)).trans k3 (fun i _ h => h)) (fun i h => by omega) (fun i h => h) (PatsV.top hV2)
          refine ⟨B3, ?_⟩
          push_cast -dsimp
          refine rowK elI_81 rfl rfl (by omega) ?_
          intro w4 hw4
          have B4 := B3.below hw4.below B3.lt
          have z4 := hw4.size
          have hO4 := hO3.new hw4
          have P4 := P3.below hw4.below
          refine ⟨B4, ?_⟩
          push_cast -dsimp
          refine appendK2 (base := w.heap.size + 1) [ub] (enc := encP) elI_81 hO4 (by rfl) (fun j y hy => by simpa [encP, ptrP] using hw4.cell hy) encP_one (by rw [PatsV.len hV2]; simp only [List.length_cons, List.length_nil]; omega) (by omega) ?_
          intro sv5 w5 hO5 hg5 hn5
          have kg : Kept (fun j => sv.ownBlock = some j) w4 w5 := Kept.grown hg5 (fun _ h => h)
          have hog : ∀ g, sv.ownBlock = some g → w.heap.size + 1 ≤ g := fun g hg => (hO2.block g hg).1
          have B5 := B4.kept kg (fun h => by have := hog _ h; omega)
          have P5 := P4.kept kg (fun i h => by have := hog _ h; omega)
          have z5 := kg.size
          refine ⟨B5, ?_⟩
          obtain ⟨a5, c5, rfl⟩ := hO5.slice
          push_cast -dsimp
          refine storeK_of B5 (by simp) rfl ?_
          intro w6 hw6
          have B6 : Blk w6 w.heap.size 83 [.int .i64 4, .pointer none, .slice a5 (vs ++ [ub]).length c5, .int .i64 0, .int .i64 0] := hw6.blk
          have P6 := P5.kept hw6.kept (fun i h => by omega)
          have z6 := hw6.size
          have hO6 := hO5.keptX hw6.kept (fun g hg h => by have := (hO5.block g hg).1; omega)
          have k6 := (((kdd.trans k3 (fun i _ h => h)).trans (Kept.new (X := (· = pb)) hw4) (fun i _ h => h)).trans kg (fun i h1 h2 => by have := hog _ h2; omega)).trans hw6.kept (fun i h1 h2 => by omega)
          have kY : Kept (fun i => i = w.heap.size ∨ sv.ownBlock = some i) w3 w6 := ((Kept.new (X := fun i => i = w.heap.size ∨ sv.ownBlock = some i) hw4).trans kg (fun i _ h => .inr h)).trans hw6.kept (fun i _ h => .inl h)
          have hX : ∀ i, (i < w.heap.size ∨ i = w.heap.size ∨ (Value.slice a5 (vs ++ [ub]).length c5).ownBlock = some i) → i < w.heap.size ∨ i = w.heap.size ∨ sv.ownBlock = some i ∨ w4.heap.size ≤ i := fun i h => by
            rcases h with h | h | h
            · exact .inl h
            · exact .inr (.inl h)
            · rcases hn5 i h with h | h
              · exact .inr (.inr (.inl h))
              · exact .inr (.inr (.inr h))
          have hV6 : PatsV (fun b => b < w.heap.size ∨ b = w.heap.size ∨ (Value.slice a5 (vs ++ [ub]).length c5).ownBlock = some b) w6 (vs ++ [ub]) (acc ++ [x]) := by
            refine PatsV.snoc (PatsV.mono kY (fun i h => ?_) (fun i h => ?_) hV3) (PatV.mono kY (fun i h => ?_) (fun i h => ?_) V3.top)
            · rcases h with h | h
              · exact .inl (.inr (.inl h))
              · exact .inl (.inr (.inr h))
            · rcases hX i h with h | h | h | h
              · exact .inl (.inl h)
              · exact .inl (.inr (.inl h))
              · exact .inl (.inr (.inr h))
              · exact .inr (by omega)
            · rcases h with h | h
              · exact .inl (by omega)
              · exact .inl (hob i h)
            · rcases hX i h with h | h | h | h
              · exact .inl (by omega)
              · exact .inl (by omega)
              · exact .inl (hob i h)
              · exact .inr (by omega)
          have hlen6 := P6.len
          have hlen1 := hP1.len
          have hnx : rowLoop (againW d (unitP d)) m' (acc ++ [x]) l2 = rowLoop (againW d (unitP d)) 1000 [] l0 := by rw [← hm2, hstep, pb_of hp]
          push_cast -dsimp
          exact ⟨⟨m', acc ++ [x], l2, _, vs ++ [ub], hnx, by omega, by rw [List.length_append, List.length_singleton]; omega, B6, hO6, hV6, P6, k6⟩, by rw [hlen6, hlen1]; exact hl2⟩
      | false =>
        rw [hs1, Bool.false_or] at hstP
        push_cast -dsimp
        refine callK_of (see_c [36] P2) ?_
        rintro _ w3 ⟨rfl, hw3⟩
        obtain rfl : w2 = w3 := hw3.symm
        cases hs2 : seeP [36] l1 with
        | true =>
          have hst : startP l1 = true := by rw [hstP, hs2]; rfl
          push_cast -dsimp
          -- at world w2: hB2 hO2 hV2 P2 k2
          have hm1 : ∃ m', m = m' + 1 := ⟨m - 1, by omega⟩
          obtain ⟨m', hmm⟩ := hm1
          have hz2 : w.heap.size < w2.heap.size := hB2.lt
          have kd : Kept (fun _ => False) w2 w2.drew := (Kept.refl _ _).drew
          have hBd := hB2.kept kd (fun h => h)
          have Pd := P2.kept kd (fun i h => h.elim)
          have kdd := k2.trans kd (fun i h1 h2 => h2.elim)
          have d2 : w2.drew.cell? ⟨w.heap.size, 2, none⟩ = some sv := hBd.cell rfl
          have hstep : rowLoop (againW d (unitP d)) m acc l1 = Cae.pb (againW d (unitP d)) (fun x => rowLoop (againW d (unitP d)) m' (acc ++ [x])) l1 := by
            rw [hmm, rowLoop]
            unfold pif
            rw [hst, if_pos rfl]
          cases hp : againW d (unitP d) l1 with
          | error e =>
            refine wpL_boom (E := PThr pb w l0 (rowW (againW d (unitP d)))) [(), (), (), (), (), (), ()] mixed (by kernel_rfl) (fun ce te we hE => ?_) ?_
            · push_cast -dsimp
              exact hE
            · push_cast -dsimp [d2]
              refine ⟨fun w'' h => by rw [h, d2]; exact rfl, ?_⟩
              refine callB_of (ha n hn0 hn pb B w2.drew l1 Pd) (fun v we ⟨x, l', h1, _⟩ => by rw [hp] at h1; cases h1) ?_
              rintro ce we ⟨en, pos, he, ht, hke⟩
              refine ⟨en, pos, ?_, ht.mono (by have := kdd.size; omega), kdd.trans hke (fun i _ h => h)⟩
              have hl : rowLoop (againW d (unitP d)) 1000 [] l0 = .error (en, pos) := by
                rw [← hm2, hstep]
                unfold Cae.pb
                rw [he]
              unfold rowW Cae.pb
              rw [hl]
          | ok q =>
            obtain ⟨x, l2⟩ := q
            have hl2 : l2.length < l1.length := again_less hp
            refine wpL_last (fun w' => Blk w' w.heap.size 83 [.int .i64 4, .pointer none, sv, .int .i64 0, .int .i64 0]) mixed (by kernel_rfl) (by simp) hB2.drew ?_
            push_cast -dsimp [d2]
            refine ⟨fun w'' h => by rw [Blk.cell h (o := 2) rfl]; exact rfl, ?_⟩
            refine callP_of (ha n hn0 hn pb B w2.drew l1 Pd) ?_ (fun ce we ⟨en, pos, he, _⟩ => by rw [hp] at he; cases he)
            rintro u w3 ⟨x', l2', e3, V3, P3, k3⟩
            obtain ⟨rfl, rfl⟩ : x = x' ∧ l2 = l2' := by rw [hp] at e3; cases e3; exact ⟨rfl, rfl⟩
            obtain ⟨ub, rfl, hub, hubX⟩ := V3.ptr
            have B3 := hBd.kept k3 (by omega)
            have z3 := k3.size
            have hzd : w2.heap.size = w2.drew.heap.size := rfl
            have hob : ∀ g, sv.ownBlock = some g → g < w2.heap.size := fun g hg => (hO2.block g hg).2
            have hO3 := (hO2.keptX kd (fun g _ h => h)).keptX k3 (fun g hg h => by have := (hO2.block g hg).1; omega)
            have hV3 := PatsV.mono (X' := fun b => (b < w.heap.size ∨ b = w.heap.size ∨ sv.ownBlock = some b) ∨ w2.heap.size ≤ b) ((kd.weaken (Y := (· = pb)) (fun i _ h => h.elim)).trans k3 (fun i _ h => h)) (fun i h => by omega) (fun i h => h) (PatsV.top hV2)
            refine ⟨B3, ?_⟩
            push_cast -dsimp
            refine rowK elI_81 rfl rfl (by omega) ?_
            intro w4 hw4
            have B4 := B3.below hw4.below B3.lt
            have z4 := hw4.size
            have hO4 := hO3.new hw4
            have P4 := P3.below hw4.below
            refine ⟨B4, ?_⟩
            push_cast -dsimp
            refine appendK2 (base := w.heap.size + 1) [ub] (enc := encP) elI_81 hO4 (by rfl) (fun j y hy => by simpa [encP, ptrP] using hw4.cell hy) encP_one (by rw [PatsV.len hV2]; simp only [List.length_cons, List.length_nil]; omega) (by omega) ?_
            intro sv5 w5 hO5 hg5 hn5
            have kg : Kept (fun j => sv.ownBlock = some j) w4 w5 := Kept.grown hg5 (fun _ h => h)
            have hog : ∀ g, sv.ownBlock = some g → w.heap.size + 1 ≤ g := fun g hg => (hO2.block g hg).1
            have B5 := B4.kept kg (fun h => by have := hog _ h; omega)
            have P5 := P4.kept kg (fun i h => by have := hog _ h; omega)
            have z5 := kg.size
            refine ⟨B5, ?_⟩
            obtain ⟨a5, c5, rfl⟩ := hO5.slice
            push_cast -dsimp
            refine storeK_of B5 (by simp) rfl ?_
            intro w6 hw6
            have B6 : Blk w6 w.heap.size 83 [.int .i64 4, .pointer none, .slice a5 (vs ++ [ub]).length c5, .int .i64 0, .int .i64 0] := hw6.blk
            have P6 := P5.kept hw6.kept (fun i h => by omega)
            have z6 := hw6.size
            have hO6 := hO5.keptX hw6.kept (fun g hg h => by have := (hO5.block g hg).1; omega)
            have k6 := (((kdd.trans k3 (fun i _ h => h)).trans (Kept.new (X := (· = pb)) hw4) (fun i _ h => h)).trans kg (fun i h1 h2 => by have := hog _ h2; omega)).trans hw6.kept (fun i h1 h2 => by omega)
            have kY : Kept (fun i => i = w.heap.size ∨ sv.ownBlock = some i) w3 w6 := ((Kept.new (X := fun i => i = w.heap.size ∨ sv.ownBlock = some i) hw4).trans kg (fun i _ h => .inr h)).trans hw6.kept (fun i _ h => .inl h)
            have hX : ∀ i, (i < w.heap.size ∨ i = w.heap.size ∨ (Value.slice a5 (vs ++ [ub]).length c5).ownBlock = some i) → i < w.heap.size ∨ i = w.heap.size ∨ sv.ownBlock = some i ∨ w4.heap.size ≤ i := fun i h => by
              rcases h with h | h | h
              · exact .inl h
              · exact .inr (.inl h)
              · rcases hn5 i h with h | h
                · exact .inr (.inr (.inl h))
                · exact .inr (.inr (.inr h))
            have hV6 : PatsV (fun b => b < w.heap.size ∨ b = w.heap.size ∨ (Value.slice a5 (vs ++ [ub]).length c5).ownBlock = some b) w6 (vs ++ [ub]) (acc ++ [x]) := by
              refine PatsV.snoc (PatsV.mono kY (fun i h => ?_) (fun i h => ?_) hV3) (PatV.mono kY (fun i h => ?_) (fun i h => ?_) V3.top)
              · rcases h with h | h
                · exact .inl (.inr (.inl h))
                · exact .inl (.inr (.inr h))
              · rcases hX i h with h | h | h | h
                · exact .inl (.inl h)
                · exact .inl (.inr (.inl h))
                · exact .inl (.inr (.inr h))
                · exact .inr (by omega)
              · rcases h with h | h
                · exact .inl (by omega)
                · exact .inl (hob i h)
              · rcases hX i h with h | h | h | h
                · exact .inl (by omega)
                · exact .inl (by omega)
                · exact .inl (hob i h)
                · exact .inr (by omega)
            have hlen6 := P6.len
            have hlen1 := hP1.len
            have hnx : rowLoop (againW d (unitP d)) m' (acc ++ [x]) l2 = rowLoop (againW d (unitP d)) 1000 [] l0 := by rw [← hm2, hstep, pb_of hp]
            push_cast -dsimp
            exact ⟨⟨m', acc ++ [x], l2, _, vs ++ [ub], hnx, by omega, by rw [List.length_append, List.length_singleton]; omega, B6, hO6, hV6, P6, k6⟩, by rw [hlen6, hlen1]; exact hl2⟩
        | false =>
          rw [hs2, Bool.false_or] at hstP
          push_cast -dsimp
          refine callK_of (see_c [40] P2) ?_
          rintro _ w3 ⟨rfl, hw3⟩
          obtain rfl : w2 = w3 := hw3.symm
          cases hs3 : seeP [40] l1 with
          | true =>
            have hst : startP l1 = true := by rw [hstP, hs3]
            push_cast -dsimp
            -- at world w2: hB2 hO2 hV2 P2 k2
            have hm1 : ∃ m', m = m' + 1 := ⟨m - 1, by omega⟩
            obtain ⟨m', hmm⟩ := hm1
            have hz2 : w.heap.size < w2.heap.size := hB2.lt
            have kd : Kept (fun _ => False) w2 w2.drew := (Kept.refl _ _).drew
            have hBd := hB2.kept kd (fun h => h)
            have Pd := P2.kept kd (fun i h => h.elim)
            have kdd := k2.trans kd (fun i h1 h2 => h2.elim)
            have d2 : w2.drew.cell? ⟨w.heap.size, 2, none⟩ = some sv := hBd.cell rfl
            have hstep : rowLoop (againW d (unitP d)) m acc l1 = Cae.pb (againW d (unitP d)) (fun x => rowLoop (againW d (unitP d)) m' (acc ++ [x])) l1 := by
              rw [hmm, rowLoop]
              unfold pif
              rw [hst, if_pos rfl]
            cases hp : againW d (unitP d) l1 with
            | error e =>
              refine wpL_boom (E := PThr pb w l0 (rowW (againW d (unitP d)))) [(), (), (), (), (), (), ()] mixed (by kernel_rfl) (fun ce te we hE => ?_) ?_
              · push_cast -dsimp
                exact hE
              · push_cast -dsimp [d2]
                refine ⟨fun w'' h => by rw [h, d2]; exact rfl, ?_⟩
                refine callB_of (ha n hn0 hn pb B w2.drew l1 Pd) (fun v we ⟨x, l', h1, _⟩ => by rw [hp] at h1; cases h1) ?_
                rintro ce we ⟨en, pos, he, ht, hke⟩
                refine ⟨en, pos, ?_, ht.mono (by have := kdd.size; omega), kdd.trans hke (fun i _ h => h)⟩
                have hl : rowLoop (againW d (unitP d)) 1000 [] l0 = .error (en, pos) := by
                  rw [← hm2, hstep]
                  unfold Cae.pb
                  rw [he]
                unfold rowW Cae.pb
                rw [hl]
            | ok q =>
              obtain ⟨x, l2⟩ := q
              have hl2 : l2.length < l1.length := again_less hp
              refine wpL_last (fun w' => Blk w' w.heap.size 83 [.int .i64 4, .pointer none, sv, .int .i64 0, .int .i64 0]) mixed (by kernel_rfl) (by simp) hB2.drew ?_
              push_cast -dsimp [d2]
              refine ⟨fun w'' h => by rw [Blk.cell h (o := 2) rfl]; exact rfl, ?_⟩
              refine callP_of (ha n hn0 hn pb B w2.drew l1 Pd) ?_ (fun ce we ⟨en, pos, he, _⟩ => by rw [hp] at he; cases he)
              rintro u w3 ⟨x', l2', e3, V3, P3, k3⟩
              obtain ⟨rfl, rfl⟩ : x = x' ∧ l2 = l2' := by rw [hp] at e3; cases e3; exact ⟨rfl, rfl⟩
              obtain ⟨ub, rfl, hub, hubX⟩ := V3.ptr
              have B3 := hBd.kept k3 (by omega)
              have z3 := k3.size
              have hzd : w2.heap.size = w2.drew.heap.size := rfl
              have hob : ∀ g, sv.ownBlock = some g → g < w2.heap.size := fun g hg => (hO2.block g hg).2
              have hO3 := (hO2.keptX kd (fun g _ h => h)).keptX k3 (fun g hg h => by have := (hO2.block g hg).1; omega)
              have hV3 := PatsV.mono (X' := fun b => (b < w.heap.size ∨ b = w.heap.size ∨ sv.ownBlock = some b) ∨ w2.heap.size ≤ b) ((kd.weaken (Y := (· = pb)) (fun i _ h => h.elim)).trans k3 (fun i _ h => h)) (fun i h => by omega) (fun i h => h) (PatsV.top hV2)
              refine ⟨B3, ?_⟩
              push_cast -dsimp
              refine rowK elI_81 rfl rfl (by omega) ?_
              intro w4 hw4
              have B4 := B3.below hw4.below B3.lt
              have z4 := hw4.size
              have hO4 := hO3.new hw4
              have P4 := P3.below hw4.below
              refine ⟨B4, ?_⟩
              push_cast -dsimp
              refine appendK2 (base := w.heap.size + 1) [ub] (enc := encP) elI_81 hO4 (by rfl) (fun j y hy => by simpa [encP, ptrP] using hw4.cell hy) encP_one (by rw [PatsV.len hV2]; simp only [List.length_cons, List.length_nil]; omega) (by omega) ?_
              intro sv5 w5 hO5 hg5 hn5
              have kg : Kept (fun j => sv.ownBlock = some j) w4 w5 := Kept.grown hg5 (fun _ h => h)
              have hog : ∀ g, sv.ownBlock = some g → w.heap.size + 1 ≤ g := fun g hg => (hO2.block g hg).1
              have B5 := B4.kept kg (fun h => by have := hog _ h; omega)
              have P5 := P4.kept kg (fun i h => by have := hog _ h; omega)
              have z5 := kg.size
              refine ⟨B5, ?_⟩
              obtain ⟨a5, c5, rfl⟩ := hO5.slice
              push_cast -dsimp
              refine storeK_of B5 (by simp) rfl ?_
              intro w6 hw6
              have B6 : Blk w6 w.heap.size 83 [.int .i64 4, .pointer none, .slice a5 (vs ++ [ub]).length c5, .int .i64 0, .int .i64 0] := hw6.blk
              have P6 := P5.kept hw6.kept (fun i h => by omega)
              have z6 := hw6.size
              have hO6 := hO5.keptX hw6.kept (fun g hg h => by have := (hO5.block g hg).1; omega)
              have k6 := (((kdd.trans k3 (fun i _ h => h)).trans (Kept.new (X := (· = pb)) hw4) (fun i _ h => h)).trans kg (fun i h1 h2 => by have := hog _ h2; omega)).trans hw6.kept (fun i h1 h2 => by omega)
              have kY : Kept (fun i => i = w.heap.size ∨ sv.ownBlock = some i) w3 w6 := ((Kept.new (X := fun i => i = w.heap.size ∨ sv.ownBlock = some i) hw4).trans kg (fun i _ h => .inr h)).trans hw6.kept (fun i _ h => .inl h)
              have hX : ∀ i, (i < w.heap.size ∨ i = w.heap.size ∨ (Value.slice a5 (vs ++ [ub]).length c5).ownBlock = some i) → i < w.heap.size ∨ i = w.heap.size ∨ sv.ownBlock = some i ∨ w4.heap.size ≤ i := fun i h => by
                rcases h with h | h | h
                · exact .inl h
                · exact .inr (.inl h)
                · rcases hn5 i h with h | h
                  · exact .inr (.inr (.inl h))
                  · exact .inr (.inr (.inr h))
              have hV6 : PatsV (fun b => b < w.heap.size ∨ b = w.heap.size ∨ (Value.slice a5 (vs ++ [ub]).length c5).ownBlock = some b) w6 (vs ++ [ub]) (acc ++ [x]) := by
                refine PatsV.snoc (PatsV.mono kY (fun i h => ?_) (fun i h => ?_) hV3) (PatV.mono kY (fun i h => ?_) (fun i h => ?_) V3.top)
                · rcases h with h | h
                  · exact .inl (.inr (.inl h))
                  · exact .inl (.inr (.inr h))
                · rcases hX i h with h | h | h | h
                  · exact .inl (.inl h)
                  · exact .inl (.inr (.inl h))
                  · exact .inl (.inr (.inr h))
                  · exact .inr (by omega)
                · rcases h with h | h
                  · exact .inl (by omega)
                  · exact .inl (hob i h)
                · rcases hX i h with h | h | h | h
                  · exact .inl (by omega)
                  · exact .inl (by omega)
                  · exact .inl (hob i h)
                  · exact .inr (by omega)
              have hlen6 := P6.len
              have hlen1 := hP1.len
              have hnx : rowLoop (againW d (unitP d)) m' (acc ++ [x]) l2 = rowLoop (againW d (unitP d)) 1000 [] l0 := by rw [← hm2, hstep, pb_of hp]
              push_cast -dsimp
              exact ⟨⟨m', acc ++ [x], l2, _, vs ++ [ub], hnx, by omega, by rw [List.length_append, List.length_singleton]; omega, B6, hO6, hV6, P6, k6⟩, by rw [hlen6, hlen1]; exact hl2⟩
          | false =>
            have hst : startP l1 = false := by rw [hstP, hs3]
            have hfin : rowW (againW d (unitP d)) l0 = .ok (rowOf acc, l1) := by
              have hl : rowLoop (againW d (unitP d)) 1000 [] l0 = .ok (acc, l1) := by
                rw [← hm2]
                obtain ⟨m', hmm⟩ : ∃ m', m = m' + 1 := ⟨m - 1, by omega⟩
                rw [hmm, rowLoop]
                unfold pif
                rw [hst]
                rfl
              unfold rowW
              rw [pb_of hl]
              rfl
            have hV2l := PatsV.len hV2
            have hO2s := hO2.slice
            obtain ⟨va, vc, hsv⟩ := hO2s
            rw [hsv] at hB2 hO2 hV2
            have d2 : w2.cell? ⟨w.heap.size, 2, none⟩ = some (.slice va vs.length vc) := hB2.cell rfl
            have hsl := hO2.sl
            have hzs := k2.size
            push_cast -dsimp [d2]
            refine ⟨fun h1 => ?_, fun h1 => ?_⟩
            · obtain ⟨u, hvs⟩ : ∃ u, vs = [u] := List.length_eq_one_iff.1 (by omega)
              obtain ⟨x, hac⟩ : ∃ x, acc = [x] := List.length_eq_one_iff.1 (by omega)
              rw [hvs] at hsl d2 hV2
              rw [hac] at hV2 hfin
              simp only [PatsV, and_true] at hV2
              obtain ⟨b5, o5, rfl, _, hcell⟩ := hsl.get (i := 0) (x := u) rfl
              have d5 : w2.cell? ⟨b5, o5, none⟩ = some (ptrP u) := by have := hcell 0 _ rfl; simpa using this
              simp only [List.length_cons, List.length_nil, Nat.zero_add] at d2
              push_cast -dsimp [d2, Nat.zero_mul, Nat.add_zero, d5]
              refine ⟨by omega, x, l1, hfin, PatV.mono (Kept.refl (fun _ => False) _) (fun _ h => h.elim) (fun i h => .inl h) hV2, P2, k2⟩
            · have hne : acc.length ≠ 1 := by omega
              have hro : rowOf acc = .cat acc := by
                unfold rowOf
                split
                · rename_i x
                  exact absurd rfl hne
                · rfl
              refine ⟨.cat acc, l1, by rw [← hro]; exact hfin, ?_, P2, k2⟩
              simp only [PatV]
              exact ⟨_, _, vs, rfl, by omega, hB2, hsl.weaken (fun i h => by omega), PatsV.mono (Kept.refl (fun _ => False) _) (fun _ h => h.elim) (fun i h => .inl h) hV2⟩
  · have hst : startP l1 = true := by
      have : t1.kind = 3 := by omega
      rw [hstP, this]; rfl
    have P2 := hP1
    have hB2 := hB
    have hO2 := hO
    have hV2 := hV
    have k2 := hkw
    -- at world w': hB2 hO2 hV2 P2 k2
    have hm1 : ∃ m', m = m' + 1 := ⟨m - 1, by omega⟩
    obtain ⟨m', hmm⟩ := hm1
    have hz2 : w.heap.size < w'.heap.size := hB2.lt
    have kd : Kept (fun _ => False) w' w'.drew := (Kept.refl _ _).drew
    have hBd := hB2.kept kd (fun h => h)
    have Pd := P2.kept kd (fun i h => h.elim)
    have kdd := k2.trans kd (fun i h1 h2 => h2.elim)
    have d2 : w'.drew.cell? ⟨w.heap.size, 2, none⟩ = some sv := hBd.cell rfl
    have hstep : rowLoop (againW d (unitP d)) m acc l1 = Cae.pb (againW d (unitP d)) (fun x => rowLoop (againW d (unitP d)) m' (acc ++ [x])) l1 := by
      rw [hmm, rowLoop]
      unfold pif
      rw [hst, if_pos rfl]
    cases hp : againW d (unitP d) l1 with
    | error e =>
      refine wpL_boom (E := PThr pb w l0 (rowW (againW d (unitP d)))) [(), (), (), (), (), (), ()] mixed (by kernel_rfl) (fun ce te we hE => ?_) ?_
      · push_cast -dsimp
        exact hE
      · push_cast -dsimp [d2]
        refine ⟨fun w'' h => by rw [h, d2]; exact rfl, ?_⟩
        refine callB_of (ha n hn0 hn pb B w'.drew l1 Pd) (fun v we ⟨x, l', h1, _⟩ => by rw [hp] at h1; cases h1) ?_
        rintro ce we ⟨en, pos, he, ht, hke⟩
        refine ⟨en, pos, ?_, ht.mono (by have := kdd.size; omega), kdd.trans hke (fun i _ h => h)⟩
        have hl : rowLoop (againW d (unitP d)) 1000 [] l0 = .error (en, pos) := by
          rw [← hm2, hstep]
          unfold Cae.pb
          rw [he]
        unfold rowW Cae.pb
        rw [hl]
    | ok q =>
      obtain ⟨x, l2⟩ := q
      have hl2 : l2.length < l1.length := again_less hp
      refine wpL_last (fun w' => Blk w' w.heap.size 83 [.int .i64 4, .pointer none, sv, .int .i64 0, .int .i64 0]) mixed (by kernel_rfl) (by simp) hB2.drew ?_
      push_cast -dsimp [d2]
      refine ⟨fun w'' h => by rw [Blk.cell h (o := 2) rfl]; exact rfl, ?_⟩
      refine callP_of (ha n hn0 hn pb B w'.drew l1 Pd) ?_ (fun ce we ⟨en, pos, he, _⟩ => by rw [hp] at he; cases he)
      rintro u w3 ⟨x', l2', e3, V3, P3, k3⟩
      obtain ⟨rfl, rfl⟩ : x = x' ∧ l2 = l2' := by rw [hp] at e3; cases e3; exact ⟨rfl, rfl⟩
      obtain ⟨ub, rfl, hub, hubX⟩ := V3.ptr
      have B3 := hBd.kept k3 (by omega)
      have z3 := k3.size
      have hzd : w'.heap.size = w'.drew.heap.size := rfl
      have hob : ∀ g, sv.ownBlock = some g → g < w'.heap.size := fun g hg => (hO2.block g hg).2
      have hO3 := (hO2.keptX kd (fun g _ h => h)).keptX k3 (fun g hg h => by have := (hO2.block g hg).1; omega)
      have hV3 := PatsV.mono (X' := fun b => (b < w.heap.size ∨ b = w.heap.size ∨ sv.ownBlock = some b) ∨ w'.heap.size ≤ b) ((kd.weaken (Y := (· = pb)) (fun i _ h => h.elim)).trans k3 (fun i _ h => h)) (fun i h => by omega) (fun i h => h) (PatsV.top hV2)
      refine ⟨B3, ?_⟩
      push_cast -dsimp
      refine rowK elI_81 rfl rfl (by omega) ?_
      intro w4 hw4
      have B4 := B3.below hw4.below B3.lt
      have z4 := hw4.size
      have hO4 := hO3.new hw4
      have P4 := P3.below hw4.below
      refine ⟨B4, ?_⟩
      push_cast -dsimp
      refine appendK2 (base := w.heap.size + 1) [ub] (enc := encP) elI_81 hO4 (by rfl) (fun j y hy => by simpa [encP, ptrP] using hw4.cell hy) encP_one (by rw [PatsV.len hV2]; simp only [List.length_cons, List.length_nil]; omega) (by omega) ?_
      intro sv5 w5 hO5 hg5 hn5
      have kg : Kept (fun j => sv.ownBlock = some j) w4 w5 := Kept.grown hg5 (fun _ h => h)
      have hog : ∀ g, sv.ownBlock = some g → w.heap.size + 1 ≤ g := fun g hg => (hO2.block g hg).1
      have B5 := B4.kept kg (fun h => by have := hog _ h; omega)
      have P5 := P4.kept kg (fun i h => by have := hog _ h; omega)
      have z5 := kg.size
      refine ⟨B5, ?_⟩
      obtain ⟨a5, c5, rfl⟩ := hO5.slice
      push_cast -dsimp
      refine storeK_of B5 (by simp) rfl ?_
      intro w6 hw6
      have B6 : Blk w6 w.heap.size 83 [.int .i64 4, .pointer none, .slice a5 (vs ++ [ub]).length c5, .int .i64 0, .int .i64 0] := hw6.blk
      have P6 := P5.kept hw6.kept (fun i h => by omega)
      have z6 := hw6.size
      have hO6 := hO5.keptX hw6.kept (fun g hg h => by have := (hO5.block g hg).1; omega)
      have k6 := (((kdd.trans k3 (fun i _ h => h)).trans (Kept.new (X := (· = pb)) hw4) (fun i _ h => h)).trans kg (fun i h1 h2 => by have := hog _ h2; omega)).trans hw6.kept (fun i h1 h2 => by omega)
      have kY : Kept (fun i => i = w.heap.size ∨ sv.ownBlock = some i) w3 w6 := ((Kept.new (X := fun i => i = w.heap.size ∨ sv.ownBlock = some i) hw4).trans kg (fun i _ h => .inr h)).trans hw6.kept (fun i _ h => .inl h)
      have hX : ∀ i, (i < w.heap.size ∨ i = w.heap.size ∨ (Value.slice a5 (vs ++ [ub]).length c5).ownBlock = some i) → i < w.heap.size ∨ i = w.heap.size ∨ sv.ownBlock = some i ∨ w4.heap.size ≤ i := fun i h => by
        rcases h with h | h | h
        · exact .inl h
        · exact .inr (.inl h)
        · rcases hn5 i h with h | h
          · exact .inr (.inr (.inl h))
          · exact .inr (.inr (.inr h))
      have hV6 : PatsV (fun b => b < w.heap.size ∨ b = w.heap.size ∨ (Value.slice a5 (vs ++ [ub]).length c5).ownBlock = some b) w6 (vs ++ [ub]) (acc ++ [x]) := by
        refine PatsV.snoc (PatsV.mono kY (fun i h => ?_) (fun i h => ?_) hV3) (PatV.mono kY (fun i h => ?_) (fun i h => ?_) V3.top)
        · rcases h with h | h
          · exact .inl (.inr (.inl h))
          · exact .inl (.inr (.inr h))
        · rcases hX i h with h | h | h | h
          · exact .inl (.inl h)
          · exact .inl (.inr (.inl h))
          · exact .inl (.inr (.inr h))
          · exact .inr (by omega)
        · rcases h with h | h
          · exact .inl (by omega)
          · exact .inl (hob i h)
        · rcases hX i h with h | h | h | h
          · exact .inl (by omega)
          · exact .inl (by omega)
          · exact .inl (hob i h)
          · exact .inr (by omega)
      have hlen6 := P6.len
      have hlen1 := hP1.len
      have hnx : rowLoop (againW d (unitP d)) m' (acc ++ [x]) l2 = rowLoop (againW d (unitP d)) 1000 [] l0 := by rw [← hm2, hstep, pb_of hp]
      push_cast -dsimp
      exact ⟨⟨m', acc ++ [x], l2, _, vs ++ [ub], hnx, by omega, by rw [List.length_append, List.length_singleton]; omega, B6, hO6, hV6, P6, k6⟩, by rw [hlen6, hlen1]; exact hl2⟩
end Go.Proofs.YtphebgkbkdjjoaaGreatDoor
end
section
namespace Go.Proofs.YtphebgkbkdjjoaaGreatDoor
open Go.Vc Go.Proofs Go.RowKit Cae
set_option maxRecDepth 100000
set_option linter.unusedSimpArgs false
set_option linter.unusedVariables false
attribute [local irreducible] wpL callK valK unitK runK Fun Sl Vc.Own vc vcOps opK pureK
set_option maxHeartbeats 4000000

theorem row_le {d : Nat} {l l' : List Cae.Tok} {x : PatP} (h : rowW (againW d (unitP d)) l = .ok (x, l')) : l'.length ≤ l.length := Lo.le (lo_rowW (lo_againW (lo_unit d))) _ _ _ h
theorem pat_of (d : Nat) (hrow : RowC d) : PatC d := by
  intro n hn0 hn pb B w l0 h0
  have hle := h0.le
  have hlt := h0.lt
  refine fun2_of_vc Tryz.func52 rfl (by kernel_rfl) [.tmp 4] rfl ?_
  push_cast -dsimp (maxSteps := 4000000) [Tryz.ntmps52]
  refine callP_of (deep_c n h0) ?_ ?_
  rotate_left
  · rintro c w' ⟨h8, ht, hb⟩
    have hd0 : d = 0 := by omega
    subst hd0
    push_cast -dsimp
    exact ⟨4, _, rfl, ht, Kept.of_below hb (fun i h1 h2 => by omega)⟩
  rintro _ w0 ⟨h8, rfl, hw0⟩
  obtain rfl : w = w0 := hw0.symm
  have hpat : patP d l0 = Cae.pb (rowW (againW d (unitP d))) (fun x => Cae.pb (altLoop (rowW (againW d (unitP d))) 1000 [x]) fun ps => pr (altOf ps)) l0 := by
    unfold patP patW
    rw [if_neg (by omega)]
    rfl
  push_cast -dsimp
  refine callP_of (hrow n hn0 hn pb B w l0 h0) ?_ ?_
  rotate_left
  · rintro c w' ⟨e, pos, he, ht, hk⟩
    push_cast -dsimp
    refine ⟨e, pos, ?_, ht, hk⟩
    rw [hpat]
    unfold Cae.pb
    rw [he]
  rintro v1 w1 ⟨x0, l1', e1, V1, P1, k1⟩
  obtain ⟨ub, rfl, hub, hubX⟩ := V1.ptr
  have z1 := k1.size
  push_cast -dsimp
  refine rowK elI_81 rfl rfl (by omega) ?_
  intro w2 hw2
  have z2 := hw2.size
  have O2 : Go.Vc.Own w.heap.size 42 1 encP w2 (.slice (some ⟨w1.heap.size, 0, none⟩) 1 1) [ub] := hw2.own (by rfl) rfl (fun _ => rfl) (by omega) (by omega)
  push_cast -dsimp
  refine boxK_of ?_
  intro w3 hw3
  have B3 := hw3.blk
  have O3 := O2.new hw3
  have P3 := (P1.below hw2.below).below hw3.below
  have k3 := (k1.trans (Kept.new (X := (· = pb)) hw2) (fun i _ h => h)).trans (Kept.new (X := (· = pb)) hw3) (fun i _ h => h)
  have V3 := (V1.top.below hw2.below).below hw3.below
  have hxb : ∃ xb, xb = w2.heap.size := ⟨_, rfl⟩
  obtain ⟨xb, hxb⟩ := hxb
  have hxb0 : w.heap.size ≤ xb := by omega
  rw [← hxb] at B3
  push_cast -dsimp [← hxb]
  refine wpL_loop [15, 16, 17, 18, 19, 20, 21, 22, 23, 24, 25, 26, 27, 28] (fun z w' => ∃ (m : Nat) (acc : List PatP) (l1 : List Cae.Tok) (sv : Value) (vs : List Nat), altLoop (rowW (againW d (unitP d))) m acc l1 = altLoop (rowW (againW d (unitP d))) 1000 [x0] l1' ∧ l1.length < m ∧ acc.length + m ≤ 1001 ∧
      Blk w' xb 83 [.int .i64 5, .pointer none, sv, .int .i64 0, .int .i64 0] ∧ Go.Vc.Own w.heap.size 42 1 encP w' sv vs ∧ (∀ g, sv.ownBlock = some g → g ≠ xb) ∧ PatsV (fun b => b < w.heap.size ∨ b = xb ∨ sv.ownBlock = some b) w' vs acc ∧ PS pb B w' l1 ∧ Kept (· = pb) w w') (fun z w' => lenAt w' pb) ?_ ?_
  · have hlt : l1'.length < 1000 := by have := P1.tl.len; omega
    have hV0 : PatsV (fun b => b < w.heap.size ∨ b = xb ∨ (Value.slice (some ⟨w1.heap.size, 0, none⟩) 1 1).ownBlock = some b) w3 [ub] [x0] := by
      simp only [PatsV, and_true]
      refine PatV.mono (Kept.refl (fun _ => False) _) (fun _ h => h.elim) (fun i h => ?_) V3
      rcases h with h | h | h
      · exact .inl h
      · exact .inr (by omega)
      · have : w1.heap.size = i := by simpa [Value.ownBlock] using h
        exact .inr (by omega)
    have hne0 : ∀ g, (Value.slice (some ⟨w1.heap.size, 0, none⟩) 1 1).ownBlock = some g → g ≠ xb := fun g hg => by
      have : w1.heap.size = g := by simpa [Value.ownBlock] using hg
      omega
    exact ⟨1000, [x0], l1', _, [ub], rfl, hlt, by simp, B3, O3, hne0, hV0, P3, k3⟩
  rintro z w' ⟨m, acc, l1, sv, vs, hm2, hm, hacc, hBq, hOq, hne2, hVq, hP1, kq⟩
  have hzw := kq.size
  push_cast -dsimp [← hxb]
  refine callK_of (take_c [124] hP1) ?_
  rintro _ w2' hT
  rcases hT with ⟨hst, rfl, t1, r1', el1, h51, P2, kt, hz⟩ | ⟨hst, rfl, hww⟩
  · have hpop : popP l1 = .ok ((), r1') := by rw [el1]; exact popP_cons h51
    have hl1 : l1.length = r1'.length + 1 := by rw [el1, List.length_cons]
    have hB2 := hBq.kept kt (by omega)
    have hO2 := hOq.keptX kt (fun g hg h => by have := (hOq.block g hg).1; omega)
    have hV2 : PatsV (fun b => b < w.heap.size ∨ b = xb ∨ sv.ownBlock = some b) w2' vs acc := PatsV.mono kt (fun i h => by omega) (fun i h => h) hVq
    have k2 := kq.trans kt (fun i _ h => h)
    push_cast -dsimp [← hxb]
    -- at world w2': hB2 hO2 hV2 P2 k2
    have hm1 : ∃ m', m = m' + 1 := ⟨m - 1, by omega⟩
    obtain ⟨m', hmm⟩ := hm1
    have hz2 : xb < w2'.heap.size := hB2.lt
    have kd : Kept (fun _ => False) w2' w2'.drew := (Kept.refl _ _).drew
    have hBd := hB2.kept kd (fun h => h)
    have Pd := P2.kept kd (fun i h => h.elim)
    have kdd := k2.trans kd (fun i h1 h2 => h2.elim)
    have d2 : w2'.drew.cell? ⟨xb, 2, none⟩ = some sv := hBd.cell rfl
    have hstep : altLoop (rowW (againW d (unitP d))) m acc l1 = Cae.pb (rowW (againW d (unitP d))) (fun x => altLoop (rowW (againW d (unitP d))) m' (acc ++ [x])) r1' := by
      rw [hmm, altLoop]
      unfold pif
      rw [hst, if_pos rfl, pb_of hpop]
    cases hp : rowW (againW d (unitP d)) r1' with
    | error e =>
      refine wpL_boom (E := PThr pb w l0 (patP d)) [(), (), (), (), (), (), ()] mixed (by kernel_rfl) (fun ce te we hE => ?_) ?_
      · push_cast -dsimp
        exact hE
      · push_cast -dsimp [d2]
        refine ⟨fun w'' h => by rw [h, d2]; exact rfl, ?_⟩
        refine callB_of (hrow n hn0 hn pb B w2'.drew r1' Pd) (fun v we ⟨x, l', h1, _⟩ => by rw [hp] at h1; cases h1) ?_
        rintro ce we ⟨en, pos, he, ht, hke⟩
        refine ⟨en, pos, ?_, ht.mono (by have := kdd.size; omega), kdd.trans hke (fun i _ h => h)⟩
        have hl : altLoop (rowW (againW d (unitP d))) 1000 [x0] l1' = .error (en, pos) := by
          rw [← hm2, hstep]
          unfold Cae.pb
          rw [he]
        rw [hpat, pb_of e1]
        unfold Cae.pb
        rw [hl]
    | ok q =>
      obtain ⟨x, l2⟩ := q
      have hl2 : l2.length < l1.length := by
        have := row_le hp
        rw [hl1]; omega
      refine wpL_last (fun w' => Blk w' xb 83 [.int .i64 5, .pointer none, sv, .int .i64 0, .int .i64 0]) mixed (by kernel_rfl) (by simp) hB2.drew ?_
      push_cast -dsimp [d2]
      refine ⟨fun w'' h => by rw [Blk.cell h (o := 2) rfl]; exact rfl, ?_⟩
      refine callP_of (hrow n hn0 hn pb B w2'.drew r1' Pd) ?_ (fun ce we ⟨en, pos, he, _⟩ => by rw [hp] at he; cases he)
      rintro u w3 ⟨x', l2', e3, V3, P3, k3⟩
      obtain ⟨rfl, rfl⟩ : x = x' ∧ l2 = l2' := by rw [hp] at e3; cases e3; exact ⟨rfl, rfl⟩
      obtain ⟨ub, rfl, hub, hubX⟩ := V3.ptr
      have B3 := hBd.kept k3 (by omega)
      have z3 := k3.size
      have hzd : w2'.heap.size = w2'.drew.heap.size := rfl
      have hob : ∀ g, sv.ownBlock = some g → g < w2'.heap.size := fun g hg => (hO2.block g hg).2
      have hO3 := (hO2.keptX kd (fun g _ h => h)).keptX k3 (fun g hg h => by have := (hO2.block g hg).1; omega)
      have hV3 := PatsV.mono (X' := fun b => (b < w.heap.size ∨ b = xb ∨ sv.ownBlock = some b) ∨ w2'.heap.size ≤ b) ((kd.weaken (Y := (· = pb)) (fun i _ h => h.elim)).trans k3 (fun i _ h => h)) (fun i h => by omega) (fun i h => h) (PatsV.top hV2)
      refine ⟨B3, ?_⟩
      push_cast -dsimp
      refine rowK elI_81 rfl rfl (by omega) ?_
      intro w4 hw4
      have B4 := B3.below hw4.below B3.lt
      have z4 := hw4.size
      have hO4 := hO3.new hw4
      have P4 := P3.below hw4.below
      refine ⟨B4, ?_⟩
      push_cast -dsimp
      refine appendK2 (base := w.heap.size) [ub] (enc := encP) elI_81 hO4 (by rfl) (fun j y hy => by simpa [encP, ptrP] using hw4.cell hy) encP_one (by rw [PatsV.len hV2]; simp only [List.length_cons, List.length_nil]; omega) (by omega) ?_
      intro sv5 w5 hO5 hg5 hn5
      have kg : Kept (fun j => sv.ownBlock = some j) w4 w5 := Kept.grown hg5 (fun _ h => h)
      have hog : ∀ g, sv.ownBlock = some g → w.heap.size ≤ g ∧ g ≠ xb := fun g hg => ⟨(hO2.block g hg).1, hne2 g hg⟩
      have B5 := B4.kept kg (fun h => by have := hog _ h; omega)
      have P5 := P4.kept kg (fun i h => by have := hog _ h; omega)
      have z5 := kg.size
      refine ⟨B5, ?_⟩
      obtain ⟨a5, c5, rfl⟩ := hO5.slice
      push_cast -dsimp
      refine storeK_of B5 (by simp) rfl ?_
      intro w6 hw6
      have B6 : Blk w6 xb 83 [.int .i64 5, .pointer none, .slice a5 (vs ++ [ub]).length c5, .int .i64 0, .int .i64 0] := hw6.blk
      have P6 := P5.kept hw6.kept (fun i h => by omega)
      have z6 := hw6.size
      have hne6 : ∀ g, (Value.slice a5 (vs ++ [ub]).length c5).ownBlock = some g → g ≠ xb := fun g hg => by
        rcases hn5 g hg with h | h
        · exact (hog g h).2
        · omega
      have hO6 := hO5.keptX hw6.kept (fun g hg h => hne6 g hg h)
      have k6 := (((kdd.trans k3 (fun i _ h => h)).trans (Kept.new (X := (· = pb)) hw4) (fun i _ h => h)).trans kg (fun i h1 h2 => by have := hog _ h2; omega)).trans hw6.kept (fun i h1 h2 => by omega)
      have kY : Kept (fun i => i = xb ∨ sv.ownBlock = some i) w3 w6 := ((Kept.new (X := fun i => i = xb ∨ sv.ownBlock = some i) hw4).trans kg (fun i _ h => .inr h)).trans hw6.kept (fun i _ h => .inl h)
      have hX : ∀ i, (i < w.heap.size ∨ i = xb ∨ (Value.slice a5 (vs ++ [ub]).length c5).ownBlock = some i) → i < w.heap.size ∨ i = xb ∨ sv.ownBlock = some i ∨ w4.heap.size ≤ i := fun i h => by
        rcases h with h | h | h
        · exact .inl h
        · exact .inr (.inl h)
        · rcases hn5 i h with h | h
          · exact .inr (.inr (.inl h))
          · exact .inr (.inr (.inr h))
      have hV6 : PatsV (fun b => b < w.heap.size ∨ b = xb ∨ (Value.slice a5 (vs ++ [ub]).length c5).ownBlock = some b) w6 (vs ++ [ub]) (acc ++ [x]) := by
        refine PatsV.snoc (PatsV.mono kY (fun i h => ?_) (fun i h => ?_) hV3) (PatV.mono kY (fun i h => ?_) (fun i h => ?_) V3.top)
        · rcases h with h | h
          · exact .inl (.inr (.inl h))
          · exact .inl (.inr (.inr h))
        · rcases hX i h with h | h | h | h
          · exact .inl (.inl h)
          · exact .inl (.inr (.inl h))
          · exact .inl (.inr (.inr h))
          · exact .inr (by omega)
        · rcases h with h | h
          · exact .inl (by omega)
          · exact .inl (hob i h)
        · rcases hX i h with h | h | h | h
          · exact .inl (by omega)
          · exact .inl (by omega)
          · exact .inl (hob i h)
          · exact .inr (by omega)
      have hlen6 := P6.len
      have hlen1 := hP1.len
      have hnx : altLoop (rowW (againW d (unitP d))) m' (acc ++ [x]) l2 = altLoop (rowW (againW d (unitP d))) 1000 [x0] l1' := by rw [← hm2, hstep, pb_of hp]
      push_cast -dsimp
      exact ⟨⟨m', acc ++ [x], l2, _, vs ++ [ub], hnx, by omega, by rw [List.length_append, List.length_singleton]; omega, B6, hO6, hne6, hV6, P6, k6⟩, by rw [hlen6, hlen1]; exact hl2⟩
  · obtain rfl : w' = w2' := hww.symm
    have hfin : patP d l0 = .ok (altOf acc, l1) := by
      have hl : altLoop (rowW (againW d (unitP d))) 1000 [x0] l1' = .ok (acc, l1) := by
        rw [← hm2]
        obtain ⟨m', hmm⟩ : ∃ m', m = m' + 1 := ⟨m - 1, by omega⟩
        rw [hmm, altLoop]
        unfold pif
        rw [hst]
        rfl
      rw [hpat, pb_of e1, pb_of hl]
      rfl
    have hB2 := hBq
    have hO2 := hOq
    have hV2 := hVq
    have P2 := hP1
    have k2 := kq
    have hV2l := PatsV.len hV2
    have hO2s := hO2.slice
    obtain ⟨va, vc, hsv⟩ := hO2s
    rw [hsv] at hB2 hO2 hV2
    have d2 : w'.cell? ⟨xb, 2, none⟩ = some (.slice va vs.length vc) := hB2.cell rfl
    have hsl := hO2.sl
    have hzs := k2.size
    push_cast -dsimp [d2]
    refine ⟨fun h1 => ?_, fun h1 => ?_⟩
    · obtain ⟨u, hvs⟩ : ∃ u, vs = [u] := List.length_eq_one_iff.1 (by omega)
      obtain ⟨x, hac⟩ : ∃ x, acc = [x] := List.length_eq_one_iff.1 (by omega)
      rw [hvs] at hsl d2 hV2
      rw [hac] at hV2 hfin
      simp only [PatsV, and_true] at hV2
      obtain ⟨b5, o5, rfl, _, hcell⟩ := hsl.get (i := 0) (x := u) rfl
      have d5 : w'.cell? ⟨b5, o5, none⟩ = some (ptrP u) := by have := hcell 0 _ rfl; simpa using this
      simp only [List.length_cons, List.length_nil, Nat.zero_add] at d2
      push_cast -dsimp [d2, Nat.zero_mul, Nat.add_zero, d5]
      refine ⟨by omega, x, l1, hfin, PatV.mono (Kept.refl (fun _ => False) _) (fun _ h => h.elim) (fun i h => .inl h) hV2, P2, k2⟩
    · have hne : acc.length ≠ 1 := by omega
      have hro : altOf acc = .alt acc := by
        unfold altOf
        split
        · rename_i x
          exact absurd rfl hne
        · rfl
      refine ⟨.alt acc, l1, by rw [← hro]; exact hfin, ?_, P2, k2⟩
      simp only [PatV]
      exact ⟨_, _, vs, rfl, by omega, hB2, hsl.weaken (fun i h => by omega), PatsV.mono (Kept.refl (fun _ => False) _) (fun _ h => h.elim) (fun i h => .inl h) hV2⟩
end Go.Proofs.YtphebgkbkdjjoaaGreatDoor
end
section
/- The reference's patterns. -/
namespace Go.Proofs.YtphebgkbkdjjoaaGreatDoor
open Go.Vc Go.Proofs Go.RowKit Cae
set_option maxRecDepth 100000
set_option linter.unusedSimpArgs false
set_option linter.unusedVariables false
attribute [local irreducible] wpL callK valK unitK runK Fun Sl Vc.Own vc vcOps opK pureK
set_option maxHeartbeats 8000000
def encQ (a : Option Addr) : List Value := [.pointer a]
theorem encQ_one (b : Option Addr) : ∀ u ∈ encQ b, u.oneCell' = true := by
  intro u hu
  simp [encQ] at hu
  subst hu
  rfl
def atP (b : Nat) : Option Addr := some ⟨b, 0, none⟩
/-- A pattern of several, being built: its pointers; what they are, if nothing was wrong. -/
structure LVs (S xb : Nat) (code : Int) (w : World) (sv : Value) (us : List (Option Addr)) (acc : Option (List PatP)) : Prop where
  blk : Blk w xb 83 [.int .i64 code, .pointer none, sv, .int .i64 0, .int .i64 0]
  own : Vc.Own S 42 1 encQ w sv us
  ne : ∀ g, sv.ownBlock = some g → g ≠ xb
  acc : ∀ l, acc = some l → ∃ vs : List Nat, us = vs.map atP ∧ PatsV (fun b => b < S ∨ b = xb ∨ sv.ownBlock = some b) w vs l
  lo : S ≤ xb
def LV (S xb : Nat) (code : Int) (w : World) (us : List (Option Addr)) (acc : Option (List PatP)) : Prop := ∃ sv, LVs S xb code w sv us acc
/-- What changes is below, or new. -/
theorem LVs.kept {S xb : Nat} {code : Int} {w w' : World} {sv : Value} {us : List (Option Addr)} {acc : Option (List PatP)} {Y : Nat → Prop} (h : LVs S xb code w sv us acc) (hk : Kept Y w w') (hY : ∀ i, Y i → i < S ∨ w.heap.size ≤ i) : LVs S xb code w' sv us acc := by
  obtain ⟨hB, hO, hne, ha, hlo⟩ := h
  have hl := hB.lt
  refine ⟨hB.kept hk (fun hh => by have := hY _ hh; omega), hO.keptX hk (fun g hg hh => by have := hO.block g hg; have := hY _ hh; omega), hne, fun l he => ?_, hlo⟩
  obtain ⟨vs, e, hv⟩ := ha l he
  exact ⟨vs, e, PatsV.mono (X := fun b => (b < S ∨ b = xb ∨ sv.ownBlock = some b) ∨ w.heap.size ≤ b) hk (fun i hi => (hY i hi).imp .inl id) (fun i hi => .inl hi) (PatsV.top hv)⟩
theorem LV.kept {S xb : Nat} {code : Int} {w w' : World} {us : List (Option Addr)} {acc : Option (List PatP)} {Y : Nat → Prop} (h : LV S xb code w us acc) (hk : Kept Y w w') (hY : ∀ i, Y i → i < S ∨ w.heap.size ≤ i) : LV S xb code w' us acc := by
  obtain ⟨sv, h⟩ := h
  exact ⟨sv, h.kept hk hY⟩
theorem LV.below {S xb : Nat} {code : Int} {w w' : World} {us : List (Option Addr)} {acc : Option (List PatP)} (h : LV S xb code w us acc) (hb : Below w.heap.size w w') : LV S xb code w' us acc :=
  h.kept (Kept.of_below hb (X := fun i => w.heap.size ≤ i) (fun i h1 h2 => h1)) (fun i hi => .inr hi)
theorem LVs.cut {S xb : Nat} {code : Int} {w : World} {sv : Value} {us : List (Option Addr)} {acc acc' : Option (List PatP)} (h : LVs S xb code w sv us acc) (he : ∀ l, acc' = some l → acc = some l) : LVs S xb code w sv us acc' :=
  ⟨h.blk, h.own, h.ne, fun l hl => h.acc l (he l hl), h.lo⟩
theorem LV.cut {S xb : Nat} {code : Int} {w : World} {us : List (Option Addr)} {acc acc' : Option (List PatP)} (h : LV S xb code w us acc) (he : ∀ l, acc' = some l → acc = some l) : LV S xb code w us acc' := by
  obtain ⟨sv, h⟩ := h
  exact ⟨sv, h.cut he⟩
/-- One more: the pieces of an append. -/
theorem LV.push {S xb T : Nat} {code : Int} {w3 w4 w5 w6 : World} {us : List (Option Addr)} {acc : Option (List PatP)} {sv sv5 : Value} {u : Option Addr} {acc' : Option (List PatP)}
    (h : LVs S xb code w3 sv us acc)
    (hT : S ≤ T ∧ xb < T ∧ ∀ g, sv.ownBlock = some g → g < T) (hT3 : T ≤ w3.heap.size)
    (hw4 : New w3 w4 42 [.pointer u]) (hO5 : Vc.Own S 42 1 encQ w5 sv5 (us ++ [u])) (hg5 : Kept (fun j => sv.ownBlock = some j) w4 w5) (hn5 : ∀ g, sv5.ownBlock = some g → sv.ownBlock = some g ∨ w4.heap.size ≤ g)
    (hw6 : Put w5 w6 xb 83 [.int .i64 code, .pointer none, sv5, .int .i64 0, .int .i64 0])
    (hu : ∀ l', acc' = some l' → ∃ l x ub, acc = some l ∧ l' = l ++ [x] ∧ u = atP ub ∧ PatV (· < T) w3 (ptrP ub) x) : LV S xb code w6 (us ++ [u]) acc' := by
  obtain ⟨hB, hO, hne, ha, hlo⟩ := h
  have z4 := hw4.size
  have hne6 : ∀ g, sv5.ownBlock = some g → g ≠ xb := fun g hg => by
    rcases hn5 g hg with h | h
    · exact hne g h
    · omega
  have kY : Kept (fun i => i = xb ∨ sv.ownBlock = some i) w3 w6 := ((Kept.new (X := fun i => i = xb ∨ sv.ownBlock = some i) hw4).trans hg5 (fun i _ h => .inr h)).trans hw6.kept (fun i _ h => .inl h)
  refine ⟨sv5, hw6.blk, hO5.keptX hw6.kept (fun g hg h => hne6 g hg h), hne6, fun l' hl' => ?_, hlo⟩
  obtain ⟨l, x, ub, hl, rfl, rfl, hV⟩ := hu l' hl'
  obtain ⟨vs, e, hv⟩ := ha l hl
  refine ⟨vs ++ [ub], by rw [e, List.map_append]; rfl, ?_⟩
  have hX : ∀ i, (i < S ∨ i = xb ∨ sv5.ownBlock = some i) → i < S ∨ i = xb ∨ sv.ownBlock = some i ∨ w4.heap.size ≤ i := fun i h => by
    rcases h with h | h | h
    · exact .inl h
    · exact .inr (.inl h)
    · rcases hn5 i h with h | h
      · exact .inr (.inr (.inl h))
      · exact .inr (.inr (.inr h))
  refine PatsV.snoc (PatsV.mono kY (fun i h => ?_) (fun i h => ?_) (PatsV.top hv)) (PatV.mono kY (fun i h => ?_) (fun i h => ?_) hV.top)
  · rcases h with h | h
    · exact .inl (.inr (.inl h))
    · exact .inl (.inr (.inr h))
  · rcases hX i h with h | h | h | h
    · exact .inl (.inl h)
    · exact .inl (.inr (.inl h))
    · exact .inl (.inr (.inr h))
    · exact .inr (by omega)
  · rcases h with h | h
    · exact .inl (by omega)
    · exact .inl (hT.2.2 i h)
  · rcases hX i h with h | h | h | h
    · exact .inl (by omega)
    · exact .inl (by omega)
    · exact .inl (hT.2.2 i h)
    · exact .inr (by omega)
/-- Pointers, as they are read. -/
theorem Sl.ptrs {X : Nat → Prop} {w : World} {v : Value} {vs : List Nat} (h : Sl X 1 (En encQ) w v (vs.map atP)) : Sl X 1 (En encP) w v vs := by
  unfold Sl at h ⊢
  obtain ⟨a, c, rfl, hc, h⟩ := h
  refine ⟨a, c, by rw [List.length_map], by rw [List.length_map] at hc; exact hc, fun i x hx => ?_⟩
  obtain ⟨b, o, cs, ha, hb, hcs, hcell, hr⟩ := h i (atP x) (by rw [List.getElem?_map, hx]; rfl)
  exact ⟨b, o, cs, ha, hb, hcs, hcell, hr⟩
/-- What it is in the end, where it is of more than one, or of none. -/
theorem LV.cat {S xb : Nat} {w : World} {us : List (Option Addr)} {l : List PatP} (h : LV S xb 4 w us (some l)) : PatV (· < S) w (ptrP xb) (.cat l) := by
  obtain ⟨sv, hB, hO, hne, ha, hlo⟩ := h
  obtain ⟨vs, e, hv⟩ := ha l rfl
  subst e
  simp only [PatV]
  exact ⟨_, _, vs, rfl, by omega, hB, Sl.ptrs (hO.sl.weaken (fun i h => h)), PatsV.mono (Kept.refl (fun _ => False) _) (fun _ h => h.elim) (fun i h => .inl h) hv⟩
theorem LV.alt {S xb : Nat} {w : World} {us : List (Option Addr)} {l : List PatP} (h : LV S xb 5 w us (some l)) : PatV (· < S) w (ptrP xb) (.alt l) := by
  obtain ⟨sv, hB, hO, hne, ha, hlo⟩ := h
  obtain ⟨vs, e, hv⟩ := ha l rfl
  subst e
  simp only [PatV]
  exact ⟨_, _, vs, rfl, by omega, hB, Sl.ptrs (hO.sl.weaken (fun i h => h)), PatsV.mono (Kept.refl (fun _ => False) _) (fun _ h => h.elim) (fun i h => .inl h) hv⟩
theorem LV.one {S xb : Nat} {code : Int} {w : World} {u : Option Addr} {l : List PatP} (h : LV S xb code w [u] (some l)) : ∃ x ub, l = [x] ∧ u = atP ub ∧ PatV (· < S) w (ptrP ub) x := by
  obtain ⟨sv, hB, hO, hne, ha, hlo⟩ := h
  obtain ⟨vs, e, hv⟩ := ha l rfl
  match vs, e with
  | [ub], e =>
    have hl := PatsV.len hv
    obtain ⟨x, rfl⟩ : ∃ x, l = [x] := List.length_eq_one_iff.1 (by simpa using hl.symm)
    simp only [PatsV, and_true] at hv
    refine ⟨x, ub, rfl, by simpa using e, PatV.mono (Kept.refl (fun _ => False) _) (fun _ h => h.elim) (fun i h => .inl h) hv⟩
theorem LV.len {S xb : Nat} {code : Int} {w : World} {us : List (Option Addr)} {l : List PatP} (h : LV S xb code w us (some l)) : us.length = l.length := by
  obtain ⟨sv, hB, hO, hne, ha, hlo⟩ := h
  obtain ⟨vs, e, hv⟩ := ha l rfl
  rw [e, List.length_map, PatsV.len hv]
end Go.Proofs.YtphebgkbkdjjoaaGreatDoor
end
section
/- The reference's patterns: pat. -/
namespace Cae
/-- What is left to read behind a row. -/
def altCont (row : Pa PatP) (m : Nat) (acc : List PatP) : Pa PatP := pb (altLoop row m acc) fun ps => pr (altOf ps)
theorem altW_cont (row : Pa PatP) : altW row = pb row fun x => altCont row 1000 [x] := rfl
theorem altCont_stop {row : Pa PatP} {m : Nat} {acc : List PatP} {l : List Cae.Tok} (h : seeP [124] l = false) : altCont row (m + 1) acc l = .ok (altOf acc, l) := by
  unfold altCont
  rw [altLoop]
  unfold pb pif
  rw [h]
  rfl
theorem altCont_more {row : Pa PatP} {m : Nat} {acc : List PatP} {l r : List Cae.Tok} (h : seeP [124] l = true) (hp : popP l = .ok ((), r)) : altCont row (m + 1) acc l = pb row (fun x => altCont row m (acc ++ [x])) r := by
  have e : altLoop row (m + 1) acc l = pb row (fun x => altLoop row m (acc ++ [x])) r := by
    rw [altLoop]
    show (if seeP [124] l = true then pb popP (fun _ => pb row _) l else _) = _
    rw [if_pos h, pb_of hp]
  unfold altCont
  unfold pb at e ⊢
  rw [e]
  cases row r with
  | ok x => rfl
  | error e => rfl
end Cae
namespace Go.Proofs.YtphebgkbkdjjoaaGreatDoor
open Go.Vc Go.Proofs Go.RowKit Cae
set_option maxRecDepth 100000
set_option linter.unusedSimpArgs false
set_option linter.unusedVariables false
attribute [local irreducible] wpL callK valK unitK runK Fun Sl Vc.Own vc vcOps opK pureK
set_option maxHeartbeats 40000000
@[reducible] def szR {rb B : Nat} {w : World} {l : List Cae.Tok} {bad : Option (Nat × Nat)} (_ : RS rb B w l bad) : Nat := w.heap.size
theorem LVs.swap {S xb : Nat} {code : Int} {w : World} {sv : Value} {us : List (Option Addr)} {acc acc' : Option (List PatP)} (h : LVs S xb code w sv us acc) (h' : LV S xb code w us acc') : LVs S xb code w sv us acc' := by
  obtain ⟨sv', h'⟩ := h'
  have c1 : w.cell? ⟨xb, 2, none⟩ = some sv := h.blk.cell rfl
  have c2 : w.cell? ⟨xb, 2, none⟩ = some sv' := h'.blk.cell rfl
  have e : sv' = sv := Option.some.inj (c2.symm.trans c1)
  subst e
  exact h'
def moreN (v : Value) : Nat := match v with
  | .bool true => 1
  | _ => 0
/-- Between two rows. -/
def AltI (d : Nat) (S xb rb B : Nat) (w' : World) (more : Bool) (us : List (Option Addr)) (out : Except (Nat × Nat) (PatP × List Cae.Tok)) : Prop :=
  (∃ (m : Nat) (acc : List PatP) (l1 : List Cae.Tok), LV S xb 5 w' us (some acc) ∧ RS rb B w' l1 none ∧ (more = true → l1.length < m) ∧ acc.length + m ≤ 1001 ∧
    (if more = true then out = Cae.pb (rowW (againW d (unitP d))) (fun x => altCont (rowW (againW d (unitP d))) m (acc ++ [x])) l1 else out = .ok (altOf acc, l1))) ∨
  (∃ (e : Nat × Nat) (l1 : List Cae.Tok), LV S xb 5 w' us none ∧ out = .error e ∧ RS rb B w' l1 (some e) ∧ us.length ≤ 1001 + if more = true then 0 else 1)
/-- In a row. -/
def RowI (d : Nat) (S xb rb B : Nat) (w' : World) (us : List (Option Addr)) (R : Except (Nat × Nat) (List PatP × List Cae.Tok)) : Prop :=
  (∃ (m : Nat) (acc : List PatP) (l1 : List Cae.Tok), LV S xb 4 w' us (some acc) ∧ RS rb B w' l1 none ∧ l1.length < m ∧ acc.length + m ≤ 1000 ∧ rowLoop (againW d (unitP d)) m acc l1 = R) ∨
  (∃ (e : Nat × Nat) (l1 : List Cae.Tok), LV S xb 4 w' us none ∧ R = .error e ∧ RS rb B w' l1 (some e) ∧ us.length ≤ 1001)
/-- A row, read. -/
def RowJ (d : Nat) (S xb rb B : Nat) (w' : World) (us : List (Option Addr)) (R : Except (Nat × Nat) (List PatP × List Cae.Tok)) : Prop :=
  (∃ (acc : List PatP) (l1 : List Cae.Tok), LV S xb 4 w' us (some acc) ∧ RS rb B w' l1 none ∧ R = .ok (acc, l1)) ∨
  (∃ (e : Nat × Nat) (l1 : List Cae.Tok), LV S xb 4 w' us none ∧ R = .error e ∧ RS rb B w' l1 (some e) ∧ us.length ≤ 1001)
theorem rpat_succ (d : Nat) (hd : d ≠ 0) (hpart : PartR d) : PatR d := by
  intro n hn0 hn rb B w l0 bad h0
  have hle := h0.le
  have hlt := h0.lt
  have hgo : ∃ out, outP bad (patP d) l0 = out := ⟨_, rfl⟩
  obtain ⟨out, hout⟩ := hgo
  unfold Rc RRes
  rw [hout]
  have hgS : ∃ S, S = w.heap.size := ⟨_, rfl⟩
  obtain ⟨S, hS⟩ := hgS
  rw [← hS]
  refine fun_of_vc Tryz.func21 rfl (by kernel_rfl) [4] rfl ?_
  push_cast -dsimp (maxSteps := 4000000) [Tryz.ntmps21]
  refine ⟨fun h8 => ?_, fun h8 => ?_⟩
  · exact absurd (by omega) hd
  · have P1 := h0
    have k1 : Kept (· = rb) w w := Kept.refl _ _
    have hge : ∃ b1, b1 = bad := ⟨_, rfl⟩
    obtain ⟨b1, hb1⟩ := hge
    rw [← hb1] at P1
    have hst : (b1 = none → out = altW (rowW (againW d (unitP d))) l0) ∧ ∀ e, b1 = some e → out = .error e := ⟨fun h => by
      rw [← hout, ← hb1, h]
      show patP d l0 = _
      unfold patP patW
      rw [if_neg (by omega)], fun e h => by rw [← hout, ← hb1, h]; rfl⟩
    push_cast -dsimp
    have hgx : ∃ xb, xb = szR P1 := ⟨_, rfl⟩
    obtain ⟨xb, hxb⟩ := hgx
    refine boxK_of ?_
    intro w2 hw2
    have P2 := P1.below hw2.below
    have k2 := k1.trans (Kept.new (X := (· = rb)) hw2) (fun i _ h => h)
    have z2 := hw2.size
    have zk1 := k1.size
    have B2 : Blk w2 xb 83 [.int .i64 5, .pointer none, .slice none 0 0, .int .i64 0, .int .i64 0] := by rw [hxb]; exact hw2.blk
    have hSx : w.heap.size ≤ xb := by rw [hxb]; exact zk1
    unfold szR at hxb
    rw [← hxb]
    have LA : LV S xb 5 w2 [] (some []) := ⟨_, B2, Vc.Own.nil (enc := encQ) _ _ (fun _ => rfl) _, fun g hg => (by cases hg), fun l hl => (by cases hl; exact ⟨[], rfl, by simp only [PatsV]⟩), by omega⟩
    have hI0 : AltI d S xb rb B w2 true [] out := by
      unfold AltI
      cases hb : b1 with
      | none =>
        rw [hb] at P2
        refine .inl ⟨1000, [], l0, LA, P2, fun _ => by have := P2.tl.len; omega, by simp, ?_⟩
        rw [if_pos rfl, hst.1 hb, altW_cont]
        rfl
      | some e =>
        rw [hb] at P2
        exact .inr ⟨e, l0, LA.cut (fun l h => by cases h), hst.2 e hb, P2, by simp⟩
    push_cast -dsimp
    refine wpL_loop [6, 7, 14, 15, 16, 17, 18, 19, 20, 21, 22, 23, 24, 25, 26, 27, 28, 29, 30, 31, 32, 33, 34, 35, 36, 37, 38, 39, 40, 41, 42, 43, 44, 45, 46, 47, 48, 49, 50, 51, 52, 53, 54, 55, 56, 57, 58, 59, 60, 61, 62, 63, 64, 65, 66, 67, 68, 69, 70, 71, 72, 73, 74, 75, 76, 77, 78, 79, 80] (fun z w' => ∃ (more : Bool) (us : List (Option Addr)), z 6 = .bool more ∧ Kept (· = rb) w w' ∧ AltI d S xb rb B w' more us out) (fun z w' => 2 * muR rb w' + moreN (z 6)) ?_ ?_
    · exact ⟨true, [], rfl, k2, hI0⟩
    · rintro z w3 ⟨more, us, hz6, k3, hI⟩
      cases more with
      | false =>
        have hLL : ∃ acc, LV S xb 5 w3 us acc := by
          rcases hI with ⟨_, acc, _, h, _⟩ | ⟨_, _, h, _⟩
          · exact ⟨_, h⟩
          · exact ⟨_, h⟩
        obtain ⟨accX, svX, hLX⟩ := hLL
        have hsh := hLX.own.slice
        obtain ⟨xa, xc, rfl⟩ := hsh
        have dX : w3.cell? ⟨xb, 2, none⟩ = some (.slice xa us.length xc) := hLX.blk.cell rfl
        push_cast -dsimp [hz6, dX]
        refine ⟨fun h1 => ?_, fun h1 => ?_⟩
        · have hus : ∃ u, us = [u] := List.length_eq_one_iff.1 (by omega)
          obtain ⟨u, rfl⟩ := hus
          have hg := hLX.own.sl.get (i := 0) (x := u) rfl
          obtain ⟨b, o, rfl, _, hcell⟩ := hg
          have k0 : w3.cell? ⟨b, o, none⟩ = some (.pointer u) := by simpa [encQ] using hcell 0 _ rfl
          simp only [List.length_cons, List.length_nil, Nat.zero_add] at dX
          push_cast -dsimp [dX, k0, Nat.zero_mul, Nat.add_zero]
          refine ⟨k3, ?_⟩
          rcases hI with ⟨m, acc, l1, hL, P3, _, _, ho⟩ | ⟨e, l1, hL, ho, P3, _⟩
          · have h1 := LV.one hL
            obtain ⟨x, ub, rfl, rfl, hV⟩ := h1
            rw [if_neg (by decide)] at ho
            rw [ho]
            exact ⟨hV, P3⟩
          · rw [ho]
            exact ⟨⟨_, rfl⟩, _, P3⟩
        · refine ⟨k3, ?_⟩
          rcases hI with ⟨m, acc, l1, hL, P3, _, _, ho⟩ | ⟨e, l1, hL, ho, P3, _⟩
          · have hlen := LV.len hL
            rw [if_neg (by decide)] at ho
            have hro : altOf acc = .alt acc := by
              unfold altOf
              split
              · rename_i x
                simp at hlen
                omega
              · rfl
            rw [ho, hro]
            exact ⟨LV.alt hL, P3⟩
          · rw [ho]
            exact ⟨⟨_, rfl⟩, _, P3⟩
      | true =>
        have zx3 := k3.size
        have hlrb := P2.lt
        have hleB := P2.le
        push_cast -dsimp [hz6]
        refine boxK_of ?_
        intro w4 hw4
        have z4 := hw4.size
        have hgy : ∃ yb, yb = w3.heap.size := ⟨_, rfl⟩
        obtain ⟨yb, hyb⟩ := hgy
        have hgS : ∃ S1, S1 = w3.heap.size := ⟨_, rfl⟩
        obtain ⟨S1, hS1⟩ := hgS
        have B4 : Blk w4 yb 83 [.int .i64 4, .pointer none, .slice none 0 0, .int .i64 0, .int .i64 0] := by rw [hyb]; exact hw4.blk
        rw [← hyb]
        have k4 : Kept (· = rb) w3 w4 := Kept.new hw4
        have L4 : LV S1 yb 4 w4 [] (some []) := ⟨_, B4, Vc.Own.nil (enc := encQ) _ _ (fun _ => rfl) _, fun g hg => (by cases hg), fun l hl => (by cases hl; exact ⟨[], rfl, by simp only [PatsV]⟩), by omega⟩
        have hR : ∃ R, RowI d S1 yb rb B w4 [] R ∧ B ≤ w3.heap.size ∧ rb < B ∧ (∀ racc l2, R = .ok (racc, l2) → ∃ m acc, LV S xb 5 w3 us (some acc) ∧ l2.length < m ∧ acc.length + m ≤ 1001 ∧ out = altCont (rowW (againW d (unitP d))) m (acc ++ [rowOf racc]) l2 ∧ l2.length + 1 ≤ muR rb w3) ∧
            (∀ e, R = .error e → LV S xb 5 w3 us none ∧ out = .error e ∧ us.length ≤ 1001) := by
          rcases hI with ⟨m, acc, l1, hL, P3, hm, hacc, ho⟩ | ⟨e, l1, hL, ho, P3, hul⟩
          · have hm := hm rfl
            rw [if_pos rfl] at ho
            refine ⟨rowLoop (againW d (unitP d)) 1000 [] l1, .inl ⟨1000, [], l1, L4, P3.below hw4.below, by have := P3.tl.len; omega, by simp, rfl⟩, P3.le, P3.lt, fun racc l2 h => ?_, fun e h => ?_⟩
            · have hrw : rowW (againW d (unitP d)) l1 = .ok (rowOf racc, l2) := by unfold rowW; rw [pb_of h]; rfl
              have := row_le hrw
              exact ⟨m, acc, hL, by omega, hacc, by rw [ho, pb_of hrw], by rw [P3.mu]; omega⟩
            · have := LV.len hL
              refine ⟨hL.cut (fun l h => by cases h), ?_, by omega⟩
              rw [ho]
              unfold rowW Cae.pb
              rw [h]
          · exact ⟨.error e, .inr ⟨e, l1, L4.cut (fun l h => by cases h), rfl, P3.below hw4.below, by simp⟩, P3.le, P3.lt, fun _ _ h => (by cases h), fun e' h => (by cases h; exact ⟨hL, ho, by simpa using hul⟩)⟩
        obtain ⟨R, hRI, hBz, hrB, hRo, hRe'⟩ := hR
        push_cast -dsimp
        refine wpL_cutB [19, 20, 21, 22, 23, 24, 25, 26, 27, 28, 29, 30, 31, 32, 33, 34, 35, 36, 37, 38, 39, 40, 41, 42, 43, 44, 45, 46, 47, 48, 49, 50, 51, 52, 53, 54, 55, 56, 57, 58] (fun z wx => ∃ us2, RowJ d S1 yb rb B wx us2 R ∧ Kept (· = rb) w3 wx) ?_ ?_
        · refine wpL_loopW [19, 20, 21, 22, 23, 24, 25, 26, 27, 28, 29, 30, 31, 32, 33, 34, 35, 36, 37, 38, 39, 40, 41, 42, 43, 44, 45, 46, 47, 48, 49, 50, 51, 52, 53, 54, 55, 56, 57, 58] (fun z wx => ∃ us2, RowI d S1 yb rb B wx us2 R ∧ Kept (· = rb) w3 wx) (fun z wx => muR rb wx) ?_ ?_
          · exact ⟨[], hRI, k4⟩
          · rintro z2 w5 ⟨us2, hI2, k5⟩
            have z5 := k5.size
            rcases hI2 with ⟨m2, racc, l2, hL2, P5, hm2, hracc, hRe⟩ | ⟨e, l2, hL2, hRe, P5, hul2⟩
            · have hmu2 := P5.mu
              have hcons := P5.cons
              obtain ⟨t2, r2, el2⟩ := hcons
              have hstP : startP l2 = (t2.kind == 3 || namedP l2 || seeP [46] l2 || seeP [36] l2 || seeP [40] l2) := by unfold startP isKind; rw [el2]; rfl
              have hus2 := LV.len hL2
              refine wpL_seqW (wpL_seqC [19, 20, 21, 22, 23, 24, 25, 26, 27, 28, 29, 30, 31, 32, 33, 34, 35, 36, 37, 38, 39, 40, 41, 42, 43, 44, 45, 46] (fun z wx => z 46 = .bool (startP l2) ∧ RS rb B wx l2 none ∧ Below w5.heap.size w5 wx) ?_ ?_)
              · push_cast -dsimp
                refine callK_of (rok_c P5) ?_
                rintro _ w6 ⟨rfl, hb6⟩
                have P6 := P5.below hb6
                have P6' := P6
                rw [el2] at P6'
                have hhd6 := P6'.hd
                obtain ⟨b6, o6, c6, hB6, hc6, hne6, c60, _⟩ := hhd6
                have cb6 : w6.cell? ⟨rb, 0, none⟩ = some (.slice (some ⟨b6, o6, none⟩) (r2.length + 1) c6) := hB6.cell rfl
                push_cast -dsimp [cb6, c60]
                refine ⟨by omega, fun h3 => ?_, fun h3 => ?_⟩
                · have hk3 : (t2.kind == 3) = false := by
                    have : t2.kind ≠ 3 := fun e => h3 (by omega)
                    simpa using this
                  rw [hk3, Bool.false_or] at hstP
                  refine callK_of (risName_c P6) ?_
                  rintro _ w7 ⟨rfl, hb7⟩
                  have P7 := P6.below hb7
                  have k7 := hb6.trans (hb7.mono hb6.size)
                  cases hnm : namedP l2 with
                  | true =>
                    have hst2 : startP l2 = true := by rw [hstP, hnm]; rfl
                    push_cast -dsimp
                    exact ⟨by rw [hst2], P7, k7⟩
                  | false =>
                    rw [hnm, Bool.false_or] at hstP
                    push_cast -dsimp
                    refine callK_of (rsee_c P7 [46]) ?_
                    rintro _ w8 ⟨rfl, hb8⟩
                    rw [okB_none, Bool.true_and]
                    have P8 := P7.below hb8
                    have k8 := k7.trans (hb8.mono k7.size)
                    cases hs1 : seeP [46] l2 with
                    | true =>
                      have hst2 : startP l2 = true := by rw [hstP, hs1]; rfl
                      push_cast -dsimp
                      exact ⟨by rw [hst2], P8, k8⟩
                    | false =>
                      rw [hs1, Bool.false_or] at hstP
                      push_cast -dsimp
                      refine callK_of (rsee_c P8 [36]) ?_
                      rintro _ wa ⟨rfl, hba⟩
                      rw [okB_none, Bool.true_and]
                      have Pa := P8.below hba
                      have ka := k8.trans (hba.mono k8.size)
                      cases hs2 : seeP [36] l2 with
                      | true =>
                        have hst2 : startP l2 = true := by rw [hstP, hs2]; rfl
                        push_cast -dsimp
                        exact ⟨by rw [hst2], Pa, ka⟩
                      | false =>
                        rw [hs2, Bool.false_or] at hstP
                        push_cast -dsimp
                        refine callK_of (rsee_c Pa [40]) ?_
                        rintro _ wb ⟨rfl, hbb⟩
                        rw [okB_none, Bool.true_and, ← hstP]
                        push_cast -dsimp
                        exact ⟨Pa.below hbb, ka.trans (hbb.mono ka.size)⟩
                · have hst2 : startP l2 = true := by
                    have : t2.kind = 3 := by omega
                    rw [hstP, this]; rfl
                  exact ⟨by rw [hst2], P6, hb6⟩
              rintro z3 w6 ⟨h46, P6, hb6⟩
              have L6 := hL2.below hb6
              have k6 := k5.trans (Kept.rb P5.le P5.lt hb6) (fun i _ h => h)
              refine wpL_of ?_
              cases hst2 : startP l2 with
              | true =>
                rw [hst2] at h46
                push_cast -dsimp [h46]
                refine wpL_of ?_
                push_cast -dsimp
                -- a part: w6 the world, P6 its reader, L6 the row there, k6 Kept; hst: startP
                have hm1 : ∃ m2', m2 = m2' + 1 := ⟨m2 - 1, by omega⟩
                obtain ⟨m2', hmm⟩ := hm1
                have hstep : R = Cae.pb (againW d (unitP d)) (fun x => rowLoop (againW d (unitP d)) m2' (racc ++ [x])) l2 := by
                  rw [← hRe, hmm, rowLoop]
                  unfold pif
                  rw [hst2, if_pos rfl]
                have hLR := L6
                obtain ⟨sv, hL⟩ := hLR
                have hLd := hL.kept (Kept.refl (fun _ => False) w6).drew (fun _ h => h.elim)
                have Pd := RS.below P6 (below_drewR w6)
                have kd4 := Kept.trans k6 (Kept.rb (P6).le (P6).lt (below_drewR w6)) (fun i _ h => h)
                have zd : (w6).drew.heap.size = (w6).heap.size := rfl
                have d2 : (w6).drew.cell? ⟨yb, 2, none⟩ = some sv := hLd.blk.cell rfl
                refine wpL_last (fun w' => Blk w' yb 83 [.int .i64 4, .pointer none, sv, .int .i64 0, .int .i64 0]) mixed (by kernel_rfl) (by simp) hLd.blk ?_
                push_cast -dsimp [d2]
                refine ⟨fun w'' h => by rw [Blk.cell h (o := 2) rfl]; exact rfl, ?_⟩
                refine callK_of (hpart n hn0 hn rb B (w6).drew l2 none Pd) ?_
                rintro v9 w9 ⟨k9, hO9⟩
                rw [show outP none (againW d (unitP d)) l2 = againW d (unitP d) l2 from rfl] at hO9
                have z9 := k9.size
                have hlr := Pd.lt
                have L9 := hLd.kept k9 (fun i h => .inl (by omega))
                have hv9 : ∃ u, v9 = .pointer u := by
                  cases hp : againW d (unitP d) l2 with
                  | ok q =>
                    rw [hp] at hO9
                    obtain ⟨ub, e, _⟩ := hO9.1.ptr
                    exact ⟨_, e⟩
                  | error e =>
                    rw [hp] at hO9
                    exact hO9.1
                obtain ⟨u, rfl⟩ := hv9
                have B9 := L9.blk
                have k9' := kd4.trans k9 (fun i _ h => h)
                refine ⟨B9, ?_⟩
                push_cast -dsimp
                refine rowK elI_81 rfl rfl (by omega) ?_
                intro w10 hw10
                have B10 := B9.below hw10.below B9.lt
                have z10 := hw10.size
                refine ⟨B10, ?_⟩
                push_cast -dsimp
                refine appendK2 (base := S1) [u] (enc := encQ) elI_81 (L9.own.new hw10) (by rfl) (fun j y hy => by simpa [encQ] using hw10.cell hy) encQ_one (by simp only [List.length_cons, List.length_nil]; omega) (by have := hL.lo; have := B9.lt; omega) ?_
                intro sv5 w11 hO11 hg11 hn11
                have kg : Kept (fun j => sv.ownBlock = some j) w10 w11 := Kept.grown hg11 (fun _ h => h)
                have B11 := B10.kept kg (fun h => L9.ne _ h rfl)
                have z11 := kg.size
                refine ⟨B11, ?_⟩
                have hsh := hO11.slice
                obtain ⟨a5, c5, rfl⟩ := hsh
                push_cast -dsimp
                refine storeK_of B11 (by simp) rfl ?_
                intro w12 hw12
                have hog : ∀ g, sv.ownBlock = some g → S1 ≤ g ∧ g < (w6).heap.size := fun g hg => hL.own.block g hg
                have hlo1 := hL.lo
                have hyl := hL.blk.lt
                have hLp : ∀ acc', (∀ l', acc' = some l' → ∃ l x ub, some racc = some l ∧ l' = l ++ [x] ∧ u = atP ub ∧ PatV (· < (w6).heap.size) w9 (ptrP ub) x) → LV S1 yb 4 w12 (us2 ++ [u]) acc' := fun acc' hu => LV.push L9 ⟨by omega, hyl, fun g hg => (hog g hg).2⟩ (by omega) hw10 hO11 kg hn11 hw12 hu
                have k12 : Kept (· = rb) w3 w12 := ((k9'.trans (Kept.new (X := (· = rb)) hw10) (fun i _ h => h)).trans kg (fun i h1 h2 => by have := hog _ h2; omega)).trans hw12.kept (fun i h1 h2 => by omega)
                have kP : Kept (fun i => B ≤ i) w9 w12 := ((Kept.new (X := fun i => B ≤ i) hw10).trans kg (fun i h1 h2 => by have := (hog _ h2).1; omega)).trans hw12.kept (fun i h1 h2 => by omega)
                cases hp : againW d (unitP d) l2 with
                | ok q =>
                  obtain ⟨x, l3⟩ := q
                  rw [hp] at hO9
                  obtain ⟨V9, P9⟩ := hO9
                  have P12 := P9.keptB kP (fun i h => h)
                  have hmu12 := P12.mu
                  have hl3 : l3.length < l2.length := again_less hp
                  have hp9 := V9.ptr
                  obtain ⟨ub, eub, _⟩ := hp9
                  cases eub
                  push_cast -dsimp
                  refine ⟨⟨us2 ++ [atP ub], .inl ⟨m2', racc ++ [x], l3, hLp _ (fun l' h => by cases h; exact ⟨racc, x, ub, rfl, rfl, rfl, V9⟩), P12, by omega, by rw [List.length_append, List.length_singleton]; omega, by rw [hstep, pb_of hp]⟩, k12⟩, by rw [hmu2, hmu12]; omega⟩
                | error e =>
                  rw [hp] at hO9
                  obtain ⟨_, l3, P9⟩ := hO9
                  have P12 := P9.keptB kP (fun i h => h)
                  have hmu12 := P12.mu0
                  have hll := LV.len ⟨sv, hL⟩
                  push_cast -dsimp
                  refine ⟨⟨us2 ++ [u], .inr ⟨e, l3, hLp none (fun l' h => by cases h), ?_, P12, by rw [List.length_append, List.length_singleton]; omega⟩, k12⟩, by rw [hmu2, hmu12]; omega⟩
                  rw [hstep]
                  unfold Cae.pb
                  rw [hp]
              | false =>
                rw [hst2] at h46
                have hRf : R = .ok (racc, l2) := by
                  rw [← hRe]
                  obtain ⟨m2', rfl⟩ : ∃ m2', m2 = m2' + 1 := ⟨m2 - 1, by omega⟩
                  rw [rowLoop]
                  unfold pif
                  rw [hst2]
                  rfl
                push_cast -dsimp [h46]
                exact ⟨us2, .inl ⟨racc, l2, L6, P6, hRf⟩, k6⟩
            · refine wpL_of ?_
              push_cast -dsimp
              refine callK_of (rok_c P5) ?_
              rintro _ w6 ⟨rfl, hb6⟩
              push_cast -dsimp
              exact ⟨us2, .inr ⟨e, l2, hL2.below hb6, hRe, P5.below hb6, hul2⟩, k5.trans (Kept.rb P5.le P5.lt hb6) (fun i _ h => h)⟩
        · rintro z2 w5 ⟨us2, hJ, k5⟩
          have z5 := k5.size
          have hLL : ∃ acc, LV S1 yb 4 w5 us2 acc := by
            rcases hJ with ⟨acc, _, h, _⟩ | ⟨_, _, h, _⟩
            · exact ⟨_, h⟩
            · exact ⟨_, h⟩
          obtain ⟨accY, svY, hLY⟩ := hLL
          have hsh := hLY.own.slice
          obtain ⟨ya, yc, rfl⟩ := hsh
          have dY : w5.cell? ⟨yb, 2, none⟩ = some (.slice ya us2.length yc) := hLY.blk.cell rfl
          have hLA : (∃ acc, LV S xb 5 w3 us acc) ∧ us.length ≤ 1001 := by
            rcases hI with ⟨m, acc, _, h, _, _, h2, _⟩ | ⟨_, _, h, _, _, h2⟩
            · exact ⟨⟨_, h⟩, by have := LV.len h; omega⟩
            · exact ⟨⟨_, h⟩, by simpa using h2⟩
          obtain ⟨⟨accX, svX, hLX3⟩, husl⟩ := hLA
          have hLX := hLX3.kept k5 (fun i h => .inl (by omega))
          have hsh := hLX.own.slice
          obtain ⟨xa, xc, rfl⟩ := hsh
          have dX : w5.cell? ⟨xb, 2, none⟩ = some (.slice xa us.length xc) := hLX.blk.cell rfl
          have hxl := hLX3.blk.lt
          have hog : ∀ g, (Value.slice xa us.length xc).ownBlock = some g → S ≤ g ∧ g < w3.heap.size := fun g hg => hLX3.own.block g hg
          push_cast -dsimp [dY]
          refine ⟨fun h1 => ?_, fun h1 => ?_⟩
          · have hus : ∃ u, us2 = [u] := List.length_eq_one_iff.1 (by omega)
            obtain ⟨u, rfl⟩ := hus
            have hg := hLY.own.sl.get (i := 0) (x := u) rfl
            obtain ⟨b, o, rfl, _, hcell⟩ := hg
            have k0 : w5.cell? ⟨b, o, none⟩ = some (.pointer u) := by simpa [encQ] using hcell 0 _ rfl
            simp only [List.length_cons, List.length_nil, Nat.zero_add] at dY
            have hQ : ∀ (racc acc : List PatP), LV S1 yb 4 w5 [u] (some racc) → ∃ l x ub, some acc = some l ∧ acc ++ [rowOf racc] = l ++ [x] ∧ u = atP ub ∧ PatV (· < w3.heap.size) w5 (ptrP ub) x := fun racc acc h1 => by
              have h4 := LV.one h1
              obtain ⟨x, ub, rfl, rfl, hV⟩ := h4
              exact ⟨acc, x, ub, rfl, rfl, rfl, by rw [← hS1]; exact hV⟩
            push_cast -dsimp [dY, k0, dX, Nat.zero_mul, Nat.add_zero]
            -- u the pointer of the row; hQ: what it is
            refine rowK elI_81 rfl rfl (by omega) ?_
            intro w10 hw10
            have BX10 := hLX.blk.below hw10.below hLX.blk.lt
            have z10 := hw10.size
            push_cast -dsimp
            refine appendK2 (base := S) [u] (enc := encQ) elI_81 (hLX.own.new hw10) (by rfl) (fun j y hy => by simpa [encQ] using hw10.cell hy) encQ_one (by simp only [List.length_cons, List.length_nil]; omega) (by omega) ?_
            intro sv5 w11 hO11 hg11 hn11
            have kg : Kept (fun j => (Value.slice xa us.length xc).ownBlock = some j) w10 w11 := Kept.grown hg11 (fun _ h => h)
            have BX11 := BX10.kept kg (fun h => hLX.ne _ h rfl)
            have z11 := kg.size
            have hsh := hO11.slice
            obtain ⟨a5, c5, rfl⟩ := hsh
            push_cast -dsimp
            refine storeK_of BX11 (by simp) rfl ?_
            intro w12 hw12
            have hLp : ∀ acc0 acc', LV S xb 5 w3 us acc0 → (∀ l', acc' = some l' → ∃ l x ub, acc0 = some l ∧ l' = l ++ [x] ∧ u = atP ub ∧ PatV (· < w3.heap.size) w5 (ptrP ub) x) → LV S xb 5 w12 (us ++ [u]) acc' := fun acc0 acc' h0 hu => LV.push (hLX.swap (h0.kept k5 (fun i h => .inl (by omega)))) ⟨by omega, hxl, fun g hg => (hog g hg).2⟩ (by omega) hw10 hO11 kg hn11 hw12 hu
            have k12 : Kept (· = rb) w w12 := (((k3.trans k5 (fun i _ h => h)).trans (Kept.new (X := (· = rb)) hw10) (fun i _ h => h)).trans kg (fun i h1 h2 => by have := hog _ h2; omega)).trans hw12.kept (fun i h1 h2 => by omega)
            have kP : Kept (fun i => B ≤ i) w5 w12 := ((Kept.new (X := fun i => B ≤ i) hw10).trans kg (fun i h1 h2 => by have := (hog _ h2).1; omega)).trans hw12.kept (fun i h1 h2 => by omega)
            have zc := k12.size
            rcases hJ with ⟨racc, l2, hLJ, P5, hRe⟩ | ⟨e, l2, hLJ, hRe, P5, hul2⟩
            · have hr := hRo racc l2 hRe
              obtain ⟨m, acc, hLA, hm, hacc, ho, hmu3⟩ := hr
              have hm1 : ∃ m', m = m' + 1 := ⟨m - 1, by omega⟩
              obtain ⟨m', rfl⟩ := hm1
              have P12 := P5.keptB kP (fun i h => h)
              have hLn : LV S xb 5 w12 (us ++ [u]) (some (acc ++ [rowOf racc])) := hLp _ _ hLA (fun l' h => by cases h; exact hQ racc acc hLJ)
              have hll := LV.len hLn
              rw [List.length_append, List.length_append, List.length_singleton, List.length_singleton] at hll
              push_cast -dsimp
              refine callK_of (rtake_c P12 [124]) ?_
              rintro _ w13 hT
              rcases hT with ⟨_, hs1, rfl, t1, r1, el1, h51, P13, kt⟩ | ⟨hs1, rfl, P13, b13⟩
              · have hpop : popP l2 = .ok ((), r1) := by rw [el1]; exact popP_cons h51
                have hl1 : l2.length = r1.length + 1 := by rw [el1, List.length_cons]
                have hmu13 := P13.mu
                push_cast -dsimp
                refine ⟨⟨true, us ++ [u], rfl, k12.trans kt (fun i _ h => h), .inl ⟨m', acc ++ [rowOf racc], r1, hLn.kept kt (fun i h => by omega), P13, fun _ => by omega, by rw [List.length_append, List.length_singleton]; omega, ?_⟩⟩, ?_⟩
                · rw [if_pos rfl, ho, altCont_more hs1 hpop]
                · simp only [moreN, hz6]; omega
              · rw [okB_none, Bool.true_and] at hs1
                have hmu13 := P13.mu
                push_cast -dsimp
                refine ⟨⟨false, us ++ [u], rfl, k12.trans (Kept.rb P12.le P12.lt b13) (fun i _ h => h), .inl ⟨m', acc ++ [rowOf racc], l2, hLn.below b13, P13, (fun h => by cases h), by rw [List.length_append, List.length_singleton]; omega, ?_⟩⟩, ?_⟩
                · rw [if_neg (by decide), ho, altCont_stop hs1]
                · simp only [moreN, hz6]; omega
            · have hr := hRe' e hRe
              obtain ⟨hLA, ho, hul⟩ := hr
              have P12 := P5.keptB kP (fun i h => h)
              have hLn : LV S xb 5 w12 (us ++ [u]) none := hLp _ none hLA (fun l' h => by cases h)
              push_cast -dsimp
              refine callK_of (rtake_c P12 [124]) ?_
              rintro _ w13 hT
              rcases hT with ⟨hbad, _⟩ | ⟨hs1, rfl, P13, b13⟩
              · cases hbad
              · have hmu13 := P13.mu0
                push_cast -dsimp
                refine ⟨⟨false, us ++ [u], rfl, k12.trans (Kept.rb P12.le P12.lt b13) (fun i _ h => h), .inr ⟨e, l2, hLn.below b13, ho, P13, by rw [List.length_append, List.length_singleton, if_neg (by decide)]; omega⟩⟩, ?_⟩
                simp only [moreN, hz6]; omega
          · have hQ : ∀ (racc acc : List PatP), LV S1 yb 4 w5 us2 (some racc) → ∃ l x ub, some acc = some l ∧ acc ++ [rowOf racc] = l ++ [x] ∧ atP yb = atP ub ∧ PatV (· < w3.heap.size) w5 (ptrP ub) x := fun racc acc h1 => by
              have hlen := LV.len h1
              have hro : rowOf racc = .cat racc := by
                unfold rowOf
                split
                · rename_i x
                  simp at hlen
                  omega
                · rfl
              exact ⟨acc, .cat racc, yb, rfl, by rw [hro], rfl, by rw [← hS1]; exact LV.cat h1⟩
            push_cast -dsimp [dX]
            -- (atP yb) the pointer of the row; hQ: what it is
            refine rowK elI_81 rfl rfl (by omega) ?_
            intro w10 hw10
            have BX10 := hLX.blk.below hw10.below hLX.blk.lt
            have z10 := hw10.size
            push_cast -dsimp
            refine appendK2 (base := S) [(atP yb)] (enc := encQ) elI_81 (hLX.own.new hw10) (by rfl) (fun j y hy => by simpa [encQ] using hw10.cell hy) encQ_one (by simp only [List.length_cons, List.length_nil]; omega) (by omega) ?_
            intro sv5 w11 hO11 hg11 hn11
            have kg : Kept (fun j => (Value.slice xa us.length xc).ownBlock = some j) w10 w11 := Kept.grown hg11 (fun _ h => h)
            have BX11 := BX10.kept kg (fun h => hLX.ne _ h rfl)
            have z11 := kg.size
            have hsh := hO11.slice
            obtain ⟨a5, c5, rfl⟩ := hsh
            push_cast -dsimp
            refine storeK_of BX11 (by simp) rfl ?_
            intro w12 hw12
            have hLp : ∀ acc0 acc', LV S xb 5 w3 us acc0 → (∀ l', acc' = some l' → ∃ l x ub, acc0 = some l ∧ l' = l ++ [x] ∧ (atP yb) = atP ub ∧ PatV (· < w3.heap.size) w5 (ptrP ub) x) → LV S xb 5 w12 (us ++ [(atP yb)]) acc' := fun acc0 acc' h0 hu => LV.push (hLX.swap (h0.kept k5 (fun i h => .inl (by omega)))) ⟨by omega, hxl, fun g hg => (hog g hg).2⟩ (by omega) hw10 hO11 kg hn11 hw12 hu
            have k12 : Kept (· = rb) w w12 := (((k3.trans k5 (fun i _ h => h)).trans (Kept.new (X := (· = rb)) hw10) (fun i _ h => h)).trans kg (fun i h1 h2 => by have := hog _ h2; omega)).trans hw12.kept (fun i h1 h2 => by omega)
            have kP : Kept (fun i => B ≤ i) w5 w12 := ((Kept.new (X := fun i => B ≤ i) hw10).trans kg (fun i h1 h2 => by have := (hog _ h2).1; omega)).trans hw12.kept (fun i h1 h2 => by omega)
            have zc := k12.size
            rcases hJ with ⟨racc, l2, hLJ, P5, hRe⟩ | ⟨e, l2, hLJ, hRe, P5, hul2⟩
            · have hr := hRo racc l2 hRe
              obtain ⟨m, acc, hLA, hm, hacc, ho, hmu3⟩ := hr
              have hm1 : ∃ m', m = m' + 1 := ⟨m - 1, by omega⟩
              obtain ⟨m', rfl⟩ := hm1
              have P12 := P5.keptB kP (fun i h => h)
              have hLn : LV S xb 5 w12 (us ++ [(atP yb)]) (some (acc ++ [rowOf racc])) := hLp _ _ hLA (fun l' h => by cases h; exact hQ racc acc hLJ)
              have hll := LV.len hLn
              rw [List.length_append, List.length_append, List.length_singleton, List.length_singleton] at hll
              push_cast -dsimp
              refine callK_of (rtake_c P12 [124]) ?_
              rintro _ w13 hT
              rcases hT with ⟨_, hs1, rfl, t1, r1, el1, h51, P13, kt⟩ | ⟨hs1, rfl, P13, b13⟩
              · have hpop : popP l2 = .ok ((), r1) := by rw [el1]; exact popP_cons h51
                have hl1 : l2.length = r1.length + 1 := by rw [el1, List.length_cons]
                have hmu13 := P13.mu
                push_cast -dsimp
                refine ⟨⟨true, us ++ [(atP yb)], rfl, k12.trans kt (fun i _ h => h), .inl ⟨m', acc ++ [rowOf racc], r1, hLn.kept kt (fun i h => by omega), P13, fun _ => by omega, by rw [List.length_append, List.length_singleton]; omega, ?_⟩⟩, ?_⟩
                · rw [if_pos rfl, ho, altCont_more hs1 hpop]
                · simp only [moreN, hz6]; omega
              · rw [okB_none, Bool.true_and] at hs1
                have hmu13 := P13.mu
                push_cast -dsimp
                refine ⟨⟨false, us ++ [(atP yb)], rfl, k12.trans (Kept.rb P12.le P12.lt b13) (fun i _ h => h), .inl ⟨m', acc ++ [rowOf racc], l2, hLn.below b13, P13, (fun h => by cases h), by rw [List.length_append, List.length_singleton]; omega, ?_⟩⟩, ?_⟩
                · rw [if_neg (by decide), ho, altCont_stop hs1]
                · simp only [moreN, hz6]; omega
            · have hr := hRe' e hRe
              obtain ⟨hLA, ho, hul⟩ := hr
              have P12 := P5.keptB kP (fun i h => h)
              have hLn : LV S xb 5 w12 (us ++ [(atP yb)]) none := hLp _ none hLA (fun l' h => by cases h)
              push_cast -dsimp
              refine callK_of (rtake_c P12 [124]) ?_
              rintro _ w13 hT
              rcases hT with ⟨hbad, _⟩ | ⟨hs1, rfl, P13, b13⟩
              · cases hbad
              · have hmu13 := P13.mu0
                push_cast -dsimp
                refine ⟨⟨false, us ++ [(atP yb)], rfl, k12.trans (Kept.rb P12.le P12.lt b13) (fun i _ h => h), .inr ⟨e, l2, hLn.below b13, ho, P13, by rw [List.length_append, List.length_singleton, if_neg (by decide)]; omega⟩⟩, ?_⟩
                simp only [moreN, hz6]; omega
end Go.Proofs.YtphebgkbkdjjoaaGreatDoor
end
section
/- The reference's patterns, of any depth. -/
namespace Go.Proofs.YtphebgkbkdjjoaaGreatDoor
open Go.Vc Go.Proofs Go.RowKit Cae
set_option maxRecDepth 100000
set_option linter.unusedSimpArgs false
set_option linter.unusedVariables false
attribute [local irreducible] wpL callK valK unitK runK Fun Sl Vc.Own vc vcOps opK pureK
set_option maxHeartbeats 40000000
theorem rpat_zero : PatR 0 := by
  intro n hn0 hn rb B w l0 bad h0
  have hle := h0.le
  have hlt := h0.lt
  have hout : outP bad (patP 0) l0 = .error (bad.getD (4, (Cae.hd l0).pos)) := by cases bad <;> rfl
  have hge : ∃ e, e = bad.getD (4, (Cae.hd l0).pos) := ⟨_, rfl⟩
  obtain ⟨e, he⟩ := hge
  unfold Rc RRes
  rw [hout, ← he]
  refine fun_of_vc Tryz.func21 rfl (by kernel_rfl) [4] rfl ?_
  push_cast -dsimp (maxSteps := 4000000) [Tryz.ntmps21]
  refine ⟨fun h8 => ?_, fun h8 => by omega⟩
  refine callK_of (rfails_c h0 4 (by decide)) ?_
  rintro _ w1 ⟨rfl, P1, k1⟩
  rw [← he] at P1
  have z1 := k1.size
  push_cast -dsimp
  have hgx : ∃ xb, xb = w1.heap.size := ⟨_, rfl⟩
  obtain ⟨xb, hxb⟩ := hgx
  refine boxK_of ?_
  intro w2 hw2
  have P2 := P1.below hw2.below
  have k2 := k1.trans (Kept.new (X := (· = rb)) hw2) (fun i _ h => h)
  have z2 := hw2.size
  have B2 : Blk w2 xb 83 [.int .i64 5, .pointer none, .slice none 0 0, .int .i64 0, .int .i64 0] := by rw [hxb]; exact hw2.blk
  rw [← hxb]
  have LA : LV xb xb 5 w2 [] none := ⟨_, B2, Vc.Own.nil (enc := encQ) _ _ (fun _ => rfl) _, fun g hg => (by cases hg), fun l hl => (by cases hl), by omega⟩
  push_cast -dsimp
  refine wpL_loop [6, 7, 14, 15, 16, 17, 18, 19, 20, 21, 22, 23, 24, 25, 26, 27, 28, 29, 30, 31, 32, 33, 34, 35, 36, 37, 38, 39, 40, 41, 42, 43, 44, 45, 46, 47, 48, 49, 50, 51, 52, 53, 54, 55, 56, 57, 58, 59, 60, 61, 62, 63, 64, 65, 66, 67, 68, 69, 70, 71, 72, 73, 74, 75, 76, 77, 78, 79, 80] (fun z w' => ∃ (more : Bool) (us : List (Option Addr)), z 6 = .bool more ∧ us.length + moreN (z 6) = 1 ∧ LV xb xb 5 w' us none ∧ RS rb B w' l0 (some e) ∧ Kept (· = rb) w w') (fun z w' => moreN (z 6)) ?_ ?_
  · exact ⟨true, [], rfl, rfl, LA, P2, k2⟩
  rintro z w3 ⟨more, us, hz6, hul, hL, P3, k3⟩
  rw [hz6] at hul
  obtain ⟨svX, hLX⟩ := hL
  have hsh := hLX.own.slice
  obtain ⟨xa, xc, rfl⟩ := hsh
  have dX : w3.cell? ⟨xb, 2, none⟩ = some (.slice xa us.length xc) := hLX.blk.cell rfl
  cases more with
  | false =>
    have hus : ∃ u, us = [u] := List.length_eq_one_iff.1 hul
    obtain ⟨u, rfl⟩ := hus
    have hg := hLX.own.sl.get (i := 0) (x := u) rfl
    obtain ⟨b, o, rfl, _, hcell⟩ := hg
    have k0 : w3.cell? ⟨b, o, none⟩ = some (.pointer u) := by simpa [encQ] using hcell 0 _ rfl
    simp only [List.length_cons, List.length_nil, Nat.zero_add] at dX
    push_cast -dsimp [hz6, dX, k0, Nat.zero_mul, Nat.add_zero]
    exact ⟨k3, ⟨_, rfl⟩, _, P3⟩
  | true =>
    have hus : us = [] := List.length_eq_zero_iff.1 (by simpa [moreN] using hul)
    subst hus
    have hle3 := P3.le
    push_cast -dsimp [hz6]
    refine boxK_of ?_
    intro w4 hw4
    have z4 := hw4.size
    have P4 := P3.below hw4.below
    have L4 := LVs.kept hLX (Kept.new (X := fun _ => False) hw4) (fun i h => h.elim)
    have k4 := k3.trans (Kept.new (X := (· = rb)) hw4) (fun i _ h => h)
    have hgy : ∃ yb, yb = w3.heap.size := ⟨_, rfl⟩
    obtain ⟨yb, hyb⟩ := hgy
    have B4 : Blk w4 yb 83 [.int .i64 4, .pointer none, .slice none 0 0, .int .i64 0, .int .i64 0] := by rw [hyb]; exact hw4.blk
    have hxl := hLX.blk.lt
    rw [← hyb]
    push_cast -dsimp
    refine wpL_cutB [19, 20, 21, 22, 23, 24, 25, 26, 27, 28, 29, 30, 31, 32, 33, 34, 35, 36, 37, 38, 39, 40, 41, 42, 43, 44, 45, 46, 47, 48, 49, 50, 51, 52, 53, 54, 55, 56, 57, 58] (fun z wx => Below w4.heap.size w4 wx) ?_ ?_
    · refine wpL_loop [19, 20, 21, 22, 23, 24, 25, 26, 27, 28, 29, 30, 31, 32, 33, 34, 35, 36, 37, 38, 39, 40, 41, 42, 43, 44, 45, 46, 47, 48, 49, 50, 51, 52, 53, 54, 55, 56, 57, 58] (fun z wx => Below w4.heap.size w4 wx) (fun z wx => 0) ?_ ?_
      · exact Below.refl _ _
      · rintro z2 w5 b5
        push_cast -dsimp
        refine callK_of (rok_c (P4.below b5)) ?_
        rintro _ w6 ⟨rfl, hb6⟩
        push_cast -dsimp
        exact b5.trans (hb6.mono b5.size)
    · rintro z2 w5 b5
      have z5 := b5.size
      have P5 := P4.below b5
      have L5 := LVs.kept L4 (Kept.of_below b5 (X := fun i => w4.heap.size ≤ i) (fun i h1 h2 => h1)) (fun i h => .inr h)
      have B5 := B4.below b5 (by omega)
      have k5 := k4.trans (Kept.rb P4.le P4.lt b5) (fun i _ h => h)
      have dY : w5.cell? ⟨yb, 2, none⟩ = some (.slice none 0 0) := B5.cell rfl
      have dX5 : w5.cell? ⟨xb, 2, none⟩ = some (.slice xa 0 xc) := L5.blk.cell rfl
      push_cast -dsimp [dY, dX5]
      refine rowK elI_81 rfl rfl (by omega) ?_
      intro w10 hw10
      have BX10 := L5.blk.below hw10.below L5.blk.lt
      have z10 := hw10.size
      push_cast -dsimp
      refine appendK2 (base := xb) [atP yb] (enc := encQ) elI_81 (L5.own.new hw10) (by rfl) (fun j y hy => by simpa [encQ, atP] using hw10.cell hy) encQ_one (by simp) (by omega) ?_
      intro sv5 w11 hO11 hg11 hn11
      have kg : Kept (fun j => (Value.slice xa 0 xc).ownBlock = some j) w10 w11 := Kept.grown hg11 (fun _ h => h)
      have BX11 := BX10.kept kg (fun h => L5.ne _ h rfl)
      have z11 := kg.size
      have hsh := hO11.slice
      obtain ⟨a5, c5, rfl⟩ := hsh
      push_cast -dsimp
      refine storeK_of BX11 (by simp) rfl ?_
      intro w12 hw12
      have hog : ∀ g, (Value.slice xa 0 xc).ownBlock = some g → xb ≤ g ∧ g < w5.heap.size := fun g hg => L5.own.block g hg
      have hLp : LV xb xb 5 w12 [atP yb] none := LV.push (T := w5.heap.size) L5 ⟨by omega, by omega, fun g hg => (hog g hg).2⟩ (by omega) hw10 hO11 kg hn11 hw12 (fun l' h => by cases h)
      have k12 : Kept (· = rb) w w12 := ((k5.trans (Kept.new (X := (· = rb)) hw10) (fun i _ h => h)).trans kg (fun i h1 h2 => by have := hog _ h2; omega)).trans hw12.kept (fun i h1 h2 => by omega)
      have P12 := P5.keptB (((Kept.new (X := fun i => B ≤ i) hw10).trans kg (fun i h1 h2 => by have := hog _ h2; omega)).trans hw12.kept (fun i h1 h2 => by omega)) (fun i h => h)
      push_cast -dsimp
      refine callK_of (rtake_c P12 [124]) ?_
      rintro _ w13 hT
      rcases hT with ⟨hbad, _⟩ | ⟨_, rfl, P13, b13⟩
      · cases hbad
      · push_cast -dsimp
        exact ⟨⟨false, [atP yb], rfl, rfl, hLp.below b13, P13, k12.trans (Kept.rb P12.le P12.lt b13) (fun i _ h => h)⟩, by simp only [moreN, hz6]; omega⟩
theorem rknot : ∀ d, UnitR d ∧ PatR d
  | 0 => ⟨runit_zero, rpat_zero⟩
  | d + 1 => by
    have h := rknot d
    have hu := runit_succ d h.2
    exact ⟨hu, rpat_succ (d + 1) (by omega) (rpart_of (d + 1) hu)⟩
theorem rpat_c (d : Nat) : PatR d := (rknot d).2
end Go.Proofs.YtphebgkbkdjjoaaGreatDoor
end
