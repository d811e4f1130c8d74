/- Texts of this claim, merged: Rp7, Rp8. -/
import Derived.Test.YtledlfbbebodgaaGreatDoorM7
import Derived.Test.YtledlfbbebodgaaGreatDoorM6
set_option maxRecDepth 100000
set_option linter.unusedSimpArgs false
set_option linter.unusedVariables false
set_option maxHeartbeats 8000000
section
namespace Go.Proofs.YtledlfbbebodgaaGreatDoor
open Go.Vc Go.Proofs Go.RowKit Cae
attribute [local irreducible] wpL callK valK unitK runK Fun Sl Vc.Own vc vcOps opK pureK
def Sh {α:Type} (p:Pa α):Prop:=∀l x l',p l=.ok (x,l')→l'.length<l.length
def Le {α:Type} (p:Pa α):Prop:=∀l x l',p l=.ok (x,l')→l'.length≤l.length
theorem Lo.le {α:Type} {R:α→α→Prop} {p:Pa α} (h:Lo R p p):Le p:=fun l x l' e=>by
 obtain⟨pre,_,e,_⟩:=h l x l' e;rw[e,List.length_append];omega
theorem LoS.sh {α:Type} {R:α→α→Prop} {p:Pa α} (h:LoS R p p):Sh p:=fun l x l' e=>by
 obtain⟨pre,hne,_,e,_⟩:=h l x l' e;have:=List.length_pos_iff.2 hne;rw[e,List.length_append];omega
theorem Sh.le {α:Type} {p:Pa α} (h:Sh p):Le p:=fun l x l' e=>Nat.le_of_lt (h l x l' e)
theorem Sh.pb {α β:Type} {p:Pa α} {q:α→Pa β} (h:Sh p) (k:∀x,Le (q x)):Sh (Cae.pb p q):=fun l y l' e=>by
 obtain⟨x,l1,e1,e2⟩:=pb_ok e;exact Nat.lt_of_le_of_lt (k x _ _ _ e2) (h _ _ _ e1)
theorem Sh.pbr {α β:Type} {p:Pa α} {q:α→Pa β} (h:Le p) (k:∀x,Sh (q x)):Sh (Cae.pb p q):=fun l y l' e=>by
 obtain⟨x,l1,e1,e2⟩:=pb_ok e;exact Nat.lt_of_lt_of_le (k x _ _ _ e2) (h _ _ _ e1)
theorem Le.pb {α β:Type} {p:Pa α} {q:α→Pa β} (h:Le p) (k:∀x,Le (q x)):Le (Cae.pb p q):=fun l y l' e=>by
 obtain⟨x,l1,e1,e2⟩:=pb_ok e;exact Nat.le_trans (k x _ _ _ e2) (h _ _ _ e1)
theorem Le.pr {α:Type} {x:α}:Le (pr x):=fun l y l' e=>by cases e;exact Nat.le_refl _
theorem Sh.pif {α:Type} {c:List Tok→Bool} {p q:Pa α} (h:Sh p) (k:Sh q):Sh (Cae.pif c p q):=fun l x l' e=>by
 unfold Cae.pif at e;split at e
 ·exact h _ _ _ e
 ·exact k _ _ _ e
theorem Sh.fail {α:Type} {n:Nat}:Sh (pfail n:Pa α):=fun l x l' e=>by cases e
theorem le_peek:Le peek:=Lo.le Lo.peek
theorem sh_pop:Sh popP:=LoS.sh lo_pop
theorem sh_one:∀d,Sh (oneP d)
 | 0=>Sh.fail
 | d+1=>Sh.pif (LoS.sh lo_lit) (Sh.pif (Sh.pbr le_peek fun _=>Sh.pb sh_pop fun _=>Le.pb (Lo.le (lo_one d)) fun _=>Le.pr)
   (Sh.pif (Sh.pb sh_pop fun _=>Le.pb (Lo.le (lo_kindW (lo_one d))) fun _=>Le.pb (LoS.sh (lo_must _)).le fun _=>Le.pr)
    (Sh.pbr le_peek fun _=>Sh.pb (LoS.sh lo_name) fun _=>Le.pr)))
theorem sh_unit:∀d,Sh (unitP d)
 | 0=>Sh.fail
 | d+1=>Sh.pif (Sh.pb sh_pop fun _=>Le.pr) (Sh.pif (Sh.pb sh_pop fun _=>Le.pr) (Sh.pif (Sh.pb sh_pop fun _=>Le.pb (Lo.le (lo_patW (lo_unit d))) fun _=>Le.pb (LoS.sh (lo_must _)).le fun _=>Le.pr)
   (Sh.pif (Sh.pb (sh_one (d+1)) fun _=>Le.pr) Sh.fail)))
theorem unit_less {d:Nat} {l l':List Tok} {x:PatP} (h:unitP d l=.ok (x,l')):l'.length<l.length:=sh_unit d _ _ _ h
theorem again_less {d:Nat} {l l':List Tok} {x:PatP} (h:againW d (unitP d) l=.ok (x,l')):l'.length<l.length:=by
 obtain⟨y,l1,h1,h2⟩:=pb_ok h;have a:=unit_less h1;obtain⟨pre,_,e,_⟩:=lo_againLoop d _ _ _ _ (show PE y y from fun _=>rfl) _ _ _ h2;have:l1.length=pre.length+l'.length:=by rw[e,List.length_append]
 omega
theorem row_of (d : Nat) (ha : AgainC d) : RowC d := by
  intro n hn0 hn pb B w l0 h0
  have hle := h0.le
  have hlt := h0.lt
  refine fun2_of_vc Tryz.func134 rfl (by kernel_rfl) [.tmp 4] rfl ?_
  simp -dsimp (maxSteps := 4000000) only [push_cast, fr0, Tryz.ntmps134, List.length_cons, List.length_nil, Nat.reduceAdd, Nat.reduceSub, Nat.reduceBEq, List.replicate_succ, List.replicate_zero]
  simp -dsimp only [push_cast, Nat.reduceAdd, Nat.reduceLeDiff, Nat.reduceBEq, Int.reduceNe, Int.reduceEq, Int.reduceLT, Int.reduceLE]
  refine boxK_of ?_
  intro w1 hw1
  have B1 : Blk w1 w.heap.size 39 [.int .i64 4, .pointer none, .slice none 0 0, .int .i64 0, .int .i64 0] := hw1.blk
  have P1 := h0.below hw1.below
  have z1 := hw1.size
  have k1 : Kept (· = pb) w w1 := Kept.new hw1
  simp -dsimp only [push_cast, Nat.reduceAdd, Nat.reduceLeDiff, Nat.reduceBEq, Int.reduceNe, Int.reduceEq, Int.reduceLT, Int.reduceLE]
  refine wpL_loop [8, 9, 10, 11, 12, 13, 14, 15, 16, 17, 18, 19, 20, 21, 22, 23, 24, 25, 26, 27, 28, 29, 30, 31, 32, 33, 34, 35, 36, 37, 38, 39, 40, 41, 42, 43] (fun z w' => ∃ (m : Nat) (acc : List PatP) (l1 : List Tok) (sv : Value) (vs : List Nat), rowLoop (againW d (unitP d)) m acc l1 = rowLoop (againW d (unitP d)) 1000 [] l0 ∧ l1.length < m ∧ acc.length + m ≤ 1000 ∧
      Blk w' w.heap.size 39 [.int .i64 4, .pointer none, sv, .int .i64 0, .int .i64 0] ∧ Go.Vc.Own (w.heap.size + 1) 35 1 encP w' sv vs ∧ PatsV (fun b => b < w.heap.size ∨ b = w.heap.size ∨ sv.ownBlock = some b) w' vs acc ∧ PS pb B w' l1 ∧ Kept (· = pb) w w') (fun z w' => lenAt w' pb) ?_ ?_
  · have hlt : l0.length < 1000 := by have := h0.tl.len; omega
    exact ⟨1000, [], l0, _, [], rfl, hlt, by simp, B1, Vc.Own.nil (enc := encP) _ _ (fun _ => rfl) _, by simp only [PatsV], P1, k1⟩
  rintro z w' ⟨m, acc, l1, sv, vs, hm2, hm, hacc, hB, hO, hV, hP1, hkw⟩
  obtain ⟨t1, r1, el1⟩ := hP1.tl.cons
  have hP1' := hP1
  rw [el1] at hP1'
  obtain ⟨b, o, c, hBp, hc, hne, c0, c1, c2, c3⟩ := hP1'.hd
  have cb : w'.cell? ⟨pb, 0, none⟩ = some (.slice (some ⟨b, o, none⟩) (r1.length + 1) c) := hBp.cell rfl
  have hzw := hkw.size
  have hstP : startP l1 = (t1.kind == 3 || namedP l1 || seeP [46] l1 || seeP [36] l1 || seeP [40] l1) := by unfold startP isKind; rw [el1]; rfl
  simp -dsimp only [push_cast, Nat.reduceAdd, Nat.reduceLeDiff, Nat.reduceBEq, Int.reduceNe, Int.reduceEq, Int.reduceLT, Int.reduceLE, cb, c0]
  refine ⟨by omega, fun h3 => ?_, fun h3 => ?_⟩
  · have hk3 : (t1.kind == 3) = false := by
      have : t1.kind ≠ 3 := fun e => h3 (by omega)
      simpa using this
    rw [hk3, Bool.false_or] at hstP
    refine callK_of (named_c hP1) ?_
    rintro _ w2 ⟨rfl, b2⟩
    have P2 := hP1.below b2
    have hB2 := hB.below b2 hB.lt
    have hO2 := hO.below b2
    have hV2 := PatsV.mono (X' := fun b => b < w.heap.size ∨ b = w.heap.size ∨ sv.ownBlock = some b) (Kept.of_below b2 (X := fun _ => False) (fun i h1 h2 => by omega)) (fun _ h => h.elim) (fun _ h => h) hV
    have k2 := hkw.trans (Kept.of_below b2 (X := (· = pb)) (fun i h1 h2 => by omega)) (fun i _ h => h)
    cases hnm : namedP l1 with
    | true =>
      have hst : startP l1 = true := by rw [hstP, hnm]; rfl
      simp -dsimp only [push_cast, Nat.reduceAdd, Nat.reduceLeDiff, Nat.reduceBEq, Int.reduceNe, Int.reduceEq, Int.reduceLT, Int.reduceLE]
      -- at world w2: hB2 hO2 hV2 P2 k2
      have hm1 : ∃ m', m = m' + 1 := ⟨m - 1, by omega⟩
      obtain ⟨m', hmm⟩ := hm1
      have hz2 : w.heap.size < w2.heap.size := hB2.lt
      have kd : Kept (fun _ => False) w2 w2.drew := (Kept.refl _ _).drew
      have hBd := hB2.kept kd (fun h => h)
      have Pd := P2.kept kd (fun i h => h.elim)
      have kdd := k2.trans kd (fun i h1 h2 => h2.elim)
      have d2 : w2.drew.cell? ⟨w.heap.size, 2, none⟩ = some sv := hBd.cell rfl
      have hstep : rowLoop (againW d (unitP d)) m acc l1 = Cae.pb (againW d (unitP d)) (fun x => rowLoop (againW d (unitP d)) m' (acc ++ [x])) l1 := by
        rw [hmm, rowLoop]
        unfold pif
        rw [hst, if_pos rfl]
      cases hp : againW d (unitP d) l1 with
      | error e =>
        refine wpL_boom (E := PThr pb w l0 (rowW (againW d (unitP d)))) [(), (), (), (), (), (), ()] mixed (by kernel_rfl) (fun ce te we hE => ?_) ?_
        · simp -dsimp only [push_cast, Nat.reduceAdd, Nat.reduceLeDiff, Nat.reduceBEq, Int.reduceNe, Int.reduceEq, Int.reduceLT, Int.reduceLE]
          exact hE
        · simp -dsimp only [push_cast, Nat.reduceAdd, Nat.reduceLeDiff, Nat.reduceBEq, Int.reduceNe, Int.reduceEq, Int.reduceLT, Int.reduceLE, d2]
          refine ⟨fun w'' h => by rw [h, d2]; exact rfl, ?_⟩
          refine callB_of (ha n hn0 hn pb B w2.drew l1 Pd) (fun v we ⟨x, l', h1, _⟩ => by rw [hp] at h1; cases h1) ?_
          rintro ce we ⟨en, pos, he, ht, hke⟩
          refine ⟨en, pos, ?_, ht.mono (by have := kdd.size; omega), kdd.trans hke (fun i _ h => h)⟩
          have hl : rowLoop (againW d (unitP d)) 1000 [] l0 = .error (en, pos) := by
            rw [← hm2, hstep]
            unfold Cae.pb
            rw [he]
          unfold rowW Cae.pb
          rw [hl]
      | ok q =>
        obtain ⟨x, l2⟩ := q
        have hl2 : l2.length < l1.length := again_less hp
        refine wpL_lastN (fun w' => Blk w' w.heap.size 39 [.int .i64 4, .pointer none, sv, .int .i64 0, .int .i64 0]) mixed (by kernel_rfl) (by simp) hB2.drew ?_
        simp -dsimp only [push_cast, Nat.reduceAdd, Nat.reduceLeDiff, Nat.reduceBEq, Int.reduceNe, Int.reduceEq, Int.reduceLT, Int.reduceLE, d2]
        refine ⟨fun w'' h => by rw [Blk.cell h (o := 2) rfl]; exact rfl, ?_⟩
        refine callP_of (ha n hn0 hn pb B w2.drew l1 Pd) ?_ (fun ce we ⟨en, pos, he, _⟩ => by rw [hp] at he; cases he)
        rintro u w3 ⟨x', l2', e3, V3, P3, k3⟩
        obtain ⟨rfl, rfl⟩ : x = x' ∧ l2 = l2' := by rw [hp] at e3; cases e3; exact ⟨rfl, rfl⟩
        obtain ⟨ub, rfl, hub, hubX⟩ := V3.ptr
        have B3 := hBd.kept k3 (by omega)
        have z3 := k3.size
        have hzd : w2.heap.size = w2.drew.heap.size := rfl
        have hob : ∀ g, sv.ownBlock = some g → g < w2.heap.size := fun g hg => (hO2.block g hg).2
        have hO3 := (hO2.keptX kd (fun g _ h => h)).keptX k3 (fun g hg h => by have := (hO2.block g hg).1; omega)
        have hV3 := PatsV.mono (X' := fun b => (b < w.heap.size ∨ b = w.heap.size ∨ sv.ownBlock = some b) ∨ w2.heap.size ≤ b) ((kd.weaken (Y := (· = pb)) (fun i _ h => h.elim)).trans k3 (fun i _ h => h)) (fun i h => by omega) (fun i h => h) (PatsV.top hV2)
        refine ⟨B3, ?_⟩
        simp -dsimp only [push_cast, Nat.reduceAdd, Nat.reduceLeDiff, Nat.reduceBEq, Int.reduceNe, Int.reduceEq, Int.reduceLT, Int.reduceLE]
        refine rowK elI_37 rfl rfl (by omega) ?_
        intro w4 hw4
        have B4 := B3.below hw4.below B3.lt
        have z4 := hw4.size
        have hO4 := hO3.new hw4
        have P4 := P3.below hw4.below
        refine ⟨B4, ?_⟩
        simp -dsimp only [push_cast, Nat.reduceAdd, Nat.reduceLeDiff, Nat.reduceBEq, Int.reduceNe, Int.reduceEq, Int.reduceLT, Int.reduceLE]
        refine appendK2 (base := w.heap.size + 1) [ub] (enc := encP) elI_37 hO4 (by rfl) (fun j y hy => by simpa [encP, ptrP] using hw4.cell hy) encP_one (by rw [PatsV.len hV2]; simp only [List.length_cons, List.length_nil]; omega) (by omega) ?_
        intro sv5 w5 hO5 hg5 hn5
        have kg : Kept (fun j => sv.ownBlock = some j) w4 w5 := Kept.grown hg5 (fun _ h => h)
        have hog : ∀ g, sv.ownBlock = some g → w.heap.size + 1 ≤ g := fun g hg => (hO2.block g hg).1
        have B5 := B4.kept kg (fun h => by have := hog _ h; omega)
        have P5 := P4.kept kg (fun i h => by have := hog _ h; omega)
        have z5 := kg.size
        refine ⟨B5, ?_⟩
        obtain ⟨a5, c5, rfl⟩ := hO5.slice
        simp -dsimp only [push_cast, Nat.reduceAdd, Nat.reduceLeDiff, Nat.reduceBEq, Int.reduceNe, Int.reduceEq, Int.reduceLT, Int.reduceLE]
        refine storeK_of B5 (by simp) rfl ?_
        intro w6 hw6
        have B6 : Blk w6 w.heap.size 39 [.int .i64 4, .pointer none, .slice a5 (vs ++ [ub]).length c5, .int .i64 0, .int .i64 0] := hw6.blk
        have P6 := P5.kept hw6.kept (fun i h => by omega)
        have z6 := hw6.size
        have hO6 := hO5.keptX hw6.kept (fun g hg h => by have := (hO5.block g hg).1; omega)
        have k6 := (((kdd.trans k3 (fun i _ h => h)).trans (Kept.new (X := (· = pb)) hw4) (fun i _ h => h)).trans kg (fun i h1 h2 => by have := hog _ h2; omega)).trans hw6.kept (fun i h1 h2 => by omega)
        have kY : Kept (fun i => i = w.heap.size ∨ sv.ownBlock = some i) w3 w6 := ((Kept.new (X := fun i => i = w.heap.size ∨ sv.ownBlock = some i) hw4).trans kg (fun i _ h => .inr h)).trans hw6.kept (fun i _ h => .inl h)
        have hX : ∀ i, (i < w.heap.size ∨ i = w.heap.size ∨ (Value.slice a5 (vs ++ [ub]).length c5).ownBlock = some i) → i < w.heap.size ∨ i = w.heap.size ∨ sv.ownBlock = some i ∨ w4.heap.size ≤ i := fun i h => by
          rcases h with h | h | h
          · exact .inl h
          · exact .inr (.inl h)
          · rcases hn5 i h with h | h
            · exact .inr (.inr (.inl h))
            · exact .inr (.inr (.inr h))
        have hV6 : PatsV (fun b => b < w.heap.size ∨ b = w.heap.size ∨ (Value.slice a5 (vs ++ [ub]).length c5).ownBlock = some b) w6 (vs ++ [ub]) (acc ++ [x]) := by
          refine PatsV.snoc (PatsV.mono kY (fun i h => ?_) (fun i h => ?_) hV3) (PatV.mono kY (fun i h => ?_) (fun i h => ?_) V3.top)
          · rcases h with h | h
            · exact .inl (.inr (.inl h))
            · exact .inl (.inr (.inr h))
          · rcases hX i h with h | h | h | h
            · exact .inl (.inl h)
            · exact .inl (.inr (.inl h))
            · exact .inl (.inr (.inr h))
            · exact .inr (by omega)
          · rcases h with h | h
            · exact .inl (by omega)
            · exact .inl (hob i h)
          · rcases hX i h with h | h | h | h
            · exact .inl (by omega)
            · exact .inl (by omega)
            · exact .inl (hob i h)
            · exact .inr (by omega)
        have hlen6 := P6.len
        have hlen1 := hP1.len
        have hnx : rowLoop (againW d (unitP d)) m' (acc ++ [x]) l2 = rowLoop (againW d (unitP d)) 1000 [] l0 := by rw [← hm2, hstep, pb_of hp]
        simp -dsimp only [push_cast, Nat.reduceAdd, Nat.reduceLeDiff, Nat.reduceBEq, Int.reduceNe, Int.reduceEq, Int.reduceLT, Int.reduceLE]
        exact ⟨⟨m', acc ++ [x], l2, _, vs ++ [ub], hnx, by omega, by rw [List.length_append, List.length_singleton]; omega, B6, hO6, hV6, P6, k6⟩, by rw [hlen6, hlen1]; exact hl2⟩
    | false =>
      rw [hnm, Bool.false_or] at hstP
      simp -dsimp only [push_cast, Nat.reduceAdd, Nat.reduceLeDiff, Nat.reduceBEq, Int.reduceNe, Int.reduceEq, Int.reduceLT, Int.reduceLE]
      refine callK_of (see_c [46] P2) ?_
      rintro _ w3 ⟨rfl, hw3⟩
      obtain rfl : w2 = w3 := hw3.symm
      cases hs1 : seeP [46] l1 with
      | true =>
        have hst : startP l1 = true := by rw [hstP, hs1]; rfl
        simp -dsimp only [push_cast, Nat.reduceAdd, Nat.reduceLeDiff, Nat.reduceBEq, Int.reduceNe, Int.reduceEq, Int.reduceLT, Int.reduceLE]
        -- at world w2: hB2 hO2 hV2 P2 k2
        have hm1 : ∃ m', m = m' + 1 := ⟨m - 1, by omega⟩
        obtain ⟨m', hmm⟩ := hm1
        have hz2 : w.heap.size < w2.heap.size := hB2.lt
        have kd : Kept (fun _ => False) w2 w2.drew := (Kept.refl _ _).drew
        have hBd := hB2.kept kd (fun h => h)
        have Pd := P2.kept kd (fun i h => h.elim)
        have kdd := k2.trans kd (fun i h1 h2 => h2.elim)
        have d2 : w2.drew.cell? ⟨w.heap.size, 2, none⟩ = some sv := hBd.cell rfl
        have hstep : rowLoop (againW d (unitP d)) m acc l1 = Cae.pb (againW d (unitP d)) (fun x => rowLoop (againW d (unitP d)) m' (acc ++ [x])) l1 := by
          rw [hmm, rowLoop]
          unfold pif
          rw [hst, if_pos rfl]
        cases hp : againW d (unitP d) l1 with
        | error e =>
          refine wpL_boom (E := PThr pb w l0 (rowW (againW d (unitP d)))) [(), (), (), (), (), (), ()] mixed (by kernel_rfl) (fun ce te we hE => ?_) ?_
          · simp -dsimp only [push_cast, Nat.reduceAdd, Nat.reduceLeDiff, Nat.reduceBEq, Int.reduceNe, Int.reduceEq, Int.reduceLT, Int.reduceLE]
            exact hE
          · simp -dsimp only [push_cast, Nat.reduceAdd, Nat.reduceLeDiff, Nat.reduceBEq, Int.reduceNe, Int.reduceEq, Int.reduceLT, Int.reduceLE, d2]
            refine ⟨fun w'' h => by rw [h, d2]; exact rfl, ?_⟩
            refine callB_of (ha n hn0 hn pb B w2.drew l1 Pd) (fun v we ⟨x, l', h1, _⟩ => by rw [hp] at h1; cases h1) ?_
            rintro ce we ⟨en, pos, he, ht, hke⟩
            refine ⟨en, pos, ?_, ht.mono (by have := kdd.size; omega), kdd.trans hke (fun i _ h => h)⟩
            have hl : rowLoop (againW d (unitP d)) 1000 [] l0 = .error (en, pos) := by
              rw [← hm2, hstep]
              unfold Cae.pb
              rw [he]
            unfold rowW Cae.pb
            rw [hl]
        | ok q =>
          obtain ⟨x, l2⟩ := q
          have hl2 : l2.length < l1.length := again_less hp
          refine wpL_lastN (fun w' => Blk w' w.heap.size 39 [.int .i64 4, .pointer none, sv, .int .i64 0, .int .i64 0]) mixed (by kernel_rfl) (by simp) hB2.drew ?_
          simp -dsimp only [push_cast, Nat.reduceAdd, Nat.reduceLeDiff, Nat.reduceBEq, Int.reduceNe, Int.reduceEq, Int.reduceLT, Int.reduceLE, d2]
          refine ⟨fun w'' h => by rw [Blk.cell h (o := 2) rfl]; exact rfl, ?_⟩
          refine callP_of (ha n hn0 hn pb B w2.drew l1 Pd) ?_ (fun ce we ⟨en, pos, he, _⟩ => by rw [hp] at he; cases he)
          rintro u w3 ⟨x', l2', e3, V3, P3, k3⟩
          obtain ⟨rfl, rfl⟩ : x = x' ∧ l2 = l2' := by rw [hp] at e3; cases e3; exact ⟨rfl, rfl⟩
          obtain ⟨ub, rfl, hub, hubX⟩ := V3.ptr
          have B3 := hBd.kept k3 (by omega)
          have z3 := k3.size
          have hzd : w2.heap.size = w2.drew.heap.size := rfl
          have hob : ∀ g, sv.ownBlock = some g → g < w2.heap.size := fun g hg => (hO2.block g hg).2
          have hO3 := (hO2.keptX kd (fun g _ h => h)).keptX k3 (fun g hg h => by have := (hO2.block g hg).1; omega)
          have hV3 := PatsV.mono (X' := fun b => (b < w.heap.size ∨ b = w.heap.size ∨ sv.ownBlock = some b) ∨ w2.heap.size ≤ b) ((kd.weaken (Y := (· = pb)) (fun i _ h => h.elim)).trans k3 (fun i _ h => h)) (fun i h => by omega) (fun i h => h) (PatsV.top hV2)
          refine ⟨B3, ?_⟩
          simp -dsimp only [push_cast, Nat.reduceAdd, Nat.reduceLeDiff, Nat.reduceBEq, Int.reduceNe, Int.reduceEq, Int.reduceLT, Int.reduceLE]
          refine rowK elI_37 rfl rfl (by omega) ?_
          intro w4 hw4
          have B4 := B3.below hw4.below B3.lt
          have z4 := hw4.size
          have hO4 := hO3.new hw4
          have P4 := P3.below hw4.below
          refine ⟨B4, ?_⟩
          simp -dsimp only [push_cast, Nat.reduceAdd, Nat.reduceLeDiff, Nat.reduceBEq, Int.reduceNe, Int.reduceEq, Int.reduceLT, Int.reduceLE]
          refine appendK2 (base := w.heap.size + 1) [ub] (enc := encP) elI_37 hO4 (by rfl) (fun j y hy => by simpa [encP, ptrP] using hw4.cell hy) encP_one (by rw [PatsV.len hV2]; simp only [List.length_cons, List.length_nil]; omega) (by omega) ?_
          intro sv5 w5 hO5 hg5 hn5
          have kg : Kept (fun j => sv.ownBlock = some j) w4 w5 := Kept.grown hg5 (fun _ h => h)
          have hog : ∀ g, sv.ownBlock = some g → w.heap.size + 1 ≤ g := fun g hg => (hO2.block g hg).1
          have B5 := B4.kept kg (fun h => by have := hog _ h; omega)
          have P5 := P4.kept kg (fun i h => by have := hog _ h; omega)
          have z5 := kg.size
          refine ⟨B5, ?_⟩
          obtain ⟨a5, c5, rfl⟩ := hO5.slice
          simp -dsimp only [push_cast, Nat.reduceAdd, Nat.reduceLeDiff, Nat.reduceBEq, Int.reduceNe, Int.reduceEq, Int.reduceLT, Int.reduceLE]
          refine storeK_of B5 (by simp) rfl ?_
          intro w6 hw6
          have B6 : Blk w6 w.heap.size 39 [.int .i64 4, .pointer none, .slice a5 (vs ++ [ub]).length c5, .int .i64 0, .int .i64 0] := hw6.blk
          have P6 := P5.kept hw6.kept (fun i h => by omega)
          have z6 := hw6.size
          have hO6 := hO5.keptX hw6.kept (fun g hg h => by have := (hO5.block g hg).1; omega)
          have k6 := (((kdd.trans k3 (fun i _ h => h)).trans (Kept.new (X := (· = pb)) hw4) (fun i _ h => h)).trans kg (fun i h1 h2 => by have := hog _ h2; omega)).trans hw6.kept (fun i h1 h2 => by omega)
          have kY : Kept (fun i => i = w.heap.size ∨ sv.ownBlock = some i) w3 w6 := ((Kept.new (X := fun i => i = w.heap.size ∨ sv.ownBlock = some i) hw4).trans kg (fun i _ h => .inr h)).trans hw6.kept (fun i _ h => .inl h)
          have hX : ∀ i, (i < w.heap.size ∨ i = w.heap.size ∨ (Value.slice a5 (vs ++ [ub]).length c5).ownBlock = some i) → i < w.heap.size ∨ i = w.heap.size ∨ sv.ownBlock = some i ∨ w4.heap.size ≤ i := fun i h => by
            rcases h with h | h | h
            · exact .inl h
            · exact .inr (.inl h)
            · rcases hn5 i h with h | h
              · exact .inr (.inr (.inl h))
              · exact .inr (.inr (.inr h))
          have hV6 : PatsV (fun b => b < w.heap.size ∨ b = w.heap.size ∨ (Value.slice a5 (vs ++ [ub]).length c5).ownBlock = some b) w6 (vs ++ [ub]) (acc ++ [x]) := by
            refine PatsV.snoc (PatsV.mono kY (fun i h => ?_) (fun i h => ?_) hV3) (PatV.mono kY (fun i h => ?_) (fun i h => ?_) V3.top)
            · rcases h with h | h
              · exact .inl (.inr (.inl h))
              · exact .inl (.inr (.inr h))
            · rcases hX i h with h | h | h | h
              · exact .inl (.inl h)
              · exact .inl (.inr (.inl h))
              · exact .inl (.inr (.inr h))
              · exact .inr (by omega)
            · rcases h with h | h
              · exact .inl (by omega)
              · exact .inl (hob i h)
            · rcases hX i h with h | h | h | h
              · exact .inl (by omega)
              · exact .inl (by omega)
              · exact .inl (hob i h)
              · exact .inr (by omega)
          have hlen6 := P6.len
          have hlen1 := hP1.len
          have hnx : rowLoop (againW d (unitP d)) m' (acc ++ [x]) l2 = rowLoop (againW d (unitP d)) 1000 [] l0 := by rw [← hm2, hstep, pb_of hp]
          simp -dsimp only [push_cast, Nat.reduceAdd, Nat.reduceLeDiff, Nat.reduceBEq, Int.reduceNe, Int.reduceEq, Int.reduceLT, Int.reduceLE]
          exact ⟨⟨m', acc ++ [x], l2, _, vs ++ [ub], hnx, by omega, by rw [List.length_append, List.length_singleton]; omega, B6, hO6, hV6, P6, k6⟩, by rw [hlen6, hlen1]; exact hl2⟩
      | false =>
        rw [hs1, Bool.false_or] at hstP
        simp -dsimp only [push_cast, Nat.reduceAdd, Nat.reduceLeDiff, Nat.reduceBEq, Int.reduceNe, Int.reduceEq, Int.reduceLT, Int.reduceLE]
        refine callK_of (see_c [36] P2) ?_
        rintro _ w3 ⟨rfl, hw3⟩
        obtain rfl : w2 = w3 := hw3.symm
        cases hs2 : seeP [36] l1 with
        | true =>
          have hst : startP l1 = true := by rw [hstP, hs2]; rfl
          simp -dsimp only [push_cast, Nat.reduceAdd, Nat.reduceLeDiff, Nat.reduceBEq, Int.reduceNe, Int.reduceEq, Int.reduceLT, Int.reduceLE]
          -- at world w2: hB2 hO2 hV2 P2 k2
          have hm1 : ∃ m', m = m' + 1 := ⟨m - 1, by omega⟩
          obtain ⟨m', hmm⟩ := hm1
          have hz2 : w.heap.size < w2.heap.size := hB2.lt
          have kd : Kept (fun _ => False) w2 w2.drew := (Kept.refl _ _).drew
          have hBd := hB2.kept kd (fun h => h)
          have Pd := P2.kept kd (fun i h => h.elim)
          have kdd := k2.trans kd (fun i h1 h2 => h2.elim)
          have d2 : w2.drew.cell? ⟨w.heap.size, 2, none⟩ = some sv := hBd.cell rfl
          have hstep : rowLoop (againW d (unitP d)) m acc l1 = Cae.pb (againW d (unitP d)) (fun x => rowLoop (againW d (unitP d)) m' (acc ++ [x])) l1 := by
            rw [hmm, rowLoop]
            unfold pif
            rw [hst, if_pos rfl]
          cases hp : againW d (unitP d) l1 with
          | error e =>
            refine wpL_boom (E := PThr pb w l0 (rowW (againW d (unitP d)))) [(), (), (), (), (), (), ()] mixed (by kernel_rfl) (fun ce te we hE => ?_) ?_
            · simp -dsimp only [push_cast, Nat.reduceAdd, Nat.reduceLeDiff, Nat.reduceBEq, Int.reduceNe, Int.reduceEq, Int.reduceLT, Int.reduceLE]
              exact hE
            · simp -dsimp only [push_cast, Nat.reduceAdd, Nat.reduceLeDiff, Nat.reduceBEq, Int.reduceNe, Int.reduceEq, Int.reduceLT, Int.reduceLE, d2]
              refine ⟨fun w'' h => by rw [h, d2]; exact rfl, ?_⟩
              refine callB_of (ha n hn0 hn pb B w2.drew l1 Pd) (fun v we ⟨x, l', h1, _⟩ => by rw [hp] at h1; cases h1) ?_
              rintro ce we ⟨en, pos, he, ht, hke⟩
              refine ⟨en, pos, ?_, ht.mono (by have := kdd.size; omega), kdd.trans hke (fun i _ h => h)⟩
              have hl : rowLoop (againW d (unitP d)) 1000 [] l0 = .error (en, pos) := by
                rw [← hm2, hstep]
                unfold Cae.pb
                rw [he]
              unfold rowW Cae.pb
              rw [hl]
          | ok q =>
            obtain ⟨x, l2⟩ := q
            have hl2 : l2.length < l1.length := again_less hp
            refine wpL_lastN (fun w' => Blk w' w.heap.size 39 [.int .i64 4, .pointer none, sv, .int .i64 0, .int .i64 0]) mixed (by kernel_rfl) (by simp) hB2.drew ?_
            simp -dsimp only [push_cast, Nat.reduceAdd, Nat.reduceLeDiff, Nat.reduceBEq, Int.reduceNe, Int.reduceEq, Int.reduceLT, Int.reduceLE, d2]
            refine ⟨fun w'' h => by rw [Blk.cell h (o := 2) rfl]; exact rfl, ?_⟩
            refine callP_of (ha n hn0 hn pb B w2.drew l1 Pd) ?_ (fun ce we ⟨en, pos, he, _⟩ => by rw [hp] at he; cases he)
            rintro u w3 ⟨x', l2', e3, V3, P3, k3⟩
            obtain ⟨rfl, rfl⟩ : x = x' ∧ l2 = l2' := by rw [hp] at e3; cases e3; exact ⟨rfl, rfl⟩
            obtain ⟨ub, rfl, hub, hubX⟩ := V3.ptr
            have B3 := hBd.kept k3 (by omega)
            have z3 := k3.size
            have hzd : w2.heap.size = w2.drew.heap.size := rfl
            have hob : ∀ g, sv.ownBlock = some g → g < w2.heap.size := fun g hg => (hO2.block g hg).2
            have hO3 := (hO2.keptX kd (fun g _ h => h)).keptX k3 (fun g hg h => by have := (hO2.block g hg).1; omega)
            have hV3 := PatsV.mono (X' := fun b => (b < w.heap.size ∨ b = w.heap.size ∨ sv.ownBlock = some b) ∨ w2.heap.size ≤ b) ((kd.weaken (Y := (· = pb)) (fun i _ h => h.elim)).trans k3 (fun i _ h => h)) (fun i h => by omega) (fun i h => h) (PatsV.top hV2)
            refine ⟨B3, ?_⟩
            simp -dsimp only [push_cast, Nat.reduceAdd, Nat.reduceLeDiff, Nat.reduceBEq, Int.reduceNe, Int.reduceEq, Int.reduceLT, Int.reduceLE]
            refine rowK elI_37 rfl rfl (by omega) ?_
            intro w4 hw4
            have B4 := B3.below hw4.below B3.lt
            have z4 := hw4.size
            have hO4 := hO3.new hw4
            have P4 := P3.below hw4.below
            refine ⟨B4, ?_⟩
            simp -dsimp only [push_cast, Nat.reduceAdd, Nat.reduceLeDiff, Nat.reduceBEq, Int.reduceNe, Int.reduceEq, Int.reduceLT, Int.reduceLE]
            refine appendK2 (base := w.heap.size + 1) [ub] (enc := encP) elI_37 hO4 (by rfl) (fun j y hy => by simpa [encP, ptrP] using hw4.cell hy) encP_one (by rw [PatsV.len hV2]; simp only [List.length_cons, List.length_nil]; omega) (by omega) ?_
            intro sv5 w5 hO5 hg5 hn5
            have kg : Kept (fun j => sv.ownBlock = some j) w4 w5 := Kept.grown hg5 (fun _ h => h)
            have hog : ∀ g, sv.ownBlock = some g → w.heap.size + 1 ≤ g := fun g hg => (hO2.block g hg).1
            have B5 := B4.kept kg (fun h => by have := hog _ h; omega)
            have P5 := P4.kept kg (fun i h => by have := hog _ h; omega)
            have z5 := kg.size
            refine ⟨B5, ?_⟩
            obtain ⟨a5, c5, rfl⟩ := hO5.slice
            simp -dsimp only [push_cast, Nat.reduceAdd, Nat.reduceLeDiff, Nat.reduceBEq, Int.reduceNe, Int.reduceEq, Int.reduceLT, Int.reduceLE]
            refine storeK_of B5 (by simp) rfl ?_
            intro w6 hw6
            have B6 : Blk w6 w.heap.size 39 [.int .i64 4, .pointer none, .slice a5 (vs ++ [ub]).length c5, .int .i64 0, .int .i64 0] := hw6.blk
            have P6 := P5.kept hw6.kept (fun i h => by omega)
            have z6 := hw6.size
            have hO6 := hO5.keptX hw6.kept (fun g hg h => by have := (hO5.block g hg).1; omega)
            have k6 := (((kdd.trans k3 (fun i _ h => h)).trans (Kept.new (X := (· = pb)) hw4) (fun i _ h => h)).trans kg (fun i h1 h2 => by have := hog _ h2; omega)).trans hw6.kept (fun i h1 h2 => by omega)
            have kY : Kept (fun i => i = w.heap.size ∨ sv.ownBlock = some i) w3 w6 := ((Kept.new (X := fun i => i = w.heap.size ∨ sv.ownBlock = some i) hw4).trans kg (fun i _ h => .inr h)).trans hw6.kept (fun i _ h => .inl h)
            have hX : ∀ i, (i < w.heap.size ∨ i = w.heap.size ∨ (Value.slice a5 (vs ++ [ub]).length c5).ownBlock = some i) → i < w.heap.size ∨ i = w.heap.size ∨ sv.ownBlock = some i ∨ w4.heap.size ≤ i := fun i h => by
              rcases h with h | h | h
              · exact .inl h
              · exact .inr (.inl h)
              · rcases hn5 i h with h | h
                · exact .inr (.inr (.inl h))
                · exact .inr (.inr (.inr h))
            have hV6 : PatsV (fun b => b < w.heap.size ∨ b = w.heap.size ∨ (Value.slice a5 (vs ++ [ub]).length c5).ownBlock = some b) w6 (vs ++ [ub]) (acc ++ [x]) := by
              refine PatsV.snoc (PatsV.mono kY (fun i h => ?_) (fun i h => ?_) hV3) (PatV.mono kY (fun i h => ?_) (fun i h => ?_) V3.top)
              · rcases h with h | h
                · exact .inl (.inr (.inl h))
                · exact .inl (.inr (.inr h))
              · rcases hX i h with h | h | h | h
                · exact .inl (.inl h)
                · exact .inl (.inr (.inl h))
                · exact .inl (.inr (.inr h))
                · exact .inr (by omega)
              · rcases h with h | h
                · exact .inl (by omega)
                · exact .inl (hob i h)
              · rcases hX i h with h | h | h | h
                · exact .inl (by omega)
                · exact .inl (by omega)
                · exact .inl (hob i h)
                · exact .inr (by omega)
            have hlen6 := P6.len
            have hlen1 := hP1.len
            have hnx : rowLoop (againW d (unitP d)) m' (acc ++ [x]) l2 = rowLoop (againW d (unitP d)) 1000 [] l0 := by rw [← hm2, hstep, pb_of hp]
            simp -dsimp only [push_cast, Nat.reduceAdd, Nat.reduceLeDiff, Nat.reduceBEq, Int.reduceNe, Int.reduceEq, Int.reduceLT, Int.reduceLE]
            exact ⟨⟨m', acc ++ [x], l2, _, vs ++ [ub], hnx, by omega, by rw [List.length_append, List.length_singleton]; omega, B6, hO6, hV6, P6, k6⟩, by rw [hlen6, hlen1]; exact hl2⟩
        | false =>
          rw [hs2, Bool.false_or] at hstP
          simp -dsimp only [push_cast, Nat.reduceAdd, Nat.reduceLeDiff, Nat.reduceBEq, Int.reduceNe, Int.reduceEq, Int.reduceLT, Int.reduceLE]
          refine callK_of (see_c [40] P2) ?_
          rintro _ w3 ⟨rfl, hw3⟩
          obtain rfl : w2 = w3 := hw3.symm
          cases hs3 : seeP [40] l1 with
          | true =>
            have hst : startP l1 = true := by rw [hstP, hs3]
            simp -dsimp only [push_cast, Nat.reduceAdd, Nat.reduceLeDiff, Nat.reduceBEq, Int.reduceNe, Int.reduceEq, Int.reduceLT, Int.reduceLE]
            -- at world w2: hB2 hO2 hV2 P2 k2
            have hm1 : ∃ m', m = m' + 1 := ⟨m - 1, by omega⟩
            obtain ⟨m', hmm⟩ := hm1
            have hz2 : w.heap.size < w2.heap.size := hB2.lt
            have kd : Kept (fun _ => False) w2 w2.drew := (Kept.refl _ _).drew
            have hBd := hB2.kept kd (fun h => h)
            have Pd := P2.kept kd (fun i h => h.elim)
            have kdd := k2.trans kd (fun i h1 h2 => h2.elim)
            have d2 : w2.drew.cell? ⟨w.heap.size, 2, none⟩ = some sv := hBd.cell rfl
            have hstep : rowLoop (againW d (unitP d)) m acc l1 = Cae.pb (againW d (unitP d)) (fun x => rowLoop (againW d (unitP d)) m' (acc ++ [x])) l1 := by
              rw [hmm, rowLoop]
              unfold pif
              rw [hst, if_pos rfl]
            cases hp : againW d (unitP d) l1 with
            | error e =>
              refine wpL_boom (E := PThr pb w l0 (rowW (againW d (unitP d)))) [(), (), (), (), (), (), ()] mixed (by kernel_rfl) (fun ce te we hE => ?_) ?_
              · simp -dsimp only [push_cast, Nat.reduceAdd, Nat.reduceLeDiff, Nat.reduceBEq, Int.reduceNe, Int.reduceEq, Int.reduceLT, Int.reduceLE]
                exact hE
              · simp -dsimp only [push_cast, Nat.reduceAdd, Nat.reduceLeDiff, Nat.reduceBEq, Int.reduceNe, Int.reduceEq, Int.reduceLT, Int.reduceLE, d2]
                refine ⟨fun w'' h => by rw [h, d2]; exact rfl, ?_⟩
                refine callB_of (ha n hn0 hn pb B w2.drew l1 Pd) (fun v we ⟨x, l', h1, _⟩ => by rw [hp] at h1; cases h1) ?_
                rintro ce we ⟨en, pos, he, ht, hke⟩
                refine ⟨en, pos, ?_, ht.mono (by have := kdd.size; omega), kdd.trans hke (fun i _ h => h)⟩
                have hl : rowLoop (againW d (unitP d)) 1000 [] l0 = .error (en, pos) := by
                  rw [← hm2, hstep]
                  unfold Cae.pb
                  rw [he]
                unfold rowW Cae.pb
                rw [hl]
            | ok q =>
              obtain ⟨x, l2⟩ := q
              have hl2 : l2.length < l1.length := again_less hp
              refine wpL_lastN (fun w' => Blk w' w.heap.size 39 [.int .i64 4, .pointer none, sv, .int .i64 0, .int .i64 0]) mixed (by kernel_rfl) (by simp) hB2.drew ?_
              simp -dsimp only [push_cast, Nat.reduceAdd, Nat.reduceLeDiff, Nat.reduceBEq, Int.reduceNe, Int.reduceEq, Int.reduceLT, Int.reduceLE, d2]
              refine ⟨fun w'' h => by rw [Blk.cell h (o := 2) rfl]; exact rfl, ?_⟩
              refine callP_of (ha n hn0 hn pb B w2.drew l1 Pd) ?_ (fun ce we ⟨en, pos, he, _⟩ => by rw [hp] at he; cases he)
              rintro u w3 ⟨x', l2', e3, V3, P3, k3⟩
              obtain ⟨rfl, rfl⟩ : x = x' ∧ l2 = l2' := by rw [hp] at e3; cases e3; exact ⟨rfl, rfl⟩
              obtain ⟨ub, rfl, hub, hubX⟩ := V3.ptr
              have B3 := hBd.kept k3 (by omega)
              have z3 := k3.size
              have hzd : w2.heap.size = w2.drew.heap.size := rfl
              have hob : ∀ g, sv.ownBlock = some g → g < w2.heap.size := fun g hg => (hO2.block g hg).2
              have hO3 := (hO2.keptX kd (fun g _ h => h)).keptX k3 (fun g hg h => by have := (hO2.block g hg).1; omega)
              have hV3 := PatsV.mono (X' := fun b => (b < w.heap.size ∨ b = w.heap.size ∨ sv.ownBlock = some b) ∨ w2.heap.size ≤ b) ((kd.weaken (Y := (· = pb)) (fun i _ h => h.elim)).trans k3 (fun i _ h => h)) (fun i h => by omega) (fun i h => h) (PatsV.top hV2)
              refine ⟨B3, ?_⟩
              simp -dsimp only [push_cast, Nat.reduceAdd, Nat.reduceLeDiff, Nat.reduceBEq, Int.reduceNe, Int.reduceEq, Int.reduceLT, Int.reduceLE]
              refine rowK elI_37 rfl rfl (by omega) ?_
              intro w4 hw4
              have B4 := B3.below hw4.below B3.lt
              have z4 := hw4.size
              have hO4 := hO3.new hw4
              have P4 := P3.below hw4.below
              refine ⟨B4, ?_⟩
              simp -dsimp only [push_cast, Nat.reduceAdd, Nat.reduceLeDiff, Nat.reduceBEq, Int.reduceNe, Int.reduceEq, Int.reduceLT, Int.reduceLE]
              refine appendK2 (base := w.heap.size + 1) [ub] (enc := encP) elI_37 hO4 (by rfl) (fun j y hy => by simpa [encP, ptrP] using hw4.cell hy) encP_one (by rw [PatsV.len hV2]; simp only [List.length_cons, List.length_nil]; omega) (by omega) ?_
              intro sv5 w5 hO5 hg5 hn5
              have kg : Kept (fun j => sv.ownBlock = some j) w4 w5 := Kept.grown hg5 (fun _ h => h)
              have hog : ∀ g, sv.ownBlock = some g → w.heap.size + 1 ≤ g := fun g hg => (hO2.block g hg).1
              have B5 := B4.kept kg (fun h => by have := hog _ h; omega)
              have P5 := P4.kept kg (fun i h => by have := hog _ h; omega)
              have z5 := kg.size
              refine ⟨B5, ?_⟩
              obtain ⟨a5, c5, rfl⟩ := hO5.slice
              simp -dsimp only [push_cast, Nat.reduceAdd, Nat.reduceLeDiff, Nat.reduceBEq, Int.reduceNe, Int.reduceEq, Int.reduceLT, Int.reduceLE]
              refine storeK_of B5 (by simp) rfl ?_
              intro w6 hw6
              have B6 : Blk w6 w.heap.size 39 [.int .i64 4, .pointer none, .slice a5 (vs ++ [ub]).length c5, .int .i64 0, .int .i64 0] := hw6.blk
              have P6 := P5.kept hw6.kept (fun i h => by omega)
              have z6 := hw6.size
              have hO6 := hO5.keptX hw6.kept (fun g hg h => by have := (hO5.block g hg).1; omega)
              have k6 := (((kdd.trans k3 (fun i _ h => h)).trans (Kept.new (X := (· = pb)) hw4) (fun i _ h => h)).trans kg (fun i h1 h2 => by have := hog _ h2; omega)).trans hw6.kept (fun i h1 h2 => by omega)
              have kY : Kept (fun i => i = w.heap.size ∨ sv.ownBlock = some i) w3 w6 := ((Kept.new (X := fun i => i = w.heap.size ∨ sv.ownBlock = some i) hw4).trans kg (fun i _ h => .inr h)).trans hw6.kept (fun i _ h => .inl h)
              have hX : ∀ i, (i < w.heap.size ∨ i = w.heap.size ∨ (Value.slice a5 (vs ++ [ub]).length c5).ownBlock = some i) → i < w.heap.size ∨ i = w.heap.size ∨ sv.ownBlock = some i ∨ w4.heap.size ≤ i := fun i h => by
                rcases h with h | h | h
                · exact .inl h
                · exact .inr (.inl h)
                · rcases hn5 i h with h | h
                  · exact .inr (.inr (.inl h))
                  · exact .inr (.inr (.inr h))
              have hV6 : PatsV (fun b => b < w.heap.size ∨ b = w.heap.size ∨ (Value.slice a5 (vs ++ [ub]).length c5).ownBlock = some b) w6 (vs ++ [ub]) (acc ++ [x]) := by
                refine PatsV.snoc (PatsV.mono kY (fun i h => ?_) (fun i h => ?_) hV3) (PatV.mono kY (fun i h => ?_) (fun i h => ?_) V3.top)
                · rcases h with h | h
                  · exact .inl (.inr (.inl h))
                  · exact .inl (.inr (.inr h))
                · rcases hX i h with h | h | h | h
                  · exact .inl (.inl h)
                  · exact .inl (.inr (.inl h))
                  · exact .inl (.inr (.inr h))
                  · exact .inr (by omega)
                · rcases h with h | h
                  · exact .inl (by omega)
                  · exact .inl (hob i h)
                · rcases hX i h with h | h | h | h
                  · exact .inl (by omega)
                  · exact .inl (by omega)
                  · exact .inl (hob i h)
                  · exact .inr (by omega)
              have hlen6 := P6.len
              have hlen1 := hP1.len
              have hnx : rowLoop (againW d (unitP d)) m' (acc ++ [x]) l2 = rowLoop (againW d (unitP d)) 1000 [] l0 := by rw [← hm2, hstep, pb_of hp]
              simp -dsimp only [push_cast, Nat.reduceAdd, Nat.reduceLeDiff, Nat.reduceBEq, Int.reduceNe, Int.reduceEq, Int.reduceLT, Int.reduceLE]
              exact ⟨⟨m', acc ++ [x], l2, _, vs ++ [ub], hnx, by omega, by rw [List.length_append, List.length_singleton]; omega, B6, hO6, hV6, P6, k6⟩, by rw [hlen6, hlen1]; exact hl2⟩
          | false =>
            have hst : startP l1 = false := by rw [hstP, hs3]
            have hfin : rowW (againW d (unitP d)) l0 = .ok (rowOf acc, l1) := by
              have hl : rowLoop (againW d (unitP d)) 1000 [] l0 = .ok (acc, l1) := by
                rw [← hm2]
                obtain ⟨m', hmm⟩ : ∃ m', m = m' + 1 := ⟨m - 1, by omega⟩
                rw [hmm, rowLoop]
                unfold pif
                rw [hst]
                rfl
              unfold rowW
              rw [pb_of hl]
              rfl
            have hV2l := PatsV.len hV2
            have hO2s := hO2.slice
            obtain ⟨va, vc, hsv⟩ := hO2s
            rw [hsv] at hB2 hO2 hV2
            have d2 : w2.cell? ⟨w.heap.size, 2, none⟩ = some (.slice va vs.length vc) := hB2.cell rfl
            have hsl := hO2.sl
            have hzs := k2.size
            simp -dsimp only [push_cast, Nat.reduceAdd, Nat.reduceLeDiff, Nat.reduceBEq, Int.reduceNe, Int.reduceEq, Int.reduceLT, Int.reduceLE, d2]
            refine ⟨fun h1 => ?_, fun h1 => ?_⟩
            · obtain ⟨u, hvs⟩ : ∃ u, vs = [u] := List.length_eq_one_iff.1 (by omega)
              obtain ⟨x, hac⟩ : ∃ x, acc = [x] := List.length_eq_one_iff.1 (by omega)
              rw [hvs] at hsl d2 hV2
              rw [hac] at hV2 hfin
              simp only [PatsV, and_true] at hV2
              obtain ⟨b5, o5, rfl, _, hcell⟩ := hsl.get (i := 0) (x := u) rfl
              have d5 : w2.cell? ⟨b5, o5, none⟩ = some (ptrP u) := by have := hcell 0 _ rfl; simpa using this
              simp only [List.length_cons, List.length_nil, Nat.zero_add] at d2
              simp -dsimp only [push_cast, Nat.reduceAdd, Nat.reduceLeDiff, Nat.reduceBEq, Int.reduceNe, Int.reduceEq, Int.reduceLT, Int.reduceLE, d2, Nat.zero_mul, Nat.add_zero, d5]
              refine ⟨by omega, x, l1, hfin, PatV.mono (Kept.refl (fun _ => False) _) (fun _ h => h.elim) (fun i h => .inl h) hV2, P2, k2⟩
            · have hne : acc.length ≠ 1 := by omega
              have hro : rowOf acc = .cat acc := by
                unfold rowOf
                split
                · rename_i x
                  exact absurd rfl hne
                · rfl
              refine ⟨.cat acc, l1, by rw [← hro]; exact hfin, ?_, P2, k2⟩
              simp only [PatV]
              exact ⟨_, _, vs, rfl, by omega, hB2, hsl.weaken (fun i h => by omega), PatsV.mono (Kept.refl (fun _ => False) _) (fun _ h => h.elim) (fun i h => .inl h) hV2⟩
  · have hst : startP l1 = true := by
      have : t1.kind = 3 := by omega
      rw [hstP, this]; rfl
    have P2 := hP1
    have hB2 := hB
    have hO2 := hO
    have hV2 := hV
    have k2 := hkw
    -- at world w': hB2 hO2 hV2 P2 k2
    have hm1 : ∃ m', m = m' + 1 := ⟨m - 1, by omega⟩
    obtain ⟨m', hmm⟩ := hm1
    have hz2 : w.heap.size < w'.heap.size := hB2.lt
    have kd : Kept (fun _ => False) w' w'.drew := (Kept.refl _ _).drew
    have hBd := hB2.kept kd (fun h => h)
    have Pd := P2.kept kd (fun i h => h.elim)
    have kdd := k2.trans kd (fun i h1 h2 => h2.elim)
    have d2 : w'.drew.cell? ⟨w.heap.size, 2, none⟩ = some sv := hBd.cell rfl
    have hstep : rowLoop (againW d (unitP d)) m acc l1 = Cae.pb (againW d (unitP d)) (fun x => rowLoop (againW d (unitP d)) m' (acc ++ [x])) l1 := by
      rw [hmm, rowLoop]
      unfold pif
      rw [hst, if_pos rfl]
    cases hp : againW d (unitP d) l1 with
    | error e =>
      refine wpL_boom (E := PThr pb w l0 (rowW (againW d (unitP d)))) [(), (), (), (), (), (), ()] mixed (by kernel_rfl) (fun ce te we hE => ?_) ?_
      · simp -dsimp only [push_cast, Nat.reduceAdd, Nat.reduceLeDiff, Nat.reduceBEq, Int.reduceNe, Int.reduceEq, Int.reduceLT, Int.reduceLE]
        exact hE
      · simp -dsimp only [push_cast, Nat.reduceAdd, Nat.reduceLeDiff, Nat.reduceBEq, Int.reduceNe, Int.reduceEq, Int.reduceLT, Int.reduceLE, d2]
        refine ⟨fun w'' h => by rw [h, d2]; exact rfl, ?_⟩
        refine callB_of (ha n hn0 hn pb B w'.drew l1 Pd) (fun v we ⟨x, l', h1, _⟩ => by rw [hp] at h1; cases h1) ?_
        rintro ce we ⟨en, pos, he, ht, hke⟩
        refine ⟨en, pos, ?_, ht.mono (by have := kdd.size; omega), kdd.trans hke (fun i _ h => h)⟩
        have hl : rowLoop (againW d (unitP d)) 1000 [] l0 = .error (en, pos) := by
          rw [← hm2, hstep]
          unfold Cae.pb
          rw [he]
        unfold rowW Cae.pb
        rw [hl]
    | ok q =>
      obtain ⟨x, l2⟩ := q
      have hl2 : l2.length < l1.length := again_less hp
      refine wpL_lastN (fun w' => Blk w' w.heap.size 39 [.int .i64 4, .pointer none, sv, .int .i64 0, .int .i64 0]) mixed (by kernel_rfl) (by simp) hB2.drew ?_
      simp -dsimp only [push_cast, Nat.reduceAdd, Nat.reduceLeDiff, Nat.reduceBEq, Int.reduceNe, Int.reduceEq, Int.reduceLT, Int.reduceLE, d2]
      refine ⟨fun w'' h => by rw [Blk.cell h (o := 2) rfl]; exact rfl, ?_⟩
      refine callP_of (ha n hn0 hn pb B w'.drew l1 Pd) ?_ (fun ce we ⟨en, pos, he, _⟩ => by rw [hp] at he; cases he)
      rintro u w3 ⟨x', l2', e3, V3, P3, k3⟩
      obtain ⟨rfl, rfl⟩ : x = x' ∧ l2 = l2' := by rw [hp] at e3; cases e3; exact ⟨rfl, rfl⟩
      obtain ⟨ub, rfl, hub, hubX⟩ := V3.ptr
      have B3 := hBd.kept k3 (by omega)
      have z3 := k3.size
      have hzd : w'.heap.size = w'.drew.heap.size := rfl
      have hob : ∀ g, sv.ownBlock = some g → g < w'.heap.size := fun g hg => (hO2.block g hg).2
      have hO3 := (hO2.keptX kd (fun g _ h => h)).keptX k3 (fun g hg h => by have := (hO2.block g hg).1; omega)
      have hV3 := PatsV.mono (X' := fun b => (b < w.heap.size ∨ b = w.heap.size ∨ sv.ownBlock = some b) ∨ w'.heap.size ≤ b) ((kd.weaken (Y := (· = pb)) (fun i _ h => h.elim)).trans k3 (fun i _ h => h)) (fun i h => by omega) (fun i h => h) (PatsV.top hV2)
      refine ⟨B3, ?_⟩
      simp -dsimp only [push_cast, Nat.reduceAdd, Nat.reduceLeDiff, Nat.reduceBEq, Int.reduceNe, Int.reduceEq, Int.reduceLT, Int.reduceLE]
      refine rowK elI_37 rfl rfl (by omega) ?_
      intro w4 hw4
      have B4 := B3.below hw4.below B3.lt
      have z4 := hw4.size
      have hO4 := hO3.new hw4
      have P4 := P3.below hw4.below
      refine ⟨B4, ?_⟩
      simp -dsimp only [push_cast, Nat.reduceAdd, Nat.reduceLeDiff, Nat.reduceBEq, Int.reduceNe, Int.reduceEq, Int.reduceLT, Int.reduceLE]
      refine appendK2 (base := w.heap.size + 1) [ub] (enc := encP) elI_37 hO4 (by rfl) (fun j y hy => by simpa [encP, ptrP] using hw4.cell hy) encP_one (by rw [PatsV.len hV2]; simp only [List.length_cons, List.length_nil]; omega) (by omega) ?_
      intro sv5 w5 hO5 hg5 hn5
      have kg : Kept (fun j => sv.ownBlock = some j) w4 w5 := Kept.grown hg5 (fun _ h => h)
      have hog : ∀ g, sv.ownBlock = some g → w.heap.size + 1 ≤ g := fun g hg => (hO2.block g hg).1
      have B5 := B4.kept kg (fun h => by have := hog _ h; omega)
      have P5 := P4.kept kg (fun i h => by have := hog _ h; omega)
      have z5 := kg.size
      refine ⟨B5, ?_⟩
      obtain ⟨a5, c5, rfl⟩ := hO5.slice
      simp -dsimp only [push_cast, Nat.reduceAdd, Nat.reduceLeDiff, Nat.reduceBEq, Int.reduceNe, Int.reduceEq, Int.reduceLT, Int.reduceLE]
      refine storeK_of B5 (by simp) rfl ?_
      intro w6 hw6
      have B6 : Blk w6 w.heap.size 39 [.int .i64 4, .pointer none, .slice a5 (vs ++ [ub]).length c5, .int .i64 0, .int .i64 0] := hw6.blk
      have P6 := P5.kept hw6.kept (fun i h => by omega)
      have z6 := hw6.size
      have hO6 := hO5.keptX hw6.kept (fun g hg h => by have := (hO5.block g hg).1; omega)
      have k6 := (((kdd.trans k3 (fun i _ h => h)).trans (Kept.new (X := (· = pb)) hw4) (fun i _ h => h)).trans kg (fun i h1 h2 => by have := hog _ h2; omega)).trans hw6.kept (fun i h1 h2 => by omega)
      have kY : Kept (fun i => i = w.heap.size ∨ sv.ownBlock = some i) w3 w6 := ((Kept.new (X := fun i => i = w.heap.size ∨ sv.ownBlock = some i) hw4).trans kg (fun i _ h => .inr h)).trans hw6.kept (fun i _ h => .inl h)
      have hX : ∀ i, (i < w.heap.size ∨ i = w.heap.size ∨ (Value.slice a5 (vs ++ [ub]).length c5).ownBlock = some i) → i < w.heap.size ∨ i = w.heap.size ∨ sv.ownBlock = some i ∨ w4.heap.size ≤ i := fun i h => by
        rcases h with h | h | h
        · exact .inl h
        · exact .inr (.inl h)
        · rcases hn5 i h with h | h
          · exact .inr (.inr (.inl h))
          · exact .inr (.inr (.inr h))
      have hV6 : PatsV (fun b => b < w.heap.size ∨ b = w.heap.size ∨ (Value.slice a5 (vs ++ [ub]).length c5).ownBlock = some b) w6 (vs ++ [ub]) (acc ++ [x]) := by
        refine PatsV.snoc (PatsV.mono kY (fun i h => ?_) (fun i h => ?_) hV3) (PatV.mono kY (fun i h => ?_) (fun i h => ?_) V3.top)
        · rcases h with h | h
          · exact .inl (.inr (.inl h))
          · exact .inl (.inr (.inr h))
        · rcases hX i h with h | h | h | h
          · exact .inl (.inl h)
          · exact .inl (.inr (.inl h))
          · exact .inl (.inr (.inr h))
          · exact .inr (by omega)
        · rcases h with h | h
          · exact .inl (by omega)
          · exact .inl (hob i h)
        · rcases hX i h with h | h | h | h
          · exact .inl (by omega)
          · exact .inl (by omega)
          · exact .inl (hob i h)
          · exact .inr (by omega)
      have hlen6 := P6.len
      have hlen1 := hP1.len
      have hnx : rowLoop (againW d (unitP d)) m' (acc ++ [x]) l2 = rowLoop (againW d (unitP d)) 1000 [] l0 := by rw [← hm2, hstep, pb_of hp]
      simp -dsimp only [push_cast, Nat.reduceAdd, Nat.reduceLeDiff, Nat.reduceBEq, Int.reduceNe, Int.reduceEq, Int.reduceLT, Int.reduceLE]
      exact ⟨⟨m', acc ++ [x], l2, _, vs ++ [ub], hnx, by omega, by rw [List.length_append, List.length_singleton]; omega, B6, hO6, hV6, P6, k6⟩, by rw [hlen6, hlen1]; exact hl2⟩
theorem row_le {d:Nat} {l l':List Tok} {x:PatP} (h:rowW (againW d (unitP d)) l=.ok (x,l')):l'.length≤l.length:=Lo.le (lo_rowW (lo_againW (lo_unit d))) _ _ _ h
theorem pat_of (d : Nat) (hrow : RowC d) : PatC d := by
  intro n hn0 hn pb B w l0 h0
  have hle := h0.le
  have hlt := h0.lt
  refine fun2_of_vc Tryz.func99 rfl (by kernel_rfl) [.tmp 4] rfl ?_
  simp -dsimp (maxSteps := 4000000) only [push_cast, fr0, Tryz.ntmps99, List.length_cons, List.length_nil, Nat.reduceAdd, Nat.reduceSub, Nat.reduceBEq, List.replicate_succ, List.replicate_zero]
  refine callP_of (deep_c n h0) ?_ ?_
  rotate_left
  · rintro c w' ⟨h8, ht, hb⟩
    have hd0 : d = 0 := by omega
    subst hd0
    simp -dsimp only [push_cast, Nat.reduceAdd, Nat.reduceLeDiff, Nat.reduceBEq, Int.reduceNe, Int.reduceEq, Int.reduceLT, Int.reduceLE]
    exact ⟨4, _, rfl, ht, Kept.of_below hb (fun i h1 h2 => by omega)⟩
  rintro _ w0 ⟨h8, rfl, hw0⟩
  obtain rfl : w = w0 := hw0.symm
  have hpat : patP d l0 = Cae.pb (rowW (againW d (unitP d))) (fun x => Cae.pb (altLoop (rowW (againW d (unitP d))) 1000 [x]) fun ps => pr (altOf ps)) l0 := by
    unfold patP patW
    rw [if_neg (by omega)]
    rfl
  simp -dsimp only [push_cast, Nat.reduceAdd, Nat.reduceLeDiff, Nat.reduceBEq, Int.reduceNe, Int.reduceEq, Int.reduceLT, Int.reduceLE]
  refine callP_of (hrow n hn0 hn pb B w l0 h0) ?_ ?_
  rotate_left
  · rintro c w' ⟨e, pos, he, ht, hk⟩
    simp -dsimp only [push_cast, Nat.reduceAdd, Nat.reduceLeDiff, Nat.reduceBEq, Int.reduceNe, Int.reduceEq, Int.reduceLT, Int.reduceLE]
    refine ⟨e, pos, ?_, ht, hk⟩
    rw [hpat]
    unfold Cae.pb
    rw [he]
  rintro v1 w1 ⟨x0, l1', e1, V1, P1, k1⟩
  obtain ⟨ub, rfl, hub, hubX⟩ := V1.ptr
  have z1 := k1.size
  simp -dsimp only [push_cast, Nat.reduceAdd, Nat.reduceLeDiff, Nat.reduceBEq, Int.reduceNe, Int.reduceEq, Int.reduceLT, Int.reduceLE]
  refine rowK elI_37 rfl rfl (by omega) ?_
  intro w2 hw2
  have z2 := hw2.size
  have O2 : Go.Vc.Own w.heap.size 35 1 encP w2 (.slice (some ⟨w1.heap.size, 0, none⟩) 1 1) [ub] := hw2.own (by rfl) rfl (fun _ => rfl) (by omega) (by omega)
  simp -dsimp only [push_cast, Nat.reduceAdd, Nat.reduceLeDiff, Nat.reduceBEq, Int.reduceNe, Int.reduceEq, Int.reduceLT, Int.reduceLE]
  refine boxK_of ?_
  intro w3 hw3
  have B3 := hw3.blk
  have O3 := O2.new hw3
  have P3 := (P1.below hw2.below).below hw3.below
  have k3 := (k1.trans (Kept.new (X := (· = pb)) hw2) (fun i _ h => h)).trans (Kept.new (X := (· = pb)) hw3) (fun i _ h => h)
  have V3 := (V1.top.below hw2.below).below hw3.below
  have hxb : ∃ xb, xb = w2.heap.size := ⟨_, rfl⟩
  obtain ⟨xb, hxb⟩ := hxb
  have hxb0 : w.heap.size ≤ xb := by omega
  rw [← hxb] at B3
  simp -dsimp only [push_cast, Nat.reduceAdd, Nat.reduceLeDiff, Nat.reduceBEq, Int.reduceNe, Int.reduceEq, Int.reduceLT, Int.reduceLE, ← hxb]
  refine wpL_loop [15, 16, 17, 18, 19, 20, 21, 22, 23, 24, 25, 26, 27, 28] (fun z w' => ∃ (m : Nat) (acc : List PatP) (l1 : List Tok) (sv : Value) (vs : List Nat), altLoop (rowW (againW d (unitP d))) m acc l1 = altLoop (rowW (againW d (unitP d))) 1000 [x0] l1' ∧ l1.length < m ∧ acc.length + m ≤ 1001 ∧
      Blk w' xb 39 [.int .i64 5, .pointer none, sv, .int .i64 0, .int .i64 0] ∧ Go.Vc.Own w.heap.size 35 1 encP w' sv vs ∧ (∀ g, sv.ownBlock = some g → g ≠ xb) ∧ PatsV (fun b => b < w.heap.size ∨ b = xb ∨ sv.ownBlock = some b) w' vs acc ∧ PS pb B w' l1 ∧ Kept (· = pb) w w') (fun z w' => lenAt w' pb) ?_ ?_
  · have hlt : l1'.length < 1000 := by have := P1.tl.len; omega
    have hV0 : PatsV (fun b => b < w.heap.size ∨ b = xb ∨ (Value.slice (some ⟨w1.heap.size, 0, none⟩) 1 1).ownBlock = some b) w3 [ub] [x0] := by
      simp only [PatsV, and_true]
      refine PatV.mono (Kept.refl (fun _ => False) _) (fun _ h => h.elim) (fun i h => ?_) V3
      rcases h with h | h | h
      · exact .inl h
      · exact .inr (by omega)
      · have : w1.heap.size = i := by simpa [Value.ownBlock] using h
        exact .inr (by omega)
    have hne0 : ∀ g, (Value.slice (some ⟨w1.heap.size, 0, none⟩) 1 1).ownBlock = some g → g ≠ xb := fun g hg => by
      have : w1.heap.size = g := by simpa [Value.ownBlock] using hg
      omega
    exact ⟨1000, [x0], l1', _, [ub], rfl, hlt, by simp, B3, O3, hne0, hV0, P3, k3⟩
  rintro z w' ⟨m, acc, l1, sv, vs, hm2, hm, hacc, hBq, hOq, hne2, hVq, hP1, kq⟩
  have hzw := kq.size
  simp -dsimp only [push_cast, Nat.reduceAdd, Nat.reduceLeDiff, Nat.reduceBEq, Int.reduceNe, Int.reduceEq, Int.reduceLT, Int.reduceLE, ← hxb]
  refine callK_of (take_c [124] hP1) ?_
  rintro _ w2' hT
  rcases hT with ⟨hst, rfl, t1, r1', el1, h51, P2, kt, hz⟩ | ⟨hst, rfl, hww⟩
  · have hpop : popP l1 = .ok ((), r1') := by rw [el1]; exact popP_cons h51
    have hl1 : l1.length = r1'.length + 1 := by rw [el1, List.length_cons]
    have hB2 := hBq.kept kt (by omega)
    have hO2 := hOq.keptX kt (fun g hg h => by have := (hOq.block g hg).1; omega)
    have hV2 : PatsV (fun b => b < w.heap.size ∨ b = xb ∨ sv.ownBlock = some b) w2' vs acc := PatsV.mono kt (fun i h => by omega) (fun i h => h) hVq
    have k2 := kq.trans kt (fun i _ h => h)
    simp -dsimp only [push_cast, Nat.reduceAdd, Nat.reduceLeDiff, Nat.reduceBEq, Int.reduceNe, Int.reduceEq, Int.reduceLT, Int.reduceLE, ← hxb]
    -- at world w2': hB2 hO2 hV2 P2 k2
    have hm1 : ∃ m', m = m' + 1 := ⟨m - 1, by omega⟩
    obtain ⟨m', hmm⟩ := hm1
    have hz2 : xb < w2'.heap.size := hB2.lt
    have kd : Kept (fun _ => False) w2' w2'.drew := (Kept.refl _ _).drew
    have hBd := hB2.kept kd (fun h => h)
    have Pd := P2.kept kd (fun i h => h.elim)
    have kdd := k2.trans kd (fun i h1 h2 => h2.elim)
    have d2 : w2'.drew.cell? ⟨xb, 2, none⟩ = some sv := hBd.cell rfl
    have hstep : altLoop (rowW (againW d (unitP d))) m acc l1 = Cae.pb (rowW (againW d (unitP d))) (fun x => altLoop (rowW (againW d (unitP d))) m' (acc ++ [x])) r1' := by
      rw [hmm, altLoop]
      unfold pif
      rw [hst, if_pos rfl, pb_of hpop]
    cases hp : rowW (againW d (unitP d)) r1' with
    | error e =>
      refine wpL_boom (E := PThr pb w l0 (patP d)) [(), (), (), (), (), (), ()] mixed (by kernel_rfl) (fun ce te we hE => ?_) ?_
      · simp -dsimp only [push_cast, Nat.reduceAdd, Nat.reduceLeDiff, Nat.reduceBEq, Int.reduceNe, Int.reduceEq, Int.reduceLT, Int.reduceLE]
        exact hE
      · simp -dsimp only [push_cast, Nat.reduceAdd, Nat.reduceLeDiff, Nat.reduceBEq, Int.reduceNe, Int.reduceEq, Int.reduceLT, Int.reduceLE, d2]
        refine ⟨fun w'' h => by rw [h, d2]; exact rfl, ?_⟩
        refine callB_of (hrow n hn0 hn pb B w2'.drew r1' Pd) (fun v we ⟨x, l', h1, _⟩ => by rw [hp] at h1; cases h1) ?_
        rintro ce we ⟨en, pos, he, ht, hke⟩
        refine ⟨en, pos, ?_, ht.mono (by have := kdd.size; omega), kdd.trans hke (fun i _ h => h)⟩
        have hl : altLoop (rowW (againW d (unitP d))) 1000 [x0] l1' = .error (en, pos) := by
          rw [← hm2, hstep]
          unfold Cae.pb
          rw [he]
        rw [hpat, pb_of e1]
        unfold Cae.pb
        rw [hl]
    | ok q =>
      obtain ⟨x, l2⟩ := q
      have hl2 : l2.length < l1.length := by
        have := row_le hp
        rw [hl1]; omega
      refine wpL_lastN (fun w' => Blk w' xb 39 [.int .i64 5, .pointer none, sv, .int .i64 0, .int .i64 0]) mixed (by kernel_rfl) (by simp) hB2.drew ?_
      simp -dsimp only [push_cast, Nat.reduceAdd, Nat.reduceLeDiff, Nat.reduceBEq, Int.reduceNe, Int.reduceEq, Int.reduceLT, Int.reduceLE, d2]
      refine ⟨fun w'' h => by rw [Blk.cell h (o := 2) rfl]; exact rfl, ?_⟩
      refine callP_of (hrow n hn0 hn pb B w2'.drew r1' Pd) ?_ (fun ce we ⟨en, pos, he, _⟩ => by rw [hp] at he; cases he)
      rintro u w3 ⟨x', l2', e3, V3, P3, k3⟩
      obtain ⟨rfl, rfl⟩ : x = x' ∧ l2 = l2' := by rw [hp] at e3; cases e3; exact ⟨rfl, rfl⟩
      obtain ⟨ub, rfl, hub, hubX⟩ := V3.ptr
      have B3 := hBd.kept k3 (by omega)
      have z3 := k3.size
      have hzd : w2'.heap.size = w2'.drew.heap.size := rfl
      have hob : ∀ g, sv.ownBlock = some g → g < w2'.heap.size := fun g hg => (hO2.block g hg).2
      have hO3 := (hO2.keptX kd (fun g _ h => h)).keptX k3 (fun g hg h => by have := (hO2.block g hg).1; omega)
      have hV3 := PatsV.mono (X' := fun b => (b < w.heap.size ∨ b = xb ∨ sv.ownBlock = some b) ∨ w2'.heap.size ≤ b) ((kd.weaken (Y := (· = pb)) (fun i _ h => h.elim)).trans k3 (fun i _ h => h)) (fun i h => by omega) (fun i h => h) (PatsV.top hV2)
      refine ⟨B3, ?_⟩
      simp -dsimp only [push_cast, Nat.reduceAdd, Nat.reduceLeDiff, Nat.reduceBEq, Int.reduceNe, Int.reduceEq, Int.reduceLT, Int.reduceLE]
      refine rowK elI_37 rfl rfl (by omega) ?_
      intro w4 hw4
      have B4 := B3.below hw4.below B3.lt
      have z4 := hw4.size
      have hO4 := hO3.new hw4
      have P4 := P3.below hw4.below
      refine ⟨B4, ?_⟩
      simp -dsimp only [push_cast, Nat.reduceAdd, Nat.reduceLeDiff, Nat.reduceBEq, Int.reduceNe, Int.reduceEq, Int.reduceLT, Int.reduceLE]
      refine appendK2 (base := w.heap.size) [ub] (enc := encP) elI_37 hO4 (by rfl) (fun j y hy => by simpa [encP, ptrP] using hw4.cell hy) encP_one (by rw [PatsV.len hV2]; simp only [List.length_cons, List.length_nil]; omega) (by omega) ?_
      intro sv5 w5 hO5 hg5 hn5
      have kg : Kept (fun j => sv.ownBlock = some j) w4 w5 := Kept.grown hg5 (fun _ h => h)
      have hog : ∀ g, sv.ownBlock = some g → w.heap.size ≤ g ∧ g ≠ xb := fun g hg => ⟨(hO2.block g hg).1, hne2 g hg⟩
      have B5 := B4.kept kg (fun h => by have := hog _ h; omega)
      have P5 := P4.kept kg (fun i h => by have := hog _ h; omega)
      have z5 := kg.size
      refine ⟨B5, ?_⟩
      obtain ⟨a5, c5, rfl⟩ := hO5.slice
      simp -dsimp only [push_cast, Nat.reduceAdd, Nat.reduceLeDiff, Nat.reduceBEq, Int.reduceNe, Int.reduceEq, Int.reduceLT, Int.reduceLE]
      refine storeK_of B5 (by simp) rfl ?_
      intro w6 hw6
      have B6 : Blk w6 xb 39 [.int .i64 5, .pointer none, .slice a5 (vs ++ [ub]).length c5, .int .i64 0, .int .i64 0] := hw6.blk
      have P6 := P5.kept hw6.kept (fun i h => by omega)
      have z6 := hw6.size
      have hne6 : ∀ g, (Value.slice a5 (vs ++ [ub]).length c5).ownBlock = some g → g ≠ xb := fun g hg => by
        rcases hn5 g hg with h | h
        · exact (hog g h).2
        · omega
      have hO6 := hO5.keptX hw6.kept (fun g hg h => hne6 g hg h)
      have k6 := (((kdd.trans k3 (fun i _ h => h)).trans (Kept.new (X := (· = pb)) hw4) (fun i _ h => h)).trans kg (fun i h1 h2 => by have := hog _ h2; omega)).trans hw6.kept (fun i h1 h2 => by omega)
      have kY : Kept (fun i => i = xb ∨ sv.ownBlock = some i) w3 w6 := ((Kept.new (X := fun i => i = xb ∨ sv.ownBlock = some i) hw4).trans kg (fun i _ h => .inr h)).trans hw6.kept (fun i _ h => .inl h)
      have hX : ∀ i, (i < w.heap.size ∨ i = xb ∨ (Value.slice a5 (vs ++ [ub]).length c5).ownBlock = some i) → i < w.heap.size ∨ i = xb ∨ sv.ownBlock = some i ∨ w4.heap.size ≤ i := fun i h => by
        rcases h with h | h | h
        · exact .inl h
        · exact .inr (.inl h)
        · rcases hn5 i h with h | h
          · exact .inr (.inr (.inl h))
          · exact .inr (.inr (.inr h))
      have hV6 : PatsV (fun b => b < w.heap.size ∨ b = xb ∨ (Value.slice a5 (vs ++ [ub]).length c5).ownBlock = some b) w6 (vs ++ [ub]) (acc ++ [x]) := by
        refine PatsV.snoc (PatsV.mono kY (fun i h => ?_) (fun i h => ?_) hV3) (PatV.mono kY (fun i h => ?_) (fun i h => ?_) V3.top)
        · rcases h with h | h
          · exact .inl (.inr (.inl h))
          · exact .inl (.inr (.inr h))
        · rcases hX i h with h | h | h | h
          · exact .inl (.inl h)
          · exact .inl (.inr (.inl h))
          · exact .inl (.inr (.inr h))
          · exact .inr (by omega)
        · rcases h with h | h
          · exact .inl (by omega)
          · exact .inl (hob i h)
        · rcases hX i h with h | h | h | h
          · exact .inl (by omega)
          · exact .inl (by omega)
          · exact .inl (hob i h)
          · exact .inr (by omega)
      have hlen6 := P6.len
      have hlen1 := hP1.len
      have hnx : altLoop (rowW (againW d (unitP d))) m' (acc ++ [x]) l2 = altLoop (rowW (againW d (unitP d))) 1000 [x0] l1' := by rw [← hm2, hstep, pb_of hp]
      simp -dsimp only [push_cast, Nat.reduceAdd, Nat.reduceLeDiff, Nat.reduceBEq, Int.reduceNe, Int.reduceEq, Int.reduceLT, Int.reduceLE]
      exact ⟨⟨m', acc ++ [x], l2, _, vs ++ [ub], hnx, by omega, by rw [List.length_append, List.length_singleton]; omega, B6, hO6, hne6, hV6, P6, k6⟩, by rw [hlen6, hlen1]; exact hl2⟩
  · obtain rfl : w' = w2' := hww.symm
    have hfin : patP d l0 = .ok (altOf acc, l1) := by
      have hl : altLoop (rowW (againW d (unitP d))) 1000 [x0] l1' = .ok (acc, l1) := by
        rw [← hm2]
        obtain ⟨m', hmm⟩ : ∃ m', m = m' + 1 := ⟨m - 1, by omega⟩
        rw [hmm, altLoop]
        unfold pif
        rw [hst]
        rfl
      rw [hpat, pb_of e1, pb_of hl]
      rfl
    have hB2 := hBq
    have hO2 := hOq
    have hV2 := hVq
    have P2 := hP1
    have k2 := kq
    have hV2l := PatsV.len hV2
    have hO2s := hO2.slice
    obtain ⟨va, vc, hsv⟩ := hO2s
    rw [hsv] at hB2 hO2 hV2
    have d2 : w'.cell? ⟨xb, 2, none⟩ = some (.slice va vs.length vc) := hB2.cell rfl
    have hsl := hO2.sl
    have hzs := k2.size
    simp -dsimp only [push_cast, Nat.reduceAdd, Nat.reduceLeDiff, Nat.reduceBEq, Int.reduceNe, Int.reduceEq, Int.reduceLT, Int.reduceLE, d2]
    refine ⟨fun h1 => ?_, fun h1 => ?_⟩
    · obtain ⟨u, hvs⟩ : ∃ u, vs = [u] := List.length_eq_one_iff.1 (by omega)
      obtain ⟨x, hac⟩ : ∃ x, acc = [x] := List.length_eq_one_iff.1 (by omega)
      rw [hvs] at hsl d2 hV2
      rw [hac] at hV2 hfin
      simp only [PatsV, and_true] at hV2
      obtain ⟨b5, o5, rfl, _, hcell⟩ := hsl.get (i := 0) (x := u) rfl
      have d5 : w'.cell? ⟨b5, o5, none⟩ = some (ptrP u) := by have := hcell 0 _ rfl; simpa using this
      simp only [List.length_cons, List.length_nil, Nat.zero_add] at d2
      simp -dsimp only [push_cast, Nat.reduceAdd, Nat.reduceLeDiff, Nat.reduceBEq, Int.reduceNe, Int.reduceEq, Int.reduceLT, Int.reduceLE, d2, Nat.zero_mul, Nat.add_zero, d5]
      refine ⟨by omega, x, l1, hfin, PatV.mono (Kept.refl (fun _ => False) _) (fun _ h => h.elim) (fun i h => .inl h) hV2, P2, k2⟩
    · have hne : acc.length ≠ 1 := by omega
      have hro : altOf acc = .alt acc := by
        unfold altOf
        split
        · rename_i x
          exact absurd rfl hne
        · rfl
      refine ⟨.alt acc, l1, by rw [← hro]; exact hfin, ?_, P2, k2⟩
      simp only [PatV]
      exact ⟨_, _, vs, rfl, by omega, hB2, hsl.weaken (fun i h => by omega), PatsV.mono (Kept.refl (fun _ => False) _) (fun _ h => h.elim) (fun i h => .inl h) hV2⟩
end Go.Proofs.YtledlfbbebodgaaGreatDoor
end
