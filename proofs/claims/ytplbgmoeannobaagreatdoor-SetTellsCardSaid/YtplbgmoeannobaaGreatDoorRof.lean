import Derived.Test.YtplbgmoeannobaaGreatDoorTold
/- The reference's Of, Or, And, Less, Not. -/
namespace Go.Proofs.YtplbgmoeannobaaGreatDoor
open Go.Vc Go.Proofs Go.RowKit Cae
set_option maxRecDepth 100000
set_option linter.unusedSimpArgs false
set_option linter.unusedVariables false
attribute [local irreducible] wpL callK valK unitK runK Fun Sl Own vc vcOps opK pureK
set_option maxHeartbeats 4000000
-- Or: the function; Or$1: its closure; hasP s p || hasP t p: the plain question; setOr s t: the plain set
theorem rOrF_c (s t : List Rg) (hs : s.length < 1000000) (ht : t.length < 1000000) (X : Nat → Prop) (va vb : Value) (pa pb : Nat) (p : Int) (w : World) (hva : Sl X 2 (En encR) w va s) (hvb : Sl X 2 (En encR) w vb t) (ca : w.cell? ⟨pa, 0, none⟩ = some va) (cb : w.cell? ⟨pb, 0, none⟩ = some vb) :
    Fun Tryz.prog 34 [.int .i64 p, .pointer (some ⟨pa, 0, none⟩), .pointer (some ⟨pb, 0, none⟩)] w fun r w' => r = .bool ((fun p => hasP s p || hasP t p) p) ∧ Below w.heap.size w w' := by
  refine fun_of_vc Tryz.func34 rfl (by kernel_rfl) [4] rfl ?_
  push_cast -dsimp (maxSteps := 4000000) [Tryz.ntmps34]
  push_cast -dsimp [ca]
  refine callK_of (hasR_c s p (by omega) X va w hva) ?_
  rintro _ w1 ⟨rfl, hb1⟩
  have cb1 : w1.cell? ⟨pb, 0, none⟩ = some vb := (hb1.cell (World.block_lt_of_cell? w _ cb)).trans cb
  have hz := hb1.size
  cases hh : hasP s p <;> push_cast -dsimp [cb1] <;> first | exact ⟨by simp [hh], hb1⟩ | (refine callK_of (hasR_c t p (by omega) X vb w1 (hvb.below hb1)) ?_; rintro _ w2 ⟨rfl, hb2⟩; push_cast -dsimp; exact ⟨by simp [hh], hb1.trans (hb2.mono hz)⟩)
theorem rOr_c (s t : List Rg) (hs : s.length < 100000) (ht : t.length < 100000) (hrs : setRight (-2) s = true) (hrt : setRight (-2) t = true) (X : Nat → Prop) (va vb : Value) (w : World) (hva : Sl X 2 (En encR) w va s) (hvb : Sl X 2 (En encR) w vb t) :
    Fun Tryz.prog 12 [va, vb] w fun r w' => Own w.heap.size 42 2 encR w' r (setOr s t) ∧ Below w.heap.size w w' := by
  have e1 := hva.shape
  obtain ⟨a1, c1, e1, _⟩ := e1
  have e2 := hvb.shape
  obtain ⟨a2, c2, e2, _⟩ := e2
  refine fun_of_vc Tryz.func12 rfl (by kernel_rfl) [4] rfl ?_
  push_cast -dsimp (maxSteps := 4000000) [Tryz.ntmps12]
  refine boxK_of ?_
  intro w1 hw1
  have sz1 := hw1.size
  have d1 := hw1.cell (j := 0) (u := va) (by rw [e1]; rfl)
  push_cast -dsimp
  refine boxK_of ?_
  intro w2 hw2
  have sz2 := hw2.size
  have d2 := hw2.cell (j := 0) (u := vb) (by rw [e2]; rfl)
  have d1' : w2.cell? ⟨w.heap.size, 0, none⟩ = some va := (hw2.below.cell (by rw [sz1]; exact Nat.lt_succ_self _)).trans d1
  have b2 : Below w.heap.size w w2 := hw1.below.trans (hw2.below.mono (by omega))
  push_cast -dsimp [d1', d2]
  refine rowK elI_74 (by rw [e1, e2]; rfl) rfl (by omega) ?_
  intro w3 hw3
  have sz3 := hw3.size
  have b3 : Below w.heap.size w w3 := b2.trans (hw3.below.mono (by omega))
  have c0 := hw3.cell (j := 0) (u := va) (by rw [e1, e2]; rfl)
  have c1' := hw3.cell (j := 1) (u := vb) (by rw [e1, e2]; rfl)
  have f1 : w3.cell? ⟨w.heap.size, 0, none⟩ = some va := (hw3.below.cell (by show w.heap.size < _; omega)).trans d1'
  have f2 : w3.cell? ⟨w1.heap.size, 0, none⟩ = some vb := (hw3.below.cell (by show w1.heap.size < _; omega)).trans d2
  push_cast -dsimp
  refine callK_of (told_c (fun p => hasP s p || hasP t p) _ [.pointer (some ⟨w.heap.size, 0, none⟩), .pointer (some ⟨w1.heap.size, 0, none⟩)] [(va, s), (vb, t)] (by simp [flatR]; omega) (by simp) X w2.heap.size 2 (by simp) w3 ?_ ?_ ?_) ?_
  · intro i p hp
    match i, hp with
    | 0, hp => cases hp; exact ⟨c0, hva.below b3⟩
    | 1, hp => cases hp; exact ⟨c1', hvb.below b3⟩
    | n + 2, hp => cases hp
  · intro p q hr
    simp only
    rw [asks_has s (fun r h => by simp [flatR, h]) p q hr, asks_has t (fun r h => by simp [flatR, h]) p q hr]
  · intro p w' hb'
    exact rOrF_c s t (by omega) (by omega) X va vb _ _ p w' ((hva.below b3).below hb') ((hvb.below b3).below hb') ((hb'.cell (by show w.heap.size < _; omega)).trans f1) ((hb'.cell (by show w1.heap.size < _; omega)).trans f2)
  rintro r w4 ⟨ho, hb4⟩
  have e : flatR [(va, s), (vb, t)] = s ++ t := by simp [flatR]
  rw [e, told_or hrs hrt] at ho
  push_cast -dsimp
  exact ⟨ho.mono (by omega), b3.trans (hb4.mono (by omega))⟩
-- And: the function; And$1: its closure; hasP s p && hasP t p: the plain question; setAnd s t: the plain set
theorem rAndF_c (s t : List Rg) (hs : s.length < 1000000) (ht : t.length < 1000000) (X : Nat → Prop) (va vb : Value) (pa pb : Nat) (p : Int) (w : World) (hva : Sl X 2 (En encR) w va s) (hvb : Sl X 2 (En encR) w vb t) (ca : w.cell? ⟨pa, 0, none⟩ = some va) (cb : w.cell? ⟨pb, 0, none⟩ = some vb) :
    Fun Tryz.prog 35 [.int .i64 p, .pointer (some ⟨pa, 0, none⟩), .pointer (some ⟨pb, 0, none⟩)] w fun r w' => r = .bool ((fun p => hasP s p && hasP t p) p) ∧ Below w.heap.size w w' := by
  refine fun_of_vc Tryz.func35 rfl (by kernel_rfl) [4] rfl ?_
  push_cast -dsimp (maxSteps := 4000000) [Tryz.ntmps35]
  push_cast -dsimp [ca]
  refine callK_of (hasR_c s p (by omega) X va w hva) ?_
  rintro _ w1 ⟨rfl, hb1⟩
  have cb1 : w1.cell? ⟨pb, 0, none⟩ = some vb := (hb1.cell (World.block_lt_of_cell? w _ cb)).trans cb
  have hz := hb1.size
  cases hh : hasP s p <;> push_cast -dsimp [cb1] <;> first | exact ⟨by simp [hh], hb1⟩ | (refine callK_of (hasR_c t p (by omega) X vb w1 (hvb.below hb1)) ?_; rintro _ w2 ⟨rfl, hb2⟩; push_cast -dsimp; exact ⟨by simp [hh], hb1.trans (hb2.mono hz)⟩)
theorem rAnd_c (s t : List Rg) (hs : s.length < 100000) (ht : t.length < 100000) (hrs : setRight (-2) s = true) (hrt : setRight (-2) t = true) (X : Nat → Prop) (va vb : Value) (w : World) (hva : Sl X 2 (En encR) w va s) (hvb : Sl X 2 (En encR) w vb t) :
    Fun Tryz.prog 14 [va, vb] w fun r w' => Own w.heap.size 42 2 encR w' r (setAnd s t) ∧ Below w.heap.size w w' := by
  have e1 := hva.shape
  obtain ⟨a1, c1, e1, _⟩ := e1
  have e2 := hvb.shape
  obtain ⟨a2, c2, e2, _⟩ := e2
  refine fun_of_vc Tryz.func14 rfl (by kernel_rfl) [4] rfl ?_
  push_cast -dsimp (maxSteps := 4000000) [Tryz.ntmps14]
  refine boxK_of ?_
  intro w1 hw1
  have sz1 := hw1.size
  have d1 := hw1.cell (j := 0) (u := va) (by rw [e1]; rfl)
  push_cast -dsimp
  refine boxK_of ?_
  intro w2 hw2
  have sz2 := hw2.size
  have d2 := hw2.cell (j := 0) (u := vb) (by rw [e2]; rfl)
  have d1' : w2.cell? ⟨w.heap.size, 0, none⟩ = some va := (hw2.below.cell (by rw [sz1]; exact Nat.lt_succ_self _)).trans d1
  have b2 : Below w.heap.size w w2 := hw1.below.trans (hw2.below.mono (by omega))
  push_cast -dsimp [d1', d2]
  refine rowK elI_74 (by rw [e1, e2]; rfl) rfl (by omega) ?_
  intro w3 hw3
  have sz3 := hw3.size
  have b3 : Below w.heap.size w w3 := b2.trans (hw3.below.mono (by omega))
  have c0 := hw3.cell (j := 0) (u := va) (by rw [e1, e2]; rfl)
  have c1' := hw3.cell (j := 1) (u := vb) (by rw [e1, e2]; rfl)
  have f1 : w3.cell? ⟨w.heap.size, 0, none⟩ = some va := (hw3.below.cell (by show w.heap.size < _; omega)).trans d1'
  have f2 : w3.cell? ⟨w1.heap.size, 0, none⟩ = some vb := (hw3.below.cell (by show w1.heap.size < _; omega)).trans d2
  push_cast -dsimp
  refine callK_of (told_c (fun p => hasP s p && hasP t p) _ [.pointer (some ⟨w.heap.size, 0, none⟩), .pointer (some ⟨w1.heap.size, 0, none⟩)] [(va, s), (vb, t)] (by simp [flatR]; omega) (by simp) X w2.heap.size 2 (by simp) w3 ?_ ?_ ?_) ?_
  · intro i p hp
    match i, hp with
    | 0, hp => cases hp; exact ⟨c0, hva.below b3⟩
    | 1, hp => cases hp; exact ⟨c1', hvb.below b3⟩
    | n + 2, hp => cases hp
  · intro p q hr
    simp only
    rw [asks_has s (fun r h => by simp [flatR, h]) p q hr, asks_has t (fun r h => by simp [flatR, h]) p q hr]
  · intro p w' hb'
    exact rAndF_c s t (by omega) (by omega) X va vb _ _ p w' ((hva.below b3).below hb') ((hvb.below b3).below hb') ((hb'.cell (by show w.heap.size < _; omega)).trans f1) ((hb'.cell (by show w1.heap.size < _; omega)).trans f2)
  rintro r w4 ⟨ho, hb4⟩
  have e : flatR [(va, s), (vb, t)] = s ++ t := by simp [flatR]
  rw [e, told_and hrs hrt] at ho
  push_cast -dsimp
  exact ⟨ho.mono (by omega), b3.trans (hb4.mono (by omega))⟩
-- Less: the function; Less$1: its closure; hasP s p && !hasP t p: the plain question; setLess s t: the plain set
theorem rLessF_c (s t : List Rg) (hs : s.length < 1000000) (ht : t.length < 1000000) (X : Nat → Prop) (va vb : Value) (pa pb : Nat) (p : Int) (w : World) (hva : Sl X 2 (En encR) w va s) (hvb : Sl X 2 (En encR) w vb t) (ca : w.cell? ⟨pa, 0, none⟩ = some va) (cb : w.cell? ⟨pb, 0, none⟩ = some vb) :
    Fun Tryz.prog 36 [.int .i64 p, .pointer (some ⟨pa, 0, none⟩), .pointer (some ⟨pb, 0, none⟩)] w fun r w' => r = .bool ((fun p => hasP s p && !hasP t p) p) ∧ Below w.heap.size w w' := by
  refine fun_of_vc Tryz.func36 rfl (by kernel_rfl) [4] rfl ?_
  push_cast -dsimp (maxSteps := 4000000) [Tryz.ntmps36]
  push_cast -dsimp [ca]
  refine callK_of (hasR_c s p (by omega) X va w hva) ?_
  rintro _ w1 ⟨rfl, hb1⟩
  have cb1 : w1.cell? ⟨pb, 0, none⟩ = some vb := (hb1.cell (World.block_lt_of_cell? w _ cb)).trans cb
  have hz := hb1.size
  cases hh : hasP s p <;> push_cast -dsimp [cb1] <;> first | exact ⟨by simp [hh], hb1⟩ | (refine callK_of (hasR_c t p (by omega) X vb w1 (hvb.below hb1)) ?_; rintro _ w2 ⟨rfl, hb2⟩; push_cast -dsimp; exact ⟨by simp [hh], hb1.trans (hb2.mono hz)⟩)
theorem rLess_c (s t : List Rg) (hs : s.length < 100000) (ht : t.length < 100000) (hrs : setRight (-2) s = true) (hrt : setRight (-2) t = true) (X : Nat → Prop) (va vb : Value) (w : World) (hva : Sl X 2 (En encR) w va s) (hvb : Sl X 2 (En encR) w vb t) :
    Fun Tryz.prog 16 [va, vb] w fun r w' => Own w.heap.size 42 2 encR w' r (setLess s t) ∧ Below w.heap.size w w' := by
  have e1 := hva.shape
  obtain ⟨a1, c1, e1, _⟩ := e1
  have e2 := hvb.shape
  obtain ⟨a2, c2, e2, _⟩ := e2
  refine fun_of_vc Tryz.func16 rfl (by kernel_rfl) [4] rfl ?_
  push_cast -dsimp (maxSteps := 4000000) [Tryz.ntmps16]
  refine boxK_of ?_
  intro w1 hw1
  have sz1 := hw1.size
  have d1 := hw1.cell (j := 0) (u := va) (by rw [e1]; rfl)
  push_cast -dsimp
  refine boxK_of ?_
  intro w2 hw2
  have sz2 := hw2.size
  have d2 := hw2.cell (j := 0) (u := vb) (by rw [e2]; rfl)
  have d1' : w2.cell? ⟨w.heap.size, 0, none⟩ = some va := (hw2.below.cell (by rw [sz1]; exact Nat.lt_succ_self _)).trans d1
  have b2 : Below w.heap.size w w2 := hw1.below.trans (hw2.below.mono (by omega))
  push_cast -dsimp [d1', d2]
  refine rowK elI_74 (by rw [e1, e2]; rfl) rfl (by omega) ?_
  intro w3 hw3
  have sz3 := hw3.size
  have b3 : Below w.heap.size w w3 := b2.trans (hw3.below.mono (by omega))
  have c0 := hw3.cell (j := 0) (u := va) (by rw [e1, e2]; rfl)
  have c1' := hw3.cell (j := 1) (u := vb) (by rw [e1, e2]; rfl)
  have f1 : w3.cell? ⟨w.heap.size, 0, none⟩ = some va := (hw3.below.cell (by show w.heap.size < _; omega)).trans d1'
  have f2 : w3.cell? ⟨w1.heap.size, 0, none⟩ = some vb := (hw3.below.cell (by show w1.heap.size < _; omega)).trans d2
  push_cast -dsimp
  refine callK_of (told_c (fun p => hasP s p && !hasP t p) _ [.pointer (some ⟨w.heap.size, 0, none⟩), .pointer (some ⟨w1.heap.size, 0, none⟩)] [(va, s), (vb, t)] (by simp [flatR]; omega) (by simp) X w2.heap.size 2 (by simp) w3 ?_ ?_ ?_) ?_
  · intro i p hp
    match i, hp with
    | 0, hp => cases hp; exact ⟨c0, hva.below b3⟩
    | 1, hp => cases hp; exact ⟨c1', hvb.below b3⟩
    | n + 2, hp => cases hp
  · intro p q hr
    simp only
    rw [asks_has s (fun r h => by simp [flatR, h]) p q hr, asks_has t (fun r h => by simp [flatR, h]) p q hr]
  · intro p w' hb'
    exact rLessF_c s t (by omega) (by omega) X va vb _ _ p w' ((hva.below b3).below hb') ((hvb.below b3).below hb') ((hb'.cell (by show w.heap.size < _; omega)).trans f1) ((hb'.cell (by show w1.heap.size < _; omega)).trans f2)
  rintro r w4 ⟨ho, hb4⟩
  have e : flatR [(va, s), (vb, t)] = s ++ t := by simp [flatR]
  rw [e, told_less hrs hrt] at ho
  push_cast -dsimp
  exact ⟨ho.mono (by omega), b3.trans (hb4.mono (by omega))⟩
-- Of: the function; Of$1: its closure; hasP s p: the plain question; setOf s: the plain set; told_of: its law; []api.Range: the type of the argument; : what is asked of the set
theorem rOfF_c (s : List Rg) (hs : s.length < 1000000) (X : Nat → Prop) (va : Value) (pa : Nat) (p : Int) (w : World) (hva : Sl X 2 (En encR) w va s) (ca : w.cell? ⟨pa, 0, none⟩ = some va) :
    Fun Tryz.prog 26 [.int .i64 p, .pointer (some ⟨pa, 0, none⟩)] w fun r w' => r = .bool ((fun p => hasP s p) p) ∧ Below w.heap.size w w' := by
  refine fun_of_vc Tryz.func26 rfl (by kernel_rfl) [3] rfl ?_
  push_cast -dsimp (maxSteps := 4000000) [Tryz.ntmps26]
  push_cast -dsimp [ca]
  refine callK_of (hasR_c s p (by omega) X va w hva) ?_
  rintro _ w1 ⟨rfl, hb1⟩
  push_cast -dsimp
  exact hb1
theorem rOf_c (s : List Rg) (hs : s.length < 100000) (X : Nat → Prop) (va : Value) (w : World) (hva : Sl X 2 (En encR) w va s) :
    Fun Tryz.prog 6 [va] w fun r w' => Own w.heap.size 42 2 encR w' r (setOf s) ∧ Below w.heap.size w w' := by
  have e1 := hva.shape
  obtain ⟨a1, c1, e1, _⟩ := e1
  refine fun_of_vc Tryz.func6 rfl (by kernel_rfl) [2] rfl ?_
  push_cast -dsimp (maxSteps := 4000000) [Tryz.ntmps6]
  refine boxK_of ?_
  intro w1 hw1
  have sz1 := hw1.size
  have d1 := hw1.cell (j := 0) (u := va) (by rw [e1]; rfl)
  push_cast -dsimp [d1]
  refine rowK elI_74 (by rw [e1]; rfl) rfl (by omega) ?_
  intro w3 hw3
  have sz3 := hw3.size
  have b3 : Below w.heap.size w w3 := hw1.below.trans (hw3.below.mono (by omega))
  have c0 := hw3.cell (j := 0) (u := va) (by rw [e1]; rfl)
  have f1 : w3.cell? ⟨w.heap.size, 0, none⟩ = some va := (hw3.below.cell (by show w.heap.size < _; omega)).trans d1
  push_cast -dsimp
  refine callK_of (told_c (fun p => hasP s p) _ [.pointer (some ⟨w.heap.size, 0, none⟩)] [(va, s)] (by simp [flatR]; omega) (by simp) X w1.heap.size 1 (by simp) w3 ?_ ?_ ?_) ?_
  · intro i p hp
    match i, hp with
    | 0, hp => cases hp; exact ⟨c0, hva.below b3⟩
    | n + 1, hp => cases hp
  · intro p q hr
    simp only
    rw [asks_has s (fun r h => by simp [flatR, h]) p q hr]
  · intro p w' hb'
    exact rOfF_c s (by omega) X va _ p w' ((hva.below b3).below hb') ((hb'.cell (by show w.heap.size < _; omega)).trans f1)
  rintro r w4 ⟨ho, hb4⟩
  have e : flatR [(va, s)] = s := by simp [flatR]
  rw [e, told_of] at ho
  push_cast -dsimp
  exact ⟨ho.mono (by omega), b3.trans (hb4.mono (by omega))⟩
-- Not: the function; Not$1: its closure; !hasP s p: the plain question; setNot s: the plain set; told_not hrs: its law; api.Set: the type of the argument; (hrs : setRight (-2) s = true) : what is asked of the set
theorem rNotF_c (s : List Rg) (hs : s.length < 1000000) (X : Nat → Prop) (va : Value) (pa : Nat) (p : Int) (w : World) (hva : Sl X 2 (En encR) w va s) (ca : w.cell? ⟨pa, 0, none⟩ = some va) :
    Fun Tryz.prog 37 [.int .i64 p, .pointer (some ⟨pa, 0, none⟩)] w fun r w' => r = .bool ((fun p => !hasP s p) p) ∧ Below w.heap.size w w' := by
  refine fun_of_vc Tryz.func37 rfl (by kernel_rfl) [3] rfl ?_
  push_cast -dsimp (maxSteps := 4000000) [Tryz.ntmps37]
  push_cast -dsimp [ca]
  refine callK_of (hasR_c s p (by omega) X va w hva) ?_
  rintro _ w1 ⟨rfl, hb1⟩
  push_cast -dsimp
  exact hb1
theorem rNot_c (s : List Rg) (hs : s.length < 100000) (hrs : setRight (-2) s = true) (X : Nat → Prop) (va : Value) (w : World) (hva : Sl X 2 (En encR) w va s) :
    Fun Tryz.prog 18 [va] w fun r w' => Own w.heap.size 42 2 encR w' r (setNot s) ∧ Below w.heap.size w w' := by
  have e1 := hva.shape
  obtain ⟨a1, c1, e1, _⟩ := e1
  refine fun_of_vc Tryz.func18 rfl (by kernel_rfl) [2] rfl ?_
  push_cast -dsimp (maxSteps := 4000000) [Tryz.ntmps18]
  refine boxK_of ?_
  intro w1 hw1
  have sz1 := hw1.size
  have d1 := hw1.cell (j := 0) (u := va) (by rw [e1]; rfl)
  push_cast -dsimp [d1]
  refine rowK elI_74 (by rw [e1]; rfl) rfl (by omega) ?_
  intro w3 hw3
  have sz3 := hw3.size
  have b3 : Below w.heap.size w w3 := hw1.below.trans (hw3.below.mono (by omega))
  have c0 := hw3.cell (j := 0) (u := va) (by rw [e1]; rfl)
  have f1 : w3.cell? ⟨w.heap.size, 0, none⟩ = some va := (hw3.below.cell (by show w.heap.size < _; omega)).trans d1
  push_cast -dsimp
  refine callK_of (told_c (fun p => !hasP s p) _ [.pointer (some ⟨w.heap.size, 0, none⟩)] [(va, s)] (by simp [flatR]; omega) (by simp) X w1.heap.size 1 (by simp) w3 ?_ ?_ ?_) ?_
  · intro i p hp
    match i, hp with
    | 0, hp => cases hp; exact ⟨c0, hva.below b3⟩
    | n + 1, hp => cases hp
  · intro p q hr
    simp only
    rw [asks_has s (fun r h => by simp [flatR, h]) p q hr]
  · intro p w' hb'
    exact rNotF_c s (by omega) X va _ p w' ((hva.below b3).below hb') ((hb'.cell (by show w.heap.size < _; omega)).trans f1)
  rintro r w4 ⟨ho, hb4⟩
  have e : flatR [(va, s)] = s := by simp [flatR]
  rw [e, told_not hrs] at ho
  push_cast -dsimp
  exact ⟨ho.mono (by omega), b3.trans (hb4.mono (by omega))⟩
end Go.Proofs.YtplbgmoeannobaaGreatDoor
