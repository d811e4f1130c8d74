import Derived.Test.YtplbgmoeannobaaGreatDoorRpar
import Derived.Test.YtplbgmoeannobaaGreatDoorIsE
import Derived.Test.YtplbgmoeannobaaGreatDoorPar
import Derived.Test.YtplbgmoeannobaaGreatDoorConc
import Derived.Test.YtplbgmoeannobaaGreatDoorHas
/- SetTells. -/
namespace Go.Proofs.YtplbgmoeannobaaGreatDoor
open Go.Vc Go.Proofs Go.RowKit Cae
set_option maxRecDepth 100000
set_option linter.unusedSimpArgs false
set_option linter.unusedVariables false
attribute [local irreducible] wpL callK valK unitK runK Fun Sl Own vc vcOps opK pureK
set_option maxHeartbeats 8000000
theorem Own.all {B : Nat} {w : World} {v : Value} {l : List Rg} (h : Vc.Own B 42 2 encR w v l) : Sl (fun _ => False) 2 (En encR) w v l := h.sl.weaken (fun _ h => h.elim)
theorem setText_many (l : List Rg) : l.length ≤ (printP l).length := by
  unfold printP
  rw [List.length_cons, List.length_append]
  have : ∀ l : List Rg, l.length ≤ (Go.Lib.join (l.map rgP) [32]).length := by
    intro l
    induction l with
    | nil => simp
    | cons r l ih =>
      have h1 := List.length_pos_iff.2 (rgP_ne r)
      cases l with
      | nil => rw [List.map_cons, List.map_nil, Go.Lib.join_one]; simp only [List.length_cons, List.length_nil]; omega
      | cons y l =>
        have e : Go.Lib.join ((r :: y :: l).map rgP) [32] = rgP r ++ 32 :: Go.Lib.join ((y :: l).map rgP) [32] := by
          rw [List.map_cons, List.map_cons, Go.Lib.join_cons, Go.Lib.join_cons]
          simp [Go.Lib.joinTail]
        rw [e, List.length_append]
        simp only [List.length_cons] at ih ⊢
        omega
  have := this l
  omega
theorem setTells_c (a b : List Rg) (p : Int) (s : List UInt8) (va vb : Value) (w : World) (hva : Sl (fun _ => False) 2 (En encR) w va a) (hvb : Sl (fun _ => False) 2 (En encR) w vb b) (aa : Arg va) (ab : Arg vb) (hE : ErrVar w) (hd : Db w) (he : SErrs w) (ht : Tv w) :
    Fun Tryz.prog 3 [va, vb, .int .i64 p, str s] w fun r w' => r = .bool true ∧ Below w.heap.size w w' := by
  have hsh := hva.shape
  obtain ⟨a1, c1, rfl, hc1⟩ := hsh
  have hsh := hvb.shape
  obtain ⟨a2, c2, rfl, hc2⟩ := hsh
  refine fun_of_vc Tryz.func3 rfl (by kernel_rfl) [8] rfl ?_
  push_cast -dsimp (maxSteps := 4000000) [Tryz.ntmps3]
  refine ⟨fun l1 => ⟨fun l2 => ⟨fun l3 => Below.refl _ _, fun l3 => ?_⟩, fun l2 => Below.refl _ _⟩, fun l1 => Below.refl _ _⟩
  have hgq : ∃ q, setRight (-2) a = q := ⟨_, rfl⟩
  obtain ⟨q, hq⟩ := hgq
  refine callK_of (setRight_c a (by omega) _ _ w hva) ?_
  rintro _ w1 ⟨rfl, b1⟩
  have hva1 := hva.below b1
  push_cast -dsimp [hq]
  refine callK_of (rightSetR_c a (by omega) _ _ w1 hva1) ?_
  rintro _ w2 ⟨rfl, h2⟩
  have b2 := b1.trans (h2.mono b1.size)
  have hva2 := hva1.below h2
  have hvb2 := hvb.below b2
  have eq : (q == q) = true := by cases q <;> rfl
  push_cast -dsimp [hq, eq]
  refine callK_of (rOf_c a (by omega) _ _ w2 hva2) ?_
  rintro xv w3 ⟨ox, h3⟩
  have b3 := b2.trans (h3.mono b2.size)
  have hvb3 := hvb2.below h3
  push_cast -dsimp
  refine callK_of (rOf_c b (by omega) _ _ w3 hvb3) ?_
  rintro yv w4 ⟨oy, h4⟩
  have b4 := b3.trans (h4.mono b3.size)
  have x4 := Own.all (ox.below h4)
  have y4 := Own.all oy
  have ax := ox.nilArg
  have ay := oy.nilArg
  have rx := setOf_right a
  have ry := setOf_right b
  have nx := setOf_len a
  have ny := setOf_len b
  have hgX : ∃ X, setOf a = X := ⟨_, rfl⟩
  obtain ⟨X, hX⟩ := hgX
  have hgY : ∃ Y, setOf b = Y := ⟨_, rfl⟩
  obtain ⟨Y, hY⟩ := hgY
  rw [hX] at x4 rx nx
  rw [hY] at y4 ry ny
  have hsh := x4.shape
  obtain ⟨xa, xc, rfl, _⟩ := hsh
  have hsh := y4.shape
  obtain ⟨ya, yc, rfl, _⟩ := hsh
  push_cast -dsimp
  -- 4: the world's mark; a: the list; hva: its Sl at w; aa: Arg; 5: new mark; hX: its set's name; x: x or y; X: the set
  refine rowK elI_22 rfl rfl (by omega) ?_
  intro w5a hw5
  have o5a := hw5.own (base := w4.heap.size) (k := 2) (n := 0) (enc := encR) (l := []) rfl rfl (fun _ => rfl) (Nat.le_refl _) (by omega)
  have s5a := hw5.size
  have b5a := b4.trans (hw5.below.mono b4.size)
  push_cast -dsimp
  refine appendAny (base := w4.heap.size) (enc := encR) (ys := a) elI_22 o5a ((hva).below b5a) aa encR_one (by simp only [List.length_nil]; omega) (by omega) ?_
  intro v5b w5b o5b _ h5b
  rw [List.nil_append] at o5b
  have s5b : w5a.heap.size ≤ w5b.heap.size := h5b.size
  have k5b := hw5.below.trans h5b
  have b5b := b4.trans (k5b.mono b4.size)
  have x5b := x4.below k5b
  have y5b := y4.below k5b
  push_cast -dsimp
  refine callK_of (of_c a (by omega) _ _ w5b o5b.sl o5b.nilArg) ?_
  rintro v5c w5c ⟨o5c, h5c⟩
  have b5c := b5b.trans (h5c.mono b5b.size)
  have x5c := x5b.below h5c
  have y5c := y5b.below h5c
  rw [hX] at o5c
  push_cast -dsimp
  refine callK_of (sameSet_c X (by omega) _ _ _ _ w5c (Own.all o5c) x5c) ?_
  rintro _ w5 ⟨rfl, h5⟩
  have b5 := b5c.trans (h5.mono b5c.size)
  have x5 := x5c.below h5
  have y5 := y5c.below h5
  push_cast -dsimp
  -- 5: the world's mark; b: the list; hvb: its Sl at w; ab: Arg; 6: new mark; hY: its set's name; y: x or y; Y: the set
  refine rowK elI_22 rfl rfl (by omega) ?_
  intro w6a hw6
  have o6a := hw6.own (base := w5.heap.size) (k := 2) (n := 0) (enc := encR) (l := []) rfl rfl (fun _ => rfl) (Nat.le_refl _) (by omega)
  have s6a := hw6.size
  have b6a := b5.trans (hw6.below.mono b5.size)
  push_cast -dsimp
  refine appendAny (base := w5.heap.size) (enc := encR) (ys := b) elI_22 o6a ((hvb).below b6a) ab encR_one (by simp only [List.length_nil]; omega) (by omega) ?_
  intro v6b w6b o6b _ h6b
  rw [List.nil_append] at o6b
  have s6b : w6a.heap.size ≤ w6b.heap.size := h6b.size
  have k6b := hw6.below.trans h6b
  have b6b := b5.trans (k6b.mono b5.size)
  have x6b := x5.below k6b
  have y6b := y5.below k6b
  push_cast -dsimp
  refine callK_of (of_c b (by omega) _ _ w6b o6b.sl o6b.nilArg) ?_
  rintro v6c w6c ⟨o6c, h6c⟩
  have b6c := b6b.trans (h6c.mono b6b.size)
  have x6c := x6b.below h6c
  have y6c := y6b.below h6c
  rw [hY] at o6c
  push_cast -dsimp
  refine callK_of (sameSet_c Y (by omega) _ _ _ _ w6c (Own.all o6c) y6c) ?_
  rintro _ w6 ⟨rfl, h6⟩
  have b6 := b6c.trans (h6.mono b6c.size)
  have x6 := x6c.below h6
  have y6 := y6c.below h6
  push_cast -dsimp
  refine callK_of (has_c X (by omega) rx p _ _ w6 x6) ?_
  rintro _ w7 ⟨rfl, h7⟩
  have b7 := b6.trans (h7.mono b6.size)
  have x7 := x6.below h7
  have y7 := y6.below h7
  have hgq : ∃ q, hasP X p = q := ⟨_, rfl⟩
  obtain ⟨q', hq'⟩ := hgq
  push_cast -dsimp [hq']
  refine callK_of (hasR_c X p (by omega) _ _ w7 x7) ?_
  rintro _ w8 ⟨rfl, h8⟩
  have b8 := b7.trans (h8.mono b7.size)
  have x8 := x7.below h8
  have y8 := y7.below h8
  have eq' : (q' == q') = true := by cases q' <;> rfl
  push_cast -dsimp [hq', eq']
  -- or_c X Y (by omega) (by omega) _ _ _ w8 x8 y8 ax ay: the program's call; rOr_c X Y (by omega) (by omega) rx ry _ _ _ w9a x9a y9a: the reference's; setOr X Y: the set; 8: the world; 9: mark
  refine callK_of (or_c X Y (by omega) (by omega) _ _ _ w8 x8 y8 ax ay) ?_
  rintro v9a w9a ⟨o9a, h9a⟩
  have b9a := b8.trans (h9a.mono b8.size)
  have x9a := x8.below h9a
  have y9a := y8.below h9a
  push_cast -dsimp
  refine callK_of (rOr_c X Y (by omega) (by omega) rx ry _ _ _ w9a x9a y9a) ?_
  rintro v9b w9b ⟨o9b, h9b⟩
  have b9b := b9a.trans (h9b.mono b9a.size)
  have x9b := x9a.below h9b
  have y9b := y9a.below h9b
  push_cast -dsimp
  refine callK_of (sameSet_c (setOr X Y) (by first | (have := setOr_len X Y; omega) | (have := setAnd_len X Y; omega) | (have := setLess_len X Y; omega) | (have := setNot_len X; omega) | omega) _ _ _ _ w9b (Own.all (o9a.below h9b)) (Own.all o9b)) ?_
  rintro _ w9 ⟨rfl, h9⟩
  have b9 := b9b.trans (h9.mono b9b.size)
  have x9 := x9b.below h9
  have y9 := y9b.below h9
  push_cast -dsimp
  -- and_c X Y (by omega) (by omega) rx ry _ _ _ w9 x9 y9: the program's call; rAnd_c X Y (by omega) (by omega) rx ry _ _ _ w10a x10a y10a: the reference's; setAnd X Y: the set; 9: the world; 10: mark
  refine callK_of (and_c X Y (by omega) (by omega) rx ry _ _ _ w9 x9 y9) ?_
  rintro v10a w10a ⟨o10a, h10a⟩
  have b10a := b9.trans (h10a.mono b9.size)
  have x10a := x9.below h10a
  have y10a := y9.below h10a
  push_cast -dsimp
  refine callK_of (rAnd_c X Y (by omega) (by omega) rx ry _ _ _ w10a x10a y10a) ?_
  rintro v10b w10b ⟨o10b, h10b⟩
  have b10b := b10a.trans (h10b.mono b10a.size)
  have x10b := x10a.below h10b
  have y10b := y10a.below h10b
  push_cast -dsimp
  refine callK_of (sameSet_c (setAnd X Y) (by first | (have := setOr_len X Y; omega) | (have := setAnd_len X Y; omega) | (have := setLess_len X Y; omega) | (have := setNot_len X; omega) | omega) _ _ _ _ w10b (Own.all (o10a.below h10b)) (Own.all o10b)) ?_
  rintro _ w10 ⟨rfl, h10⟩
  have b10 := b10b.trans (h10.mono b10b.size)
  have x10 := x10b.below h10
  have y10 := y10b.below h10
  push_cast -dsimp
  -- less_c X Y (by omega) (by omega) rx ry _ _ _ w10 x10 y10: the program's call; rLess_c X Y (by omega) (by omega) rx ry _ _ _ w11a x11a y11a: the reference's; setLess X Y: the set; 10: the world; 11: mark
  refine callK_of (less_c X Y (by omega) (by omega) rx ry _ _ _ w10 x10 y10) ?_
  rintro v11a w11a ⟨o11a, h11a⟩
  have b11a := b10.trans (h11a.mono b10.size)
  have x11a := x10.below h11a
  have y11a := y10.below h11a
  push_cast -dsimp
  refine callK_of (rLess_c X Y (by omega) (by omega) rx ry _ _ _ w11a x11a y11a) ?_
  rintro v11b w11b ⟨o11b, h11b⟩
  have b11b := b11a.trans (h11b.mono b11a.size)
  have x11b := x11a.below h11b
  have y11b := y11a.below h11b
  push_cast -dsimp
  refine callK_of (sameSet_c (setLess X Y) (by first | (have := setOr_len X Y; omega) | (have := setAnd_len X Y; omega) | (have := setLess_len X Y; omega) | (have := setNot_len X; omega) | omega) _ _ _ _ w11b (Own.all (o11a.below h11b)) (Own.all o11b)) ?_
  rintro _ w11 ⟨rfl, h11⟩
  have b11 := b11b.trans (h11.mono b11b.size)
  have x11 := x11b.below h11
  have y11 := y11b.below h11
  push_cast -dsimp
  -- not_c X (by omega) rx _ _ w11 x11: the program's call; rNot_c X (by omega) rx _ _ w12a x12a: the reference's; setNot X: the set; 11: the world; 12: mark
  refine callK_of (not_c X (by omega) rx _ _ w11 x11) ?_
  rintro v12a w12a ⟨o12a, h12a⟩
  have b12a := b11.trans (h12a.mono b11.size)
  have x12a := x11.below h12a
  have y12a := y11.below h12a
  push_cast -dsimp
  refine callK_of (rNot_c X (by omega) rx _ _ w12a x12a) ?_
  rintro v12b w12b ⟨o12b, h12b⟩
  have b12b := b12a.trans (h12b.mono b12a.size)
  have x12b := x12a.below h12b
  have y12b := y12a.below h12b
  push_cast -dsimp
  refine callK_of (sameSet_c (setNot X) (by first | (have := setOr_len X Y; omega) | (have := setAnd_len X Y; omega) | (have := setLess_len X Y; omega) | (have := setNot_len X; omega) | omega) _ _ _ _ w12b (Own.all (o12a.below h12b)) (Own.all o12b)) ?_
  rintro _ w12 ⟨rfl, h12⟩
  have b12 := b12b.trans (h12.mono b12b.size)
  have x12 := x12b.below h12
  have y12 := y12b.below h12
  push_cast -dsimp
  refine callK_of (parseSetR_c s (by omega) w12 (hd.below b12 hd.lt) (he.below b12) (ht.below b12)) ?_
  rintro rr w13 ⟨pr, h13⟩
  have b13 := b12.trans (h13.mono b12.size)
  have x13 := x12.below h13
  have key : ∃ (v : Value) (n : Int) (l : List Rg), rr = .tuple #[v, .int .i64 n] ∧ Sl (fun _ => False) 2 (En encR) w13 v l ∧ l.length ≤ 1000000 ∧ ((n = 0 ∧ PrintOf s l) ∨ (n = 3 ∧ l = [] ∧ ∀ l, ¬ PrintOf s l)) := by
    rcases pr with ⟨v, l, rfl, ho, hp⟩ | ⟨rfl, hp⟩
    · refine ⟨v, 0, l, rfl, Own.all ho, ?_, .inl ⟨rfl, hp⟩⟩
      have h1 := setText_many l
      rw [hp.2] at h1
      omega
    · exact ⟨_, 3, [], rfl, Sl.nil _ _ _ _ _ _, by simp, .inr ⟨rfl, rfl, hp⟩⟩
  obtain ⟨wv, n, lw, rfl, sw, lwl, hw⟩ := key
  push_cast -dsimp
  refine callK_of (parse_c s (by omega) w13 (hd.below b13 hd.lt) (he.below b13)) ?_
  rintro rr w14 ⟨pr, h14⟩
  have b14 := b13.trans (h14.mono b13.size)
  have x14 := x13.below h14
  have sw14 := sw.below h14
  have key : ∃ (v e : Value), rr = .tuple #[v, e] ∧ Sl (fun _ => False) 2 (En encR) w14 v lw ∧ Errs w14 e n (-1) := by
    rcases pr with ⟨v, l, rfl, ho, hp⟩ | ⟨hp, rfl⟩
    · rcases hw with ⟨rfl, hq⟩ | ⟨_, _, hq⟩
      · have e := print_inj hp.1 hq.1 (hp.2.trans hq.2.symm)
        subst e
        exact ⟨v, _, rfl, Own.all ho, .inl ⟨rfl, rfl, rfl⟩⟩
      · exact absurd hp (hq l)
    · rcases hw with ⟨_, hq⟩ | ⟨rfl, rfl, _⟩
      · exact absurd hq (hp lw)
      · exact ⟨_, _, rfl, Sl.nil _ _ _ _ _ _, .inr (.bare 3)⟩
  obtain ⟨zv, ev', rfl, sz, hev⟩ := key
  push_cast -dsimp
  refine callK_of (bare_c ev' n (-1) n w14 (keptErr b14 hE) hev) ?_
  rintro _ w15 ⟨rfl, h15⟩
  have b15 := b14.trans (h15.mono b14.size)
  have x15 := x14.below h15
  have et : decide (n = n ∧ (-1 : Int) = -1) = true := by simp
  push_cast -dsimp [et]
  refine callK_of (sameSet_c lw (by omega) _ _ _ _ w15 (sz.below h15) (sw14.below h15)) ?_
  rintro _ w16 ⟨rfl, h16⟩
  have b16 := b15.trans (h16.mono b15.size)
  have x16 := x15.below h16
  push_cast -dsimp
  refine callK_of (print_c X (by omega) (wr_right (a := -2) (by omega) rx) _ _ w16 x16 (hd.below b16 hd.lt)) ?_
  rintro _ w17 ⟨rfl, h17⟩
  have b17 := b16.trans (h17.mono b16.size)
  push_cast -dsimp
  refine callK_of (setTextR_c X (by omega) rx _ _ w17 (x16.below h17) (hd.below b17 hd.lt)) ?_
  rintro _ w18 ⟨rfl, h18⟩
  have b18 := b17.trans (h18.mono b17.size)
  push_cast -dsimp
  exact b18
end Go.Proofs.YtplbgmoeannobaaGreatDoor
