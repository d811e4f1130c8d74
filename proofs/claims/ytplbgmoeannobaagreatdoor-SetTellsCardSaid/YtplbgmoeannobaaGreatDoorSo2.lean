import Derived.Test.YtplbgmoeannobaaGreatDoorSort
namespace Go.Proofs.YtplbgmoeannobaaGreatDoor
open Go.Vc Go.Proofs Go.RowKit Cae
set_option maxRecDepth 100000
set_option linter.unusedSimpArgs false
set_option linter.unusedVariables false
attribute [local irreducible] wpL callK valK unitK runK Fun Sl Own vc vcOps opK pureK
set_option maxHeartbeats 8000000

theorem of_c (l : List Rg) (hl : l.length < 100000000) (X : Nat → Prop) (v : Value) (w : World) (hv : Sl X 2 (En encR) w v l) (ha : Arg v) :
    Fun Tryz.prog 8 [v] w fun r w' => Own w.heap.size 42 2 encR w' r (setOf l) ∧ Below w.heap.size w w' := by
  obtain ⟨a, c, rfl, hc⟩ := hv.shape
  refine fun_of_vc Tryz.func8 rfl (by kernel_rfl) [2] rfl ?_
  simp -dsimp (maxSteps := 4000000) only [push_cast, fr0, Tryz.ntmps8, List.length_cons, List.length_nil, Nat.reduceAdd, Nat.reduceSub, Nat.reduceBEq, List.replicate_succ, List.replicate_zero]
  refine callK_of (cloneR_c l (by omega) X _ w hv ha) ?_
  rintro v1 w1 ⟨ho1, hb1⟩
  have sz1 := hb1.size
  simp -dsimp only [push_cast, Nat.reduceAdd, Nat.reduceLeDiff, Nat.reduceBEq, Int.reduceNe, Int.reduceEq, Int.reduceLT, Int.reduceLE]
  refine callK_of (sort_c l (by omega) w.heap.size v1 w1 ho1 sz1) ?_
  rintro r2 w2 ⟨⟨m, hp, hR, hs2⟩, hk2⟩
  have sz2 := hk2.size
  have hml := hp.length_eq
  have hb2 : Below w.heap.size w w2 := hb1.trans (hk2.below sz1 (fun g h => (ho1.block g h).1))
  have hsh := ho1.slice
  obtain ⟨va, vc, rfl⟩ := hsh
  have hof := setOf_any hp hR
  have hgX : ∃ X1, X1 = (fun b => (Value.slice va l.length vc).ownBlock ≠ some b) := ⟨_, rfl⟩
  obtain ⟨X1, hX1⟩ := hgX
  rw [← hX1] at hs2
  have hX2 : ∀ b, w2.heap.size ≤ b → X1 b := fun b hb => by
    rw [hX1]
    intro h
    have := (ho1.block b h).2
    omega
  simp -dsimp only [push_cast, Nat.reduceAdd, Nat.reduceLeDiff, Nat.reduceBEq, Int.reduceNe, Int.reduceEq, Int.reduceLT, Int.reduceLE]
  refine wpL_loop [3, 5, 6, 13, 14, 15, 16, 17, 18, 19, 20, 21, 22, 23, 24, 25, 26, 27, 28, 29, 30, 31, 32, 33, 34, 35, 36, 37, 38, 39, 40, 41, 42, 43, 44, 45, 46, 47, 48, 49, 50, 51, 52, 53, 54, 55, 56, 57, 58, 59, 60, 61, 62] (fun z wx => ∃ (i : Nat) (ov : Value), z 13 = .int .i64 i ∧ z 3 = ov ∧ i ≤ l.length ∧ Own w2.heap.size 42 2 encR wx ov (ofFold (m.take i)) ∧ Below w2.heap.size w2 wx) (fun z _ => l.length - (intOf (z 13)).toNat) ?_ ?_
  · refine ⟨0, _, rfl, rfl, Nat.zero_le _, ?_, Below.refl _ _⟩
    rw [List.take_zero]
    exact Own.nil (enc := encR) _ _ (fun _ => rfl) _
  · intro z wx hI
    obtain ⟨i, ov, h13, h3, hi, hox, hbx⟩ := hI
    have szx := hbx.size
    simp -dsimp only [push_cast, Nat.reduceAdd, Nat.reduceLeDiff, Nat.reduceBEq, Int.reduceNe, Int.reduceEq, Int.reduceLT, Int.reduceLE, h13, h3]
    refine ⟨fun hlt => ?_, fun hge => ?_⟩
    · have hg := lt_get (l := m) (i := i) (by omega)
      obtain ⟨x, hx, hxm, _⟩ := hg
      have hsx := hs2.below hbx
      rw [← hml] at hsx
      have hg := hsx.get hx
      obtain ⟨b, o, rfl, hnb, hcell⟩ := hg
      have cx : cellsAt wx ⟨b, o + i * 2, none⟩ 0 2 = some [.int .i64 x.1, .int .i64 x.2] := cellsAt_of (encR x) 0 (fun j u hu => by simpa using hcell j u hu)
      have est : ofFold (m.take (i + 1)) = ofStep (ofFold (m.take i)) x := by
        unfold ofFold
        rw [List.take_add_one, hx, List.foldl_append]; rfl
      have hol := ofFold_len (m.take i)
      rw [List.length_take] at hol
      have hsh := hox.slice
      obtain ⟨oa, oc, rfl⟩ := hsh
      have hgo : ∃ out, ofFold (m.take i) = out := ⟨_, rfl⟩
      obtain ⟨out, hout⟩ := hgo
      rw [hout] at hox est hol
      rw [hout]
      simp -dsimp only [push_cast, Nat.reduceAdd, Nat.reduceLeDiff, Nat.reduceBEq, Int.reduceNe, Int.reduceEq, Int.reduceLT, Int.reduceLE, cx]
      refine ⟨⟨by omega, by omega⟩, ?_⟩
      refine allocK (z := [.int .i64 0, .int .i64 0]) (by kernel_rfl) ?_
      intro w3 hw3
      have sz3 := hw3.size
      simp -dsimp only [push_cast, Nat.reduceAdd, Nat.reduceLeDiff, Nat.reduceBEq, Int.reduceNe, Int.reduceEq, Int.reduceLT, Int.reduceLE]
      refine storeAgg (n := 2) (by kernel_rfl) hw3.blk rfl (by simp) (by simp [Value.oneCell']) ?_
      intro w4 hw4
      have sz4 := hw4.size
      have c0 : w4.cell? ⟨wx.heap.size, 0, none⟩ = some (.int .i64 x.1) := hw4.blk.cell rfl
      have c1 : w4.cell? ⟨wx.heap.size, 1, none⟩ = some (.int .i64 x.2) := hw4.blk.cell rfl
      have hgl : ∃ lo, max x.1 0 = lo := ⟨_, rfl⟩
      obtain ⟨lo, hlo⟩ := hgl
      have hgh : ∃ hi', min x.2 1114111 = hi' := ⟨_, rfl⟩
      obtain ⟨hi', hhi⟩ := hgh
      have hlo1 : (if 0 > x.1 then 0 else x.1) = lo := by rw [← hlo]; split <;> omega
      have hhi1 : (if 1114111 < x.2 then 1114111 else x.2) = hi' := by rw [← hhi]; split <;> omega
      simp -dsimp only [push_cast, Nat.reduceAdd, Nat.reduceLeDiff, Nat.reduceBEq, Int.reduceNe, Int.reduceEq, Int.reduceLT, Int.reduceLE, c0, c1, hlo1, hhi1]
      refine storeK_of hw4.blk (by simp) rfl ?_
      intro w5 hw5
      have sz5 : w5.heap.size = w4.heap.size := hw5.size
      simp -dsimp only [push_cast, Nat.reduceAdd, Nat.reduceLeDiff, Nat.reduceBEq, Int.reduceNe, Int.reduceEq, Int.reduceLT, Int.reduceLE]
      refine storeK_of hw5.blk (by simp) rfl ?_
      intro w6 hw6
      have sz6 : w6.heap.size = w5.heap.size := hw6.size
      have hX6 : Blk w6 wx.heap.size 42 [.int .i64 lo, .int .i64 hi'] := hw6.blk
      have k6 : Kept (fun j => j = wx.heap.size) wx w6 := (((Kept.new hw3).trans hw4.kept (fun _ _ h => h)).trans hw5.kept (fun _ _ h => h)).trans hw6.kept (fun _ _ h => h)
      have ho6 := hox.keptX k6 (fun g hg h => by have := hox.block g hg; omega)
      have hb6 : Below w2.heap.size w2 w6 := hbx.trans (k6.below szx (fun _ h => by omega))
      have e0 : w6.cell? ⟨wx.heap.size, 0, none⟩ = some (.int .i64 lo) := hX6.cell rfl
      have e1 : w6.cell? ⟨wx.heap.size, 1, none⟩ = some (.int .i64 hi') := hX6.cell rfl
      simp -dsimp only [push_cast, Nat.reduceAdd, Nat.reduceLeDiff, Nat.reduceBEq, Int.reduceNe, Int.reduceEq, Int.reduceLT, Int.reduceLE, e0, e1]
      refine ⟨fun hgt => ?_, fun hle => ?_⟩
      · have hst : ofStep out x = out := by unfold ofStep; rw [hlo, hhi, if_pos (by omega)]
        rw [hst] at est
        rw [← est] at ho6
        exact ⟨⟨by omega, by omega⟩, ⟨i + 1, _, rfl, by rw [est], by omega, ho6, hb6⟩, by rw [h13]; simp only [intOf]; omega⟩
      · refine ⟨⟨by omega, by omega⟩, ?_⟩
        cases hn : out.length with
        | zero =>
          have hnil : out = [] := List.eq_nil_of_length_eq_zero hn
          subst hnil
          have hst : ofStep [] x = [] ++ [(lo, hi')] := by unfold ofStep; rw [hlo, hhi, if_neg (by omega)]; rfl
          refine wpL_draw (fun w' => w' = w6.drew) mixed (by kernel_rfl) rfl ?_
          simp -dsimp only [push_cast, Nat.reduceAdd, Nat.reduceLeDiff, Nat.reduceBEq, Int.reduceNe, Int.reduceEq, Int.reduceLT, Int.reduceLE]
          refine ⟨fun h => absurd h (by simp), fun _ => ?_⟩
          rw [hst] at est
          have d7 : cellsAt w6.drew ⟨wx.heap.size, 0, none⟩ 0 2 = some [.int .i64 lo, .int .i64 hi'] := hX6.drew.cellsAt
          simp -dsimp only [push_cast, Nat.reduceAdd, Nat.reduceLeDiff, Nat.reduceBEq, Int.reduceNe, Int.reduceEq, Int.reduceLT, Int.reduceLE, d7]
          refine rowK elI_24 rfl rfl (by omega) ?_
          intro w7 hw7
          have sz7 : w7.heap.size = w6.heap.size + 1 := hw7.size
          have ho7 := (ho6.keptX (Kept.refl (fun _ => False) _).drew (fun _ _ h => h)).new hw7
          simp -dsimp only [push_cast, Nat.reduceAdd, Nat.reduceLeDiff, Nat.reduceBEq, Int.reduceNe, Int.reduceEq, Int.reduceLT, Int.reduceLE]
          refine appendK2 (base := w2.heap.size) [(lo, hi')] (enc := encR) elI_24 ho7 (by rfl) (fun j u hu => by simpa [encR] using hw7.cell hu) encR_one (by simp only [List.length_cons, List.length_nil]; omega) (by omega) ?_
          intro v8 w8 ho8 hg8 hn8
          have k8 : Kept (fun j => (Value.slice oa ([] : List Rg).length oc).ownBlock = some j) w6 w8 := (((Kept.refl _ w6).drew).trans (Kept.new (X := fun j => (Value.slice oa ([] : List Rg).length oc).ownBlock = some j) hw7) (fun _ _ h => h)).trans (Kept.grown hg8 (fun _ h => h)) (fun _ _ h => h)
          rw [← est] at ho8
          simp -dsimp only [push_cast, Nat.reduceAdd, Nat.reduceLeDiff, Nat.reduceBEq, Int.reduceNe, Int.reduceEq, Int.reduceLT, Int.reduceLE]
          exact ⟨⟨by omega, by omega⟩, ⟨i + 1, _, rfl, rfl, by omega, ho8, hb6.trans (k8.below (by omega) (fun g h => (ho6.block g h).1))⟩, by rw [h13]; simp only [intOf]; omega⟩
        | succ n =>
          have e6 : ((n : Nat) : Int) + 1 - 1 = ((n : Nat) : Int) := by omega
          have hq := List.getElem?_eq_getElem (l := out) (i := n) (by omega)
          have hgq : ∃ q, out[n]'(by omega) = q := ⟨_, rfl⟩
          obtain ⟨q, hqe⟩ := hgq
          rw [hqe] at hq
          have hlast : out.getLast? = some q := by rw [List.getLast?_eq_getElem?, hn]; exact hq
          have hinv := (ofFold_inv i m hR (by omega)).1.right
          rw [hout] at hinv
          have hqr := setRight_sorted out (-2) hinv n q hq
          have hg := ho6.sl.get hq
          obtain ⟨g, o', rfl, _, hcq⟩ := hg
          have ho0 : o' = 0 := Own.at0R ho6
          subst ho0
          have c2 : w6.drew.cell? ⟨g, n * 2 + 1, none⟩ = some (.int .i64 q.2) := by have := hcq 1 _ rfl; simpa using this
          have f0 : w6.drew.cell? ⟨wx.heap.size, 0, none⟩ = some (.int .i64 lo) := e0
          have f1 : w6.drew.cell? ⟨wx.heap.size, 1, none⟩ = some (.int .i64 hi') := e1
          have L : ∀ {ad : Addr} {u : Value}, w6.drew.cell? ad = some u → ∀ w'' : World, w'' = w6.drew → optK (w''.cell? ad) (fun x => x = u) .mk := fun h w'' e => by rw [e, h]; exact rfl
          refine wpL_draw (fun w' => w' = w6.drew) mixed (by kernel_rfl) rfl ?_
          simp -dsimp only [push_cast, Nat.reduceAdd, Nat.reduceLeDiff, Nat.reduceBEq, Int.reduceNe, Int.reduceEq, Int.reduceLT, Int.reduceLE, e6, f0, c2]
          rw [hn] at ho6
          refine ⟨fun _ => ⟨L f0, ⟨by omega, by omega⟩, L c2, ⟨by omega, by omega⟩, fun hm => ?_, fun hm => ?_⟩, fun h => absurd (Int.natCast_nonneg n) h⟩
          · have hst : ofStep out x = out.set n (q.1, max q.2 hi') := by
              unfold ofStep
              rw [hlo, hhi, if_neg (by omega), hlast]
              dsimp only
              rw [if_pos hm, List.dropLast_eq_take, hn, List.set_eq_take_append_cons_drop, if_pos (by omega), List.drop_eq_nil_of_le (by omega)]
              rfl
            rw [hst] at est
            have L2 : ∀ {ad : Addr} {u : Value}, w6.drew.drew.cell? ad = some u → ∀ w'' : World, w'' = w6.drew.drew → optK (w''.cell? ad) (fun x => x = u) .mk := fun h w'' e => by rw [e, h]; exact rfl
            have c2' : w6.drew.drew.cell? ⟨g, n * 2 + 1, none⟩ = some (.int .i64 q.2) := c2
            have f1' : w6.drew.drew.cell? ⟨wx.heap.size, 1, none⟩ = some (.int .i64 hi') := f1
            have hmx : (if hi' > q.2 then hi' else q.2) = max q.2 hi' := by split <;> omega
            refine wpL_last (fun w' => w' = w6.drew.drew) mixed (by kernel_rfl) (List.cons_ne_nil _ _) rfl ?_
            simp -dsimp only [push_cast, Nat.reduceAdd, Nat.reduceLeDiff, Nat.reduceBEq, Int.reduceNe, Int.reduceEq, Int.reduceLT, Int.reduceLE, c2', f1', hmx]
            refine ⟨⟨by omega, by omega⟩, L2 c2', L2 f1', ⟨by omega, by omega⟩, ?_⟩
            have hod := ho6.keptX ((Kept.refl (fun _ => False) _).drew.drew) (fun _ _ h => h)
            refine storeOwnF (i := n) (f := 1) (y := (q.1, max q.2 hi')) hod rfl hq (by omega) rfl rfl ?_
            intro w8 ho8 hk8 sz8
            have k8 : Kept (fun j => j = g) w6 w8 := ((Kept.refl (fun j => j = g) w6).drew.drew).trans hk8 (fun _ _ h => h)
            have hgb := (ho6.block g rfl).1
            refine ⟨trivial, ?_⟩
            simp -dsimp only [push_cast, Nat.reduceAdd, Nat.reduceLeDiff, Nat.reduceBEq, Int.reduceNe, Int.reduceEq, Int.reduceLT, Int.reduceLE]
            rw [← est] at ho8
            exact ⟨⟨by omega, by omega⟩, ⟨i + 1, _, rfl, rfl, by omega, ho8, hb6.trans (k8.below (by omega) (fun j h => by omega))⟩, by rw [h13]; simp only [intOf]; omega⟩
          · have hst : ofStep out x = out ++ [(lo, hi')] := by
              unfold ofStep
              rw [hlo, hhi, if_neg (by omega), hlast]
              dsimp only
              rw [if_neg hm]
            rw [hst] at est
            have d7 : cellsAt w6.drew ⟨wx.heap.size, 0, none⟩ 0 2 = some [.int .i64 lo, .int .i64 hi'] := hX6.drew.cellsAt
            simp -dsimp only [push_cast, Nat.reduceAdd, Nat.reduceLeDiff, Nat.reduceBEq, Int.reduceNe, Int.reduceEq, Int.reduceLT, Int.reduceLE, d7]
            refine rowK elI_24 rfl rfl (by omega) ?_
            intro w7 hw7
            have sz7 : w7.heap.size = w6.heap.size + 1 := hw7.size
            have ho7 := (ho6.keptX (Kept.refl (fun _ => False) _).drew (fun _ _ h => h)).new hw7
            simp -dsimp only [push_cast, Nat.reduceAdd, Nat.reduceLeDiff, Nat.reduceBEq, Int.reduceNe, Int.reduceEq, Int.reduceLT, Int.reduceLE]
            refine appendK2 (base := w2.heap.size) [(lo, hi')] (enc := encR) elI_24 ho7 (by rfl) (fun j u hu => by simpa [encR] using hw7.cell hu) encR_one (by simp only [List.length_cons, List.length_nil]; omega) (by omega) ?_
            intro v8 w8 ho8 hg8 hn8
            have k8 : Kept (fun j => (Value.slice (some ⟨g, 0, none⟩) (n + 1) oc).ownBlock = some j) w6 w8 := (((Kept.refl _ w6).drew).trans (Kept.new (X := fun j => (Value.slice (some ⟨g, 0, none⟩) (n + 1) oc).ownBlock = some j) hw7) (fun _ _ h => h)).trans (Kept.grown hg8 (fun _ h => h)) (fun _ _ h => h)
            rw [← est] at ho8
            simp -dsimp only [push_cast, Nat.reduceAdd, Nat.reduceLeDiff, Nat.reduceBEq, Int.reduceNe, Int.reduceEq, Int.reduceLT, Int.reduceLE]
            exact ⟨⟨by omega, by omega⟩, ⟨i + 1, _, rfl, rfl, by omega, ho8, hb6.trans (k8.below (by omega) (fun g h => (ho6.block g h).1))⟩, by rw [h13]; simp only [intOf]; omega⟩
    · have hin : i = m.length := by omega
      subst hin
      have hsh := hox.slice
      obtain ⟨oa, oc, rfl⟩ := hsh
      rw [List.take_length, hof] at hox
      rw [List.take_length, hof]
      exact ⟨hox.mono (by omega), hb2.trans (hbx.mono (by omega))⟩
end Go.Proofs.YtplbgmoeannobaaGreatDoor
