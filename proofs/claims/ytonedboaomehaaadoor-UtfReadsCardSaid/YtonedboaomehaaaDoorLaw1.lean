import Derived.Test.YtonedboaomehaaaDoorRead
import Derived.Test.YtonedboaomehaaaDoorPlaw
namespace Go.Proofs.YtonedboaomehaaaDoor
open Go.Vc Go.Proofs Go.RowKit Cae
set_option maxRecDepth 100000
set_option linter.unusedSimpArgs false
set_option linter.unusedVariables false
attribute [local irreducible] wpL callK valK unitK runK Fun Sl Own vc vcOps opK pureK
set_option maxHeartbeats 4000000

theorem strlit (l : List UInt8) : Value.string ⟨l.toArray⟩ = str l := (rfl)
attribute [local push_cast] strlit

theorem sliceK_hi (e e' : TypeId) (k b o n c : Nat) (kk : IntKind) (i : Int) (L : VP) (other : Prop) (p) : sliceK (some (.slice e)) (some (e', k)) (.slice (some ⟨b, o, none⟩) n c) none (some (.int kk i)) none L other p = ((0 ≤ i ∧ i ≤ c) ∧ L (.slice (some ⟨b, o, none⟩) i.toNat c)) := by
  simp only [sliceK, natAt, Option.map_some, Int.toNat_natCast, Nat.zero_mul, add_lit, Nat.add_zero, Nat.sub_zero, ite_self, Int.natCast_zero, Int.toNat_zero, Int.le_refl, true_and]
theorem Sl_take {α : Type} {X : Nat → Prop} {k : Nat} {R : List Value → α → Prop} {w : World} {a : Option Addr} {n c : Nat} {l r : List α} (h : Sl X k R w (.slice a n c) (l ++ r)) : Sl X k R w (.slice a l.length c) l := by
  unfold Sl at h ⊢
  obtain ⟨a', c', he, hc, h⟩ := h
  cases he
  simp only [List.length_append] at hc
  refine ⟨a, c, rfl, by omega, fun i x hx => h i x ?_⟩
  rw [List.getElem?_append_left (List.getElem?_eq_some_iff.1 hx).1]; exact hx
attribute [local push_cast] sliceK_hi

theorem covers_c (s t : List UInt8) (l : List Int) (X : Nat → Prop) (v : Value) (w : World) (hg : Least w) (hv : Sl X 1 (En encI) w v l) :
    Fun Tryd.prog 3 [str s, str t, v] w fun r w' => r = .bool true ∧ Below w.heap.size w w' := by
  obtain ⟨a, c, rfl, hc⟩ := hv.shape
  refine fun_of_vc Tryd.func3 rfl (by kernel_rfl) [6] rfl ?_
  simp -dsimp only [push_cast, fr0, Tryd.ntmps3, List.length_cons, List.length_nil, Nat.reduceAdd, Nat.reduceSub, Nat.reduceBEq, List.replicate_succ, List.replicate_zero]
  repeat' first | apply And.intro | intro _
  all_goals try exact rfl
  all_goals try exact Below.refl _ _
  rename_i hs ht hl
  refine callK_of (read_c w hg) ?_
  rintro _ w1 ⟨rfl, hb1⟩
  simp -dsimp only [push_cast, Nat.reduceAdd, Nat.reduceLeDiff, Nat.reduceBEq, decide_true]
  refine callK_of (decode_c s (by omega) w1 (hg.below hb1)) ?_
  rintro v w2 ⟨ho2, hb2⟩
  have hB2 : Below w.heap.size w w2 := hb1.trans (hb2.mono hb1.size)
  have hs2 := ho2.sl
  obtain ⟨a2, c2, rfl, hc2⟩ := hs2.shape
  simp -dsimp only [push_cast, Nat.reduceAdd, Nat.reduceLeDiff, Nat.reduceBEq, decide_true]
  refine wpL_loop [6, 7, 9, 32, 33, 34, 35, 36, 37, 38, 39, 40, 41, 42, 43, 44, 45, 46, 47, 48, 49, 50, 51, 52, 53, 54, 55, 56, 57, 58, 59, 60, 61, 62, 63, 64, 65, 66, 67] (fun z wx => ∃ (i pos : Nat), z 9 = .int .i64 i ∧ z 7 = .int .i64 pos ∧ i ≤ (udec 0 s).length ∧ pos ≤ s.length ∧ (udec 0 s).drop i = udec pos (s.drop pos) ∧ wx = w2) (fun z _ => (udec 0 s).length - (intOf (z 9)).toNat) ?_ ?_
  · exact ⟨0, 0, rfl, rfl, Nat.zero_le _, Nat.zero_le _, rfl, rfl⟩
  intro z wx hI
  obtain ⟨i, pos, h9, h7, hi, hp, hd, rfl⟩ := hI
  simp -dsimp only [push_cast, Nat.reduceAdd, Nat.reduceLeDiff, Nat.reduceBEq, decide_true, h9, h7]
  have hul := udec_length s.length s 0 rfl
  refine ⟨fun hlt => ?_, fun hge => ?_⟩
  · obtain ⟨x, hx, hxm, hdx, htx⟩ := lt_get (l := udec 0 s) (i := i) (by omega)
    obtain ⟨b, o, rfl, hX, hcell⟩ := hs2.get hx
    have c0 : wx.cell? ⟨b, o + i * 3 + 1, none⟩ = some (.int .i64 x.at_) := hcell 1 _ rfl
    have c1 : wx.cell? ⟨b, o + i * 3 + 2, none⟩ = some (.int .i64 x.n) := hcell 2 _ rfl
    have hne : s.drop pos ≠ [] := by
      intro h
      rw [h, udec_nil, hdx] at hd
      cases hd
    have h1 := ustep_pos (s.drop pos)
    have h2 := ustep_le (s.drop pos) hne
    rw [udec_cons _ _ hne, hdx] at hd
    injection hd with hx1 hd
    rw [hx1] at c0 c1
    rw [List.length_drop] at h2
    simp -dsimp only [push_cast, Nat.reduceAdd, Nat.reduceLeDiff, Nat.reduceBEq, decide_true, c0, c1]
    clear hcell c0 c1 hs2 ho2 hv hdx htx hxm hx hx1 hX
    repeat' first | apply And.intro | intro _
    all_goals first
    | omega
    | exact (by omega : False).elim
    | exact ⟨i + 1, pos + (ustep (s.drop pos)).2, rfl, rfl, by omega, by omega, by rw [hd, List.drop_drop]⟩
    | (rw [h9]; simp only [intOf]; omega)
  · have e : s.drop pos = [] := by
      rw [List.drop_eq_nil_of_le (by omega)] at hd
      by_cases h : s.drop pos = []
      · exact h
      · rw [udec_cons _ _ h] at hd; cases hd
    have hpos : pos = s.length := by have := congrArg List.length e; simp only [List.length_drop, List.length_nil] at this; omega
    subst hpos
    refine ⟨fun h => absurd rfl h, fun _ => ⟨by omega, by simp only [List.length_append, List.length_cons, List.length_nil]; omega, ?_⟩⟩
    refine callK_of (decode_c (s ++ [122] ++ t) (by simp only [List.length_append, List.length_cons, List.length_nil]; omega) wx (hg.below hB2)) ?_
    rw [List.append_assoc, List.singleton_append, udec_app t s.length s 0 rfl]
    obtain ⟨r, hr⟩ := udec_z t (0 + s.length)
    rw [hr]
    rintro v w3 ⟨ho3, hb3⟩
    have hs3 := ho3.sl
    obtain ⟨a3, c3, rfl, hc3⟩ := hs3.shape
    obtain ⟨b3, o3, rfl, _, hcell3⟩ := hs3.get (i := (udec 0 s).length) (x := ⟨122, 0 + s.length, 1⟩) (by rw [List.getElem?_append_right (Nat.le_refl _), Nat.sub_self]; rfl)
    have c0 : w3.cell? ⟨b3, o3 + (udec 0 s).length * 3, none⟩ = some (.int .i64 122) := hcell3 0 _ rfl
    have hB3 : Below w.heap.size w w3 := hB2.trans (hb3.mono hB2.size)
    have hlen3 : (udec 0 s).length + 1 ≤ (udec 0 s ++ ⟨122, 0 + s.length, 1⟩ :: r).length := by simp only [List.length_append, List.length_cons]; omega
    generalize (udec 0 s ++ ⟨122, 0 + s.length, 1⟩ :: r).length = n3 at hs3 hc3 hlen3 ⊢
    simp -dsimp only [push_cast, Nat.reduceAdd, Nat.reduceLeDiff, Nat.reduceBEq, decide_true]
    refine ⟨fun _ => ⟨⟨by omega, by omega⟩, ?_⟩, fun h => absurd h (by omega)⟩
    refine callK_of (equalU_c (udec 0 s) (udec 0 s) (by omega) _ _ _ _ w3 (Sl_take hs3) (hs2.below hb3)) ?_
    rintro _ w4 ⟨rfl, hb4⟩
    rw [decide_eq_true rfl]
    have d0 := (hb4.cell (World.block_lt_of_cell? w3 _ c0)).trans c0
    simp -dsimp only [push_cast, Nat.reduceAdd, Nat.reduceLeDiff, Nat.reduceBEq, decide_true, d0, Bool.not_true, Bool.not_false]
    have hB4 : Below w.heap.size w w4 := hB3.trans (hb4.mono hB3.size)
    refine ⟨⟨by omega, by omega⟩, fun h => absurd rfl h, fun _ => callK_of (encode_c l (by omega) X _ w4 (hv.below hB4)) ?_⟩
    rintro v w5 ⟨hco, hb5⟩
    have hB5 : Below w.heap.size w w5 := hB4.trans (hb5.mono hB4.size)
    clear d0 hs3 hcell3 c0 hs2 ho2 hb4 hb3 hd
    rcases hco with ⟨hok, rfl⟩ | ⟨kk, x, b, hx, hbad, hgood, hbb, rfl, hc1, hc2⟩
    · simp -dsimp only [push_cast, Nat.reduceAdd, Nat.reduceLeDiff, Nat.reduceBEq, decide_true, Bool.false_or]
      refine callK_of (decode_c (uenc l) (by have := uenc_length l; omega) w5 (hg.below hB5)) ?_
      rintro v w6 ⟨ho6, hb6⟩
      have hB6 : Below w.heap.size w w6 := hB5.trans (hb6.mono hB5.size)
      have hs6 := ho6.sl
      have hpts := udec_enc l 0 hok
      have hlen6 : (udec 0 (uenc l)).length = l.length := by have := congrArg List.length hpts; rwa [List.length_map] at this
      clear ho6
      obtain ⟨a6, c6, rfl, hc6⟩ := hs6.shape
      rw [hlen6] at hs6 ⊢
      simp -dsimp only [push_cast, Nat.reduceAdd, Nat.reduceLeDiff, Nat.reduceBEq, decide_true]
      refine ⟨fun h => absurd rfl h, fun _ => ?_⟩
      refine wpL_loop [6, 14, 116, 117, 118, 119, 120, 121, 122, 123, 124, 125, 126, 127, 128, 129, 130, 131] (fun z wx => ∃ (i : Nat), z 14 = .int .i64 i ∧ i ≤ l.length ∧ Below w6.heap.size w6 wx) (fun z _ => l.length - (intOf (z 14)).toNat) ?_ ?_
      · exact ⟨0, rfl, Nat.zero_le _, Below.refl _ _⟩
      intro z wx hI
      obtain ⟨i, h14, hi, hbx⟩ := hI
      have hBx : Below w.heap.size w wx := hB6.trans (hbx.mono hB6.size)
      simp -dsimp only [push_cast, Nat.reduceAdd, Nat.reduceLeDiff, Nat.reduceBEq, decide_true, h14]
      refine ⟨fun hlt => ?_, fun hge => hBx⟩
      obtain ⟨x, hx, _, _, _⟩ := lt_get (l := l) (i := i) (by omega)
      obtain ⟨u, hu, _, _, _⟩ := lt_get (l := udec 0 (uenc l)) (i := i) (by omega)
      have hux : (u.p : Int) = x := by
        have := congrArg (·[i]?) hpts
        simp only [List.getElem?_map, hu, hx, Option.map_some, Option.some.injEq] at this
        exact this
      have hc6' := hs6.below hbx
      have hv' := hv.below hBx
      obtain ⟨b, o, rfl, _, hcell⟩ := hv'.get hx
      obtain ⟨b', o', rfl, _, hcell'⟩ := hc6'.get hu
      have c0 : wx.cell? ⟨b, o + i, none⟩ = some (.int .i64 x) := by simpa using hcell 0 _ rfl
      have c0' : wx.cell? ⟨b', o' + i * 3, none⟩ = some (.int .i64 x) := by rw [← hux]; exact hcell' 0 _ rfl
      refine wpL_draw (fun w' => ∀ a, w'.cell? a = wx.cell? a) mixed (by kernel_rfl) (fun _ => rfl) ?_
      have d0 : wx.drew.cell? ⟨b, o + i, none⟩ = some (.int .i64 x) := c0
      have d0' : wx.drew.cell? ⟨b', o' + i * 3, none⟩ = some (.int .i64 x) := c0'
      simp -dsimp only [push_cast, Nat.reduceAdd, Nat.reduceLeDiff, Nat.reduceBEq, decide_true, d0, d0']
      refine ⟨⟨by omega, by omega⟩, fun w'' hC => by rw [hC, c0']; exact rfl, ⟨by omega, by omega⟩, fun w'' hC => by rw [hC, c0]; exact rfl, fun h => absurd rfl h, fun _ => ?_⟩
      exact ⟨⟨by omega, by omega⟩, ⟨i + 1, rfl, by omega, hbx.drew⟩, by rw [h14]; simp only [intOf]; omega⟩
    · simp -dsimp only [push_cast, Nat.reduceAdd, Nat.reduceLeDiff, Nat.reduceBEq, decide_true]
      refine callK_of (containsBad_c l (by omega) X _ w5 (hv.below hB5)) ?_
      rintro v w6 ⟨⟨bb, rfl, hbb⟩, hb6⟩
      simp -dsimp only [push_cast, Nat.reduceAdd, Nat.reduceLeDiff, Nat.reduceBEq, decide_true]
      have : bb = true := hbb.2 ⟨x, List.mem_of_getElem? hx, hbad⟩
      subst this
      exact ⟨rfl, hB5.trans (hb6.mono hB5.size)⟩
end Go.Proofs.YtonedboaomehaaaDoor
