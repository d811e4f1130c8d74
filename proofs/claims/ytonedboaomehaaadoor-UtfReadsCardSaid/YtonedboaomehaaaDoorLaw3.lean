import Derived.Test.YtonedboaomehaaaDoorRefe
namespace Go.Proofs.YtonedboaomehaaaDoor
open Go.Vc Go.Proofs Go.RowKit Cae
set_option maxRecDepth 100000
set_option linter.unusedSimpArgs false
set_option linter.unusedVariables false
attribute [local irreducible] wpL callK valK unitK runK Fun Sl Own vc vcOps opK pureK
set_option maxHeartbeats 4000000

theorem str_inj {a b : List UInt8} (h : str a = str b) : a = b := by
  simp only [str, Value.string.injEq, ByteArray.mk.injEq, Array.mk.injEq] at h
  exact h

theorem reads_c (s : List UInt8) (l : List Int) (X : Nat → Prop) (v : Value) (w : World) (hg : Least w) (hF : FineVar w) (hE : ErrVar w) (hv : Sl X 1 (En encI) w v l) :
    Fun Tryd.prog 5 [str s, v] w fun r w' => r = .bool true ∧ Below w.heap.size w w' := by
  obtain ⟨a, c, rfl, hc⟩ := hv.shape
  refine fun_of_vc Tryd.func5 rfl (by kernel_rfl) [4] rfl ?_
  simp -dsimp only [push_cast, fr0, Tryd.ntmps5, List.length_cons, List.length_nil, Nat.reduceAdd, Nat.reduceSub, Nat.reduceBEq, List.replicate_succ, List.replicate_zero]
  refine ⟨fun hs => ⟨fun _ => Below.refl _ _, fun hl => ?_⟩, fun _ => Below.refl _ _⟩
  refine callK_of (decode_c s (by omega) w hg) ?_
  rintro v1 w1 ⟨ho1, hb1⟩
  simp -dsimp only [push_cast, Nat.reduceAdd, Nat.reduceLeDiff, Nat.reduceBEq, decide_true]
  refine callK_of (decodeR_c s (by omega) w1) ?_
  rintro v2 w2 ⟨ho2, hb2⟩
  have hB2 : Below w.heap.size w w2 := hb1.trans (hb2.mono hb1.size)
  have hs1 := ho1.sl.below hb2
  have hs2 := ho2.sl
  obtain ⟨a1, c1, rfl, hc1⟩ := hs1.shape
  obtain ⟨a2, c2, rfl, hc2⟩ := hs2.shape
  simp -dsimp only [push_cast, Nat.reduceAdd, Nat.reduceLeDiff, Nat.reduceBEq, decide_true, ne_eq, eq_self, not_true_eq_false, not_false_eq_true, true_imp_iff, false_imp_iff, Int.reduceNe, Int.reduceEq, Int.reduceLT, Int.reduceLE]
  have hul := udec_length s.length s 0 rfl
  refine wpL_loop [4, 7, 29, 30, 31, 32, 33, 34, 35, 36, 37, 38, 39, 40, 41, 42, 43] (fun z wx => ∃ (i : Nat), z 7 = .int .i64 i ∧ i ≤ (udec 0 s).length ∧ Below w2.heap.size w2 wx) (fun z _ => (udec 0 s).length - (intOf (z 7)).toNat) ?_ ?_
  · exact ⟨0, rfl, Nat.zero_le _, Below.refl _ _⟩
  intro z wx hI
  obtain ⟨i, h7, hi, hbx⟩ := hI
  have hs1 := hs1.below hbx
  have hs2 := hs2.below hbx
  have hBx : Below w.heap.size w wx := hB2.trans (hbx.mono hB2.size)
  simp -dsimp only [push_cast, Nat.reduceAdd, Nat.reduceLeDiff, Nat.reduceBEq, decide_true, h7]
  refine ⟨fun hlt => ?_, fun hge => ?_⟩
  · obtain ⟨x, hx, hxm, hd, ht⟩ := lt_get (l := udec 0 s) (i := i) (by omega)
    obtain ⟨b, o, rfl, hX, hcell⟩ := hs1.get hx
    obtain ⟨b', o', rfl, hX', hcell'⟩ := hs2.get hx
    refine wpL_draw (fun w' => ∀ a, w'.cell? a = wx.cell? a) mixed (by kernel_rfl) (fun _ => rfl) ?_
    have g0 : ∀ w'' : World, (∀ a, w''.cell? a = wx.cell? a) → cellsAt w'' ⟨b, o + i * 3, none⟩ 0 3 = some [.int .i64 x.p, .int .i64 x.at_, .int .i64 x.n] := fun w'' hC => cellsAt_of (encU x) 0 (fun j u hu => by rw [hC]; simpa using hcell j u hu)
    have g0' : ∀ w'' : World, (∀ a, w''.cell? a = wx.cell? a) → cellsAt w'' ⟨b', o' + i * 3, none⟩ 0 3 = some [.int .i64 x.p, .int .i64 x.at_, .int .i64 x.n] := fun w'' hC => cellsAt_of (encU x) 0 (fun j u hu => by rw [hC]; simpa using hcell' j u hu)
    have d0 := g0 wx.drew (fun _ => rfl)
    have d0' := g0' wx.drew (fun _ => rfl)
    simp -dsimp only [push_cast, Nat.reduceAdd, Nat.reduceLeDiff, Nat.reduceBEq, decide_true, ne_eq, eq_self, not_true_eq_false, not_false_eq_true, true_imp_iff, false_imp_iff, Int.reduceNe, Int.reduceEq, Int.reduceLT, Int.reduceLE, d0, d0']
    refine ⟨⟨by omega, by omega⟩, fun w'' hC => by rw [g0 w'' hC]; exact rfl, ⟨by omega, by omega⟩, fun w'' hC => by rw [g0' w'' hC]; exact rfl, ?_⟩
    exact ⟨⟨by omega, by omega⟩, ⟨i + 1, rfl, by omega, hbx.drew⟩, by rw [h7]; simp only [intOf]; omega⟩
  · refine callK_of (encodeR_c l (by omega) X _ wx (hF.below hBx) (hv.below hBx)) ?_
    rintro v3 w3 ⟨hr, hb3⟩
    have hB3 : Below w.heap.size w w3 := hBx.trans (hb3.mono hBx.size)
    obtain ⟨t3, e3, p3, rfl⟩ : ∃ t e p, v3 = .tuple #[str t, .agg #[.int .i64 e, .int .i64 p]] := by
      rcases hr with ⟨_, rfl⟩ | ⟨k, x, _, _, _, rfl⟩
      · exact ⟨_, _, _, rfl⟩
      · exact ⟨_, _, _, rfl⟩
    simp -dsimp only [push_cast, Nat.reduceAdd, Nat.reduceLeDiff, Nat.reduceBEq, decide_true]
    refine allocK (z := [.int .i64 0, .int .i64 0]) (by kernel_rfl) ?_
    intro w4 hw4
    simp -dsimp only [push_cast, Nat.reduceAdd, Nat.reduceLeDiff, Nat.reduceBEq, decide_true]
    refine storeAgg (n := 2) (by kernel_rfl) hw4.blk rfl (by simp) (by simp [Value.oneCell']) ?_
    intro w5 hw5
    simp -dsimp only [push_cast, Nat.reduceAdd, Nat.reduceLeDiff, Nat.reduceBEq, decide_true]
    have k5 : Below w3.heap.size w3 w5 := hw4.below.trans (hw5.kept.below (by have := hw4.size; omega) (fun _ h => by omega))
    have hB5 : Below w.heap.size w w5 := hB3.trans (k5.mono hB3.size)
    refine callK_of (encode_c l (by omega) X _ w5 (hv.below hB5)) ?_
    rintro v6 w6 ⟨hco, hb6⟩
    have hB6 : Below w.heap.size w w6 := hB5.trans (hb6.mono hB5.size)
    have c6 : cellsAt w6 ⟨w3.heap.size, 0, none⟩ 0 2 = some [.int .i64 e3, .int .i64 p3] := (hw5.blk.below hb6 hw5.blk.lt).cellsAt
    obtain ⟨t6, er, rfl, hEr, ht⟩ : ∃ t6 er, v6 = .tuple #[str t6, er] ∧ Errs w6 er e3 p3 ∧ t6 = t3 := by
      rcases hco with ⟨hok, rfl⟩ | ⟨k, x, b, hx, hbad, hgood, hbb, rfl, hc1, hc2⟩
      · rcases hr with ⟨hok', h⟩ | ⟨k', x', hx', hbad', _, h⟩
        · simp only [Value.tuple.injEq, Array.mk.injEq, List.cons.injEq, Value.agg.injEq, Value.int.injEq, and_true, true_and] at h
          obtain ⟨h1, h2, h3⟩ := h
          refine ⟨uenc l, .nilIface, rfl, .inl ⟨rfl, h2, h3⟩, ?_⟩
          exact (str_inj h1).symm
        · exact absurd (hok x' (List.mem_of_getElem? hx')) hbad'
      · rcases hr with ⟨hok', h⟩ | ⟨k', x', hx', hbad', hgood', h⟩
        · exact absurd (hok' x (List.mem_of_getElem? hx)) hbad
        · simp only [Value.tuple.injEq, Array.mk.injEq, List.cons.injEq, Value.agg.injEq, Value.int.injEq, and_true, true_and] at h
          obtain ⟨h1, h2, h3⟩ := h
          have hkk : k = k' := by
            rcases Nat.lt_trichotomy k k' with hlt | heq | hgt
            · exact absurd (hgood' x (List.mem_of_getElem? (by rw [List.getElem?_take, if_pos hlt]; exact hx))) hbad
            · exact heq
            · exact absurd (hgood x' (List.mem_of_getElem? (by rw [List.getElem?_take, if_pos hgt]; exact hx'))) hbad'
          subst hkk h2 h3
          exact ⟨[], _, rfl, .inr (.at_ b 1 k hc1 hc2), (str_inj h1).symm⟩
    subst ht
    simp -dsimp only [push_cast, Nat.reduceAdd, Nat.reduceLeDiff, Nat.reduceBEq, decide_true, c6]
    refine callK_of (is_c er e3 p3 e3 p3 w6 ?_ hEr) ?_
    · exact (Kept.of_below hB6 (X := fun _ => False) (fun _ _ _ => by omega)).cell hE id
    rintro _ w7 ⟨rfl, hb7⟩
    simp -dsimp only [push_cast, Nat.reduceAdd, Nat.reduceLeDiff, Nat.reduceBEq, decide_true, ne_eq, eq_self, not_true_eq_false, not_false_eq_true, true_imp_iff, false_imp_iff, Int.reduceNe, Int.reduceEq, Int.reduceLT, Int.reduceLE]
    exact hB6.trans (hb7.mono hB6.size)
end Go.Proofs.YtonedboaomehaaaDoor
