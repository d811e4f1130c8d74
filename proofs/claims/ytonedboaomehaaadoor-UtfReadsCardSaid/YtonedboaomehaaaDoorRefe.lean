import Derived.Test.YtonedboaomehaaaDoorRefd
import Derived.Test.YtonedboaomehaaaDoorTell
namespace Go.Proofs.YtonedboaomehaaaDoor
open Go.Vc Go.Proofs Go.RowKit Cae
set_option maxRecDepth 100000
set_option linter.unusedSimpArgs false
set_option linter.unusedVariables false
attribute [local irreducible] wpL callK valK unitK runK Fun Sl Own vc vcOps opK pureK
set_option maxHeartbeats 4000000

/-- The reference's 'no error'. -/
def FineVar (w : World) : Prop := w.cell? ⟨0, 0, none⟩ = some (.int .i64 0) ∧ w.cell? ⟨0, 1, none⟩ = some (.int .i64 (-1))
theorem FineVar.kept {X : Nat → Prop} {w w' : World} (h : FineVar w) (hk : Kept X w w') (hX : ¬ X 0) : FineVar w' := ⟨hk.cell h.1 hX, hk.cell h.2 hX⟩
theorem FineVar.below {w w' : World} (h : FineVar w) (hk : Below w.heap.size w w') : FineVar w' := h.kept (Kept.of_below hk (X := fun _ => False) (fun _ _ _ => by omega)) id
theorem FineVar.lt {w : World} (h : FineVar w) : 0 < w.heap.size := World.block_lt_of_cell? w _ h.1
theorem FineVar.cells {w : World} (h : FineVar w) : cellsAt w ⟨0, 0, none⟩ 0 2 = some [.int .i64 0, .int .i64 (-1)] :=
  cellsAt_of [.int .i64 0, .int .i64 (-1)] 0 (fun j u hu => by
    match j, hu with
    | 0, hu => simp at hu; subst hu; exact h.1
    | 1, hu => simp at hu; subst hu; exact h.2)

/-- What the reference's Encode gives. -/
def CodedR (l : List Int) (v : Value) : Prop :=
  ((∀ x ∈ l, okPoint x) ∧ v = .tuple #[str (uenc l), .agg #[.int .i64 0, .int .i64 (-1)]]) ∨
  (∃ (k : Nat) (x : Int), l[k]? = some x ∧ ¬ okPoint x ∧ (∀ y ∈ l.take k, okPoint y) ∧ v = .tuple #[str [], .agg #[.int .i64 1, .int .i64 k]])

theorem encodeR_c (l : List Int) (hl : l.length < 10000000) (X : Nat → Prop) (v : Value) (w : World) (hF : FineVar w) (hv : Sl X 1 (En encI) w v l) :
    Fun Tryd.prog 16 [v] w fun v w' => CodedR l v ∧ Below w.heap.size w w' := by
  obtain ⟨a, c, rfl, hc⟩ := hv.shape
  refine fun_of_vcC Tryd.func16 rfl (by kernel_rfl) [.tmp 2, .cell 3 42] rfl ?_
  simp -dsimp only [push_cast, fr0, Tryd.ntmps16, List.length_cons, List.length_nil, Nat.reduceAdd, Nat.reduceSub, Nat.reduceBEq, List.replicate_succ, List.replicate_zero]
  refine allocK (z := [.int .i64 0, .int .i64 0]) (by kernel_rfl) ?_
  intro w1 hw1
  simp -dsimp only [push_cast, Nat.reduceAdd, Nat.reduceLeDiff, Nat.reduceBEq, decide_true]
  have hk1 : Kept (fun _ => False) w w1 := Kept.new hw1
  refine wpL_loop [2, 4, 5, 6, 7, 10, 11, 12, 13, 14, 15, 16, 17, 18, 19, 20, 21, 22, 23, 24] (fun z wx => ∃ (i : Nat), z 10 = .int .i64 i ∧ i ≤ l.length ∧ (∀ y ∈ l.take i, okPoint y) ∧ 
    z 4 = str (uenc (l.take i)) ∧ Kept (fun _ => False) w1 wx) (fun z _ => l.length - (intOf (z 10)).toNat) ?_ ?_
  · exact ⟨0, rfl, Nat.zero_le _, by simp, rfl, Kept.refl _ _⟩
  · intro z wx hI
    obtain ⟨i, h10, hi, hok, h4, hk⟩ := hI
    have hkx := hk1.trans hk (fun _ _ => id)
    have hB := hw1.blk.kept hk id
    simp -dsimp only [push_cast, Nat.reduceAdd, Nat.reduceLeDiff, Nat.reduceBEq, decide_true, h10, h4]
    refine ⟨fun hlt => ?_, fun hge => ?_⟩
    · obtain ⟨x, hx, hxm, hd, ht⟩ := lt_get (l := l) (i := i) (by omega)
      obtain ⟨b, o, rfl, hX, hcell⟩ := (hv.kept hkx (fun _ h => h.elim)).get hx
      have c0 : wx.cell? ⟨b, o + i, none⟩ = some (.int .i64 x) := by simpa using hcell 0 _ rfl
      simp -dsimp only [push_cast, Nat.reduceAdd, Nat.reduceLeDiff, Nat.reduceBEq, decide_true, c0]
      refine ⟨⟨by omega, by omega⟩, ?_⟩
      refine callK_of (bytesOf_c x wx) ?_
      rintro _ w2 ⟨rfl, hb2⟩
      simp -dsimp only [push_cast, Nat.reduceAdd, Nat.reduceLeDiff, Nat.reduceBEq, decide_true]
      have hB2 := hB.below hb2 hB.lt
      refine ⟨fun hy => ?_, fun hno => ?_⟩
      · refine storeAgg (n := 2) (by kernel_rfl) hB2 rfl (by simp) (by simp [Value.oneCell']) ?_
        intro w3 hw3
        have c3 : cellsAt w3 ⟨w.heap.size, 0, none⟩ 0 2 = some [.int .i64 1, .int .i64 i] := hw3.blk.cellsAt
        simp -dsimp only [push_cast, Nat.reduceAdd, Nat.reduceLeDiff, Nat.reduceBEq, decide_true, c3]
        have hb : Below w.heap.size w w3 := (hkx.below (Nat.le_refl _) (fun _ h => h.elim)).trans ((hb2.mono hkx.size).trans (hw3.kept.below (Nat.le_trans hkx.size hb2.size) (fun _ h => by omega)))
        exact ⟨.inr ⟨i, x, hx, (uref_nil x).1 hy, hok, rfl⟩, hb⟩
      · have hx : okPoint x := Classical.byContradiction fun h => hno ((uref_nil x).2 h)
        have hul := uenc_length (l.take i)
        have hul1 := uref_len x
        rw [List.length_take] at hul
        have hue : uenc (l.take (i + 1)) = uenc (l.take i) ++ uref x := by
          rw [ht]; unfold uref; rw [if_pos hx]; simp [uenc, List.flatMap_append]
        refine ⟨by omega, ⟨by omega, by omega⟩, ⟨i + 1, rfl, by omega, ?_, ?_, hk.trans (Kept.of_below hb2 (X := fun _ => False) (fun _ _ _ => by omega)) (fun _ _ => id)⟩, by rw [h10]; simp only [intOf]; omega⟩
        · intro y hy
          rw [ht, List.mem_append, List.mem_singleton] at hy
          rcases hy with hy | rfl
          · exact hok y hy
          · exact hx
        · rw [hue]
    · rw [List.take_of_length_le (by omega)] at hok h4 ⊢
      have hFx := hF.kept hkx id
      refine wpL_draw (fun w' => FineVar w') mixed (by kernel_rfl) (hFx.below (Below.refl _ _).drew) ?_
      have d1 : cellsAt wx.drew ⟨0, 0, none⟩ 0 2 = some [.int .i64 0, .int .i64 (-1)] := (hFx.below (Below.refl _ _).drew).cells
      simp -dsimp only [push_cast, Nat.reduceAdd, Nat.reduceLeDiff, Nat.reduceBEq, decide_true, d1]
      refine ⟨fun w'' hC => by rw [hC.cells]; exact rfl, ?_⟩
      refine storeAgg (n := 2) (by kernel_rfl) hB.drew rfl (by simp) (by simp [Value.oneCell']) ?_
      intro w3 hw3
      have hlt := hF.lt
      refine ⟨(hFx.below (Below.refl _ _).drew).kept hw3.kept (by omega), ?_⟩
      have c3 : cellsAt w3 ⟨w.heap.size, 0, none⟩ 0 2 = some [.int .i64 0, .int .i64 (-1)] := hw3.blk.cellsAt
      simp -dsimp only [push_cast, Nat.reduceAdd, Nat.reduceLeDiff, Nat.reduceBEq, decide_true, c3]
      exact ⟨.inl ⟨hok, rfl⟩, (hkx.below (Nat.le_refl _) (fun _ h => h.elim)).drew.trans (hw3.kept.below hkx.size (fun _ h => by omega))⟩

/-- An error and what it tells. -/
def Errs (w : World) (v : Value) (n p : Int) : Prop := (v = .nilIface ∧ n = 0 ∧ p = -1) ∨ Placed w v n p
theorem Errs.below {w w' : World} {v : Value} {n p : Int} (h : Errs w v n p) (hk : Below w.heap.size w w') : Errs w' v n p := h.imp id fun h => h.below hk

theorem placeE_c (v : Value) (n p : Int) (w : World) (hE : ErrVar w) (hv : Errs w v n p) : Fun Tryd.prog 22 [v] w fun r w' => r = .tuple #[.int .i64 n, .int .i64 p] ∧ Below w.heap.size w w' := by
  rcases hv with ⟨rfl, rfl, rfl⟩ | hv
  · exact (place0_c w).mono fun r w' ⟨h, hw⟩ => ⟨h, by subst hw; exact Below.refl _ _⟩
  · exact place_c v n p w hE hv

theorem is_c (v : Value) (n p a b : Int) (w : World) (hE : ErrVar w) (hv : Errs w v n p) : Fun Tryd.prog 17 [v, .agg #[.int .i64 a, .int .i64 b]] w fun r w' => r = .bool (decide (n = a ∧ p = b)) ∧ Below w.heap.size w w' := by
  refine fun_of_vc Tryd.func17 rfl (by kernel_rfl) [4] rfl ?_
  simp -dsimp only [push_cast, fr0, Tryd.ntmps17, List.length_cons, List.length_nil, Nat.reduceAdd, Nat.reduceSub, Nat.reduceBEq, List.replicate_succ, List.replicate_zero]
  refine boxK_of ?_
  intro w1 hw1
  simp -dsimp only [push_cast, Nat.reduceAdd, Nat.reduceLeDiff, Nat.reduceBEq, decide_true]
  refine callK_of (placeE_c v n p w1 ((Kept.new hw1 (X := fun _ => False)).cell hE id) (hv.below hw1.below)) ?_
  rintro _ w2 ⟨rfl, hb2⟩
  have c0 : w2.cell? ⟨w.heap.size, 0, none⟩ = some (.int .i64 a) := (hb2.cell (by have := hw1.size; show w.heap.size < _; omega)).trans (hw1.cell rfl)
  have c1 : w2.cell? ⟨w.heap.size, 1, none⟩ = some (.int .i64 b) := (hb2.cell (by have := hw1.size; show w.heap.size < _; omega)).trans (hw1.cell rfl)
  simp -dsimp only [push_cast, Nat.reduceAdd, Nat.reduceLeDiff, Nat.reduceBEq, decide_true, c0, c1]
  have hb : Below w.heap.size w w2 := hw1.below.trans (hb2.mono (by have := hw1.size; omega))
  constructor
  · intro h; subst h; exact ⟨by simp, hb⟩
  · intro h; exact ⟨by simp [h], hb⟩
end Go.Proofs.YtonedboaomehaaaDoor
