import Derived.Test.YtimjpijbcnjaaaaDoorImr1b
import Derived.Test.YtimjpijbcnjaaaaDoorImr2b
namespace Go.Proofs.YtimjpijbcnjaaaaDoor
open Go.Vc Go.Proofs Go.RowKit Cae
set_option maxRecDepth 100000
set_option linter.unusedSimpArgs false
set_option linter.unusedVariables false
attribute [local irreducible] wpL callK valK unitK runK Fun Sl Own vc vcOps opK pureK
set_option maxHeartbeats 4000000

theorem rightProgramR_c (p : ProgP) (hl : ProgLen p) (X : Nat → Prop) (v : Value) (w : World) (hv : ProgV X w v p) :
    Fun Tryd.prog 22 [v] w fun u w' => u = .bool (progRight p) ∧ Below w.heap.size w w' := by
  obtain ⟨rv, rfl, hr⟩ := hv
  obtain ⟨a, c, rfl, hc⟩ := hr.shape
  have hno : progRight p = false → Value.bool false = Value.bool (progRight p) := fun h => by rw [h]
  refine fun_of_vc Tryd.func22 rfl (by kernel_rfl) [2] rfl ?_
  simp -dsimp only [push_cast, fr0, Tryd.ntmps22, List.length_cons, List.length_nil, Nat.reduceAdd, Nat.reduceSub, Nat.reduceBEq, List.replicate_succ, List.replicate_zero]
  refine boxK_of ?_
  intro w1 hw1
  have hw1 : New w w1 43 [.slice a p.rules.length c, .bool p.els] := hw1
  have sz1 := hw1.size
  have d0 : w1.cell? ⟨w.heap.size, 0, none⟩ = some (.slice a p.rules.length c) := hw1.cell rfl
  simp -dsimp only [push_cast, Nat.reduceAdd, Nat.reduceLeDiff, Nat.reduceBEq, decide_true, d0]
  refine wpL_loop [2, 4, 8, 9, 10, 11, 12, 13, 14, 15, 16, 17, 18, 19, 20, 21, 22] (fun z wx => ∃ (i : Nat), z 8 = .int .i64 i ∧ i ≤ p.rules.length ∧ (∀ r ∈ p.rules.take i, codeRight r.before = true ∧ codeRight r.after = true) ∧ Below w1.heap.size w1 wx) (fun z _ => p.rules.length - (intOf (z 8)).toNat) ?_ ?_
  · exact ⟨0, rfl, Nat.zero_le _, by simp, Below.refl _ _⟩
  · intro z wx hI
    obtain ⟨i, h8, hi, hok, hbx⟩ := hI
    have hLx : Below w.heap.size w wx := hw1.below.trans (hbx.mono (by omega))
    have szx := hbx.size
    simp -dsimp only [push_cast, Nat.reduceAdd, Nat.reduceLeDiff, Nat.reduceBEq, decide_true, h8]
    refine ⟨fun hlt => ?_, fun hge => ?_⟩
    · have hex := lt_get (l := p.rules) (i := i) (by have := hl.1; omega)
      obtain ⟨r, hex⟩ := hex
      have hrm := hex.2.1
      have ht := hex.2.2.2
      have hget := Sl.getR (PairsV.below hr hLx) hex.1
      obtain ⟨b, o, cs, rfl, hX, hk, hcell, hR⟩ := hget
      have hR' := hR
      obtain ⟨s1, i1, s2, i2, rfl, h1, h2⟩ := hR
      have ce : cellsAt wx ⟨b, o + i * 5, none⟩ 0 5 = some [.bool r.brk, s1, i1, s2, i2] := cellsAt_of [.bool r.brk, s1, i1, s2, i2] 0 (fun j u hu => by simpa using hcell j u hu)
      have hl1 := hl.1
      simp -dsimp only [push_cast, Nat.reduceAdd, Nat.reduceLeDiff, Nat.reduceBEq, decide_true, ce]
      refine ⟨⟨by omega, by omega⟩, ?_⟩
      refine allocK (z := [.bool false, .slice none 0 0, .slice none 0 0, .slice none 0 0, .slice none 0 0]) (by kernel_rfl) ?_
      intro w5 hw5
      simp -dsimp only [push_cast, Nat.reduceAdd, Nat.reduceLeDiff, Nat.reduceBEq, decide_true]
      refine storeAgg (n := 5) (by kernel_rfl) hw5.blk rfl (by simp) (by
        obtain ⟨_, _, e1, g1, g2⟩ := h1; cases e1; obtain ⟨_, _, rfl, _⟩ := g1.shape; obtain ⟨_, _, rfl, _⟩ := g2.shape
        obtain ⟨_, _, e2, g3, g4⟩ := h2; cases e2; obtain ⟨_, _, rfl, _⟩ := g3.shape; obtain ⟨_, _, rfl, _⟩ := g4.shape
        simp [Value.oneCell']) ?_
      intro w6 hw6
      have sz5 := hw5.size
      have sz6 := hw6.size
      have hb6 : Below wx.heap.size wx w6 := hw5.below.trans (hw6.kept.below (by omega) (fun _ h => by omega))
      have hB6 : Blk w6 wx.heap.size 61 [.bool r.brk, s1, i1, s2, i2] := hw6.blk
      have f1 : cellsAt w6 ⟨wx.heap.size, 1, none⟩ 0 2 = some [s1, i1] := blkSome (n := 2) (xs := [s1, i1]) hB6 1 rfl rfl
      have hbx6 := hbx.trans (hb6.mono szx)
      simp -dsimp only [push_cast, Nat.reduceAdd, Nat.reduceLeDiff, Nat.reduceBEq, decide_true, f1]
      refine callK_of (rightCodeR_c r.before (hl.2 r hrm).1 X _ w6 (h1.below hb6)) ?_
      rintro _ w7 ⟨rfl, hb7⟩
      have sz7 := hb7.size
      have hb67 := hb6.trans (hb7.mono hb6.size)
      have hbx7 := hbx6.trans (hb7.mono hbx6.size)
      have f3 : cellsAt w7 ⟨wx.heap.size, 3, none⟩ 0 2 = some [s2, i2] := blkSome (n := 2) (xs := [s2, i2]) (hB6.below hb7 (by omega)) 3 rfl rfl
      have hLfin : ∀ w', Below w7.heap.size w7 w' → Below w.heap.size w w' := fun w' h => hw1.below.trans ((hbx7.trans (h.mono hbx7.size)).mono (by omega))
      have hfalse : (codeRight r.before = false ∨ codeRight r.after = false) → progRight p = false := fun h => by
        cases hpr : progRight p with
        | false => rfl
        | true =>
          have := (progRight_spec hpr).2 r hrm
          rcases h with h | h
          · rw [this.1] at h; cases h
          · rw [this.2] at h; cases h
      cases hr1 : codeRight r.before with
      | false =>
        simp -dsimp only [push_cast, Nat.reduceAdd, Nat.reduceLeDiff, Nat.reduceBEq, decide_true, ne_eq, eq_self, not_true_eq_false, not_false_eq_true, true_imp_iff, false_imp_iff, Int.reduceNe, Int.reduceEq, Int.reduceLT, Int.reduceLE, Bool.not_true, Bool.not_false]
        exact ⟨hno (hfalse (.inl hr1)), hLfin _ (Below.refl _ _)⟩
      | true =>
        simp -dsimp only [push_cast, Nat.reduceAdd, Nat.reduceLeDiff, Nat.reduceBEq, decide_true, ne_eq, eq_self, not_true_eq_false, not_false_eq_true, true_imp_iff, false_imp_iff, Int.reduceNe, Int.reduceEq, Int.reduceLT, Int.reduceLE, Bool.not_true, Bool.not_false, f3]
        refine callK_of (rightCodeR_c r.after (hl.2 r hrm).2 X _ w7 (h2.below hb67)) ?_
        rintro _ w8 ⟨rfl, hb8⟩
        cases hr2 : codeRight r.after with
        | false =>
          simp -dsimp only [push_cast, Nat.reduceAdd, Nat.reduceLeDiff, Nat.reduceBEq, decide_true, ne_eq, eq_self, not_true_eq_false, not_false_eq_true, true_imp_iff, false_imp_iff, Int.reduceNe, Int.reduceEq, Int.reduceLT, Int.reduceLE, Bool.not_true, Bool.not_false]
          exact ⟨hno (hfalse (.inr hr2)), hLfin _ hb8⟩
        | true =>
          simp -dsimp only [push_cast, Nat.reduceAdd, Nat.reduceLeDiff, Nat.reduceBEq, decide_true, ne_eq, eq_self, not_true_eq_false, not_false_eq_true, true_imp_iff, false_imp_iff, Int.reduceNe, Int.reduceEq, Int.reduceLT, Int.reduceLE, Bool.not_true, Bool.not_false]
          refine ⟨⟨by omega, by omega⟩, ⟨i + 1, rfl, by omega, ?_, hbx7.trans (hb8.mono hbx7.size)⟩, by rw [h8]; simp only [intOf]; omega⟩
          intro y hy
          rw [ht, List.mem_append, List.mem_singleton] at hy
          rcases hy with hy | rfl
          · exact hok y hy
          · exact ⟨hr1, hr2⟩
    · rw [List.take_of_length_le (by have := hl.1; omega)] at hok
      have e0 : wx.cell? ⟨w.heap.size, 0, none⟩ = some (.slice a p.rules.length c) := (hw1.blk.below hbx (by omega)).cell rfl
      simp -dsimp only [push_cast, Nat.reduceAdd, Nat.reduceLeDiff, Nat.reduceBEq, decide_true, e0]
      refine ⟨?_, hLx⟩
      congr 1
      unfold progRight
      have hall : (p.rules.all fun r => codeRight r.before && codeRight r.after) = true := by
        rw [List.all_eq_true]
        intro r hr
        rw [(hok r hr).1, (hok r hr).2]; rfl
      rw [hall, Bool.and_true, decide_eq_decide]
      omega
end Go.Proofs.YtimjpijbcnjaaaaDoor
