import Derived.Test.YtimjpijbcnjaaaaDoorTwo
namespace Go.Proofs.YtimjpijbcnjaaaaDoor
open Go.Vc Go.Proofs Go.RowKit Cae
set_option maxRecDepth 100000
set_option linter.unusedSimpArgs false
set_option linter.unusedVariables false
attribute [local irreducible] wpL callK valK unitK runK Fun Sl Own vc vcOps opK pureK
set_option maxHeartbeats 8000000


/-- What Match hands back. -/
def MatchV (c : CodeP) (ps : List Int) : Value :=
  if codeRight c then .tuple #[.bool (vmatch c ps).1, .int .i64 (vmatch c ps).2, .nilIface] else .tuple #[.bool false, .int .i64 0, .iface 33 (.int .i64 1)]

theorem match_c (c : CodeP) (ps : List Int) (hl : SetsLen c) (hi : c.ins.length < 1000000000) (hs : c.sets.length < 1000000000) (hps : ps.length < 1000000000) (X Xp : Nat → Prop) (v pv : Value) (w : World) (hv : CodeV X w v c) (hpv : Sl Xp 1 (En encI) w pv ps) :
    Fun Tryd.prog 10 [v, pv] w fun r w' => r = MatchV c ps ∧ Below w.heap.size w w' := by
  have hv0 := hv
  obtain ⟨sv, iv, rfl, hsv, hiv⟩ := hv0
  obtain ⟨a1, c1, rfl, hc1⟩ := hsv.shape
  obtain ⟨a2, c2, rfl, hc2⟩ := hiv.shape
  obtain ⟨a3, c3, rfl, hc3⟩ := hpv.shape
  refine fun_of_vc Tryd.func10 rfl (by kernel_rfl) [4, 5, 6] rfl ?_
  simp -dsimp only [push_cast, fr0, Tryd.ntmps10, List.length_cons, List.length_nil, Nat.reduceAdd, Nat.reduceSub, Nat.reduceBEq, List.replicate_succ, List.replicate_zero]
  refine boxK_of ?_
  intro w1 hw1
  have d1 : cellsAt w1 ⟨w.heap.size, 0, none⟩ 0 2 = some [.slice a1 c.sets.length c1, .slice a2 c.ins.length c2] := hw1.blk.cellsAt
  simp -dsimp only [push_cast, Nat.reduceAdd, Nat.reduceLeDiff, Nat.reduceBEq, decide_true, d1]
  refine callK_of (Right_c c hl hi hs X _ w1 (hv.below hw1.below)) ?_
  rintro _ w2 ⟨rfl, hb2⟩
  have hB2 : Below w.heap.size w w2 := hw1.below.trans (hb2.mono (by have := hw1.size; omega))
  have hsz1 := hw1.size
  cases hR : codeRight c with
  | false =>
    simp -dsimp only [push_cast, Nat.reduceAdd, Nat.reduceLeDiff, Nat.reduceBEq, decide_true]
    refine ⟨?_, hB2⟩
    unfold MatchV; rw [hR]; rfl
  | true =>
    have hc := CR.of hR
    have hn1 := hc.one
    have hn2 := hc.many
    have hbox : Blk w2 w.heap.size 25 [.slice a1 c.sets.length c1, .slice a2 c.ins.length c2] := hw1.blk.below hb2 hw1.blk.lt
    have e1 : w2.cell? ⟨w.heap.size, 1, none⟩ = some (.slice a2 c.ins.length c2) := hbox.cell rfl
    simp -dsimp only [push_cast, Nat.reduceAdd, Nat.reduceLeDiff, Nat.reduceBEq, decide_true, e1]
    have hseen : List.replicate c.ins.length (Value.bool false) = seenV c.ins.length [] := by
      unfold seenV
      apply List.ext_getElem?
      intro j
      simp only [List.getElem?_map, List.getElem?_replicate]
      by_cases hj : j < c.ins.length
      · simp [hj]
      · simp [hj]
    refine wpL_cut [8, 9, 22, 23, 24, 25, 26, 27, 28, 29] (fun z wx => ∃ pA pB : Nat, z 8 = .pointer (some ⟨pA, 0, none⟩) ∧ z 9 = .pointer (some ⟨pB, 0, none⟩) ∧ Two (fun j => w2.heap.size ≤ j) wx pA pB c.ins.length [] [] ∧ Kept (fun j => w2.heap.size ≤ j) w2 wx) ?_ ?_
    · refine wpL_tree (.one 0 (.one 4 (.two 1 (.one 2 (.two 3 (.one 5 (.one 6 (.one 7 (.one 8 (.one 9 .done))))) 5 (.one 6 (.two 3 (.one 7 (.one 8 (.one 9 .done))) 7 (.one 3 (.one 8 (.one 9 .done))))))) 5 (.one 6 (.two 1 (.one 2 (.two 3 (.one 7 (.one 8 (.one 9 .done))) 7 (.one 3 (.one 8 (.one 9 .done))))) 7 (.one 1 (.one 2 (.one 3 (.one 8 (.one 9 .done)))))))))) (fun _ => True) mixed (by kernel_rfl) trivial ?_
      simp -dsimp only [push_cast, Nat.reduceAdd, Nat.reduceLeDiff, Nat.reduceBEq, decide_true]
      constructor
      · refine makeK (z := .bool false) elI_81 (by kernel_rfl) rfl (by omega) (by omega) ?_
        intro y1 n1
        refine ⟨trivial, ?_⟩
        simp -dsimp only [push_cast, Nat.reduceAdd, Nat.reduceLeDiff, Nat.reduceBEq, decide_true]
        constructor
        · refine boxK_of ?_
          intro y2 n2
          refine ⟨trivial, ?_⟩
          simp -dsimp only [push_cast, Nat.reduceAdd, Nat.reduceLeDiff, Nat.reduceBEq, decide_true]
          refine makeK (z := .bool false) elI_81 (by kernel_rfl) rfl (by omega) (by omega) ?_
          intro y3 n3
          refine ⟨trivial, ?_⟩
          simp -dsimp only [push_cast, Nat.reduceAdd, Nat.reduceLeDiff, Nat.reduceBEq, decide_true]
          refine boxK_of ?_
          intro y4 n4
          refine ⟨trivial, ?_⟩
          simp -dsimp only [push_cast, Nat.reduceAdd, Nat.reduceLeDiff, Nat.reduceBEq, decide_true]
          have s1 := n1.size
          have s2 := n2.size
          have s3 := n3.size
          have s4 := n4.size
          have s0 : w2.drew.heap.size = w2.heap.size := rfl
          have b3 : Below y3.heap.size y3 y4 := n4.below
          have b2 : Below y2.heap.size y2 y4 := n3.below.trans (b3.mono (by omega))
          have b1 : Below y1.heap.size y1 y4 := n2.below.trans (b2.mono (by omega))
          have b4 : Below y4.heap.size y4 y4 := Below.refl _ _
          refine ⟨y1.heap.size, y3.heap.size, rfl, rfl, ⟨fun j => j = w2.drew.heap.size ∨ j = y1.heap.size, fun j => j = y2.heap.size ∨ j = y3.heap.size, ⟨.slice none 0 0, w2.drew.heap.size, (n2.blk.below b2 n2.blk.lt), Own.nil (enc := encN) _ _ (fun _ => rfl) _, by rw [← hseen]; exact (n1.blk.below b1 n1.blk.lt), by omega, fun g h => by simp [Value.ownBlock] at h, .inr rfl, .inl rfl, Places.nil _⟩, ⟨.slice none 0 0, y2.heap.size, (n4.blk.below b4 n4.blk.lt), Own.nil (enc := encN) _ _ (fun _ => rfl) _, by rw [← hseen]; exact (n3.blk.below b3 n3.blk.lt), by omega, fun g h => by simp [Value.ownBlock] at h, .inr rfl, .inl rfl, Places.nil _⟩, fun j h1 h2 => by omega, fun j h => by omega, fun j h => by omega⟩, Kept.of_below ((Below.refl w2.heap.size w2).drew.trans (n1.below.trans (b1.mono (by omega)))) (fun i h _ => h)⟩
        · refine makeK (z := .bool false) elI_81 (by kernel_rfl) rfl (by omega) (by omega) ?_
          intro y2 n2
          refine ⟨trivial, ?_⟩
          simp -dsimp only [push_cast, Nat.reduceAdd, Nat.reduceLeDiff, Nat.reduceBEq, decide_true]
          constructor
          · refine boxK_of ?_
            intro y3 n3
            refine ⟨trivial, ?_⟩
            simp -dsimp only [push_cast, Nat.reduceAdd, Nat.reduceLeDiff, Nat.reduceBEq, decide_true]
            refine boxK_of ?_
            intro y4 n4
            refine ⟨trivial, ?_⟩
            simp -dsimp only [push_cast, Nat.reduceAdd, Nat.reduceLeDiff, Nat.reduceBEq, decide_true]
            have s1 := n1.size
            have s2 := n2.size
            have s3 := n3.size
            have s4 := n4.size
            have s0 : w2.drew.heap.size = w2.heap.size := rfl
            have b3 : Below y3.heap.size y3 y4 := n4.below
            have b2 : Below y2.heap.size y2 y4 := n3.below.trans (b3.mono (by omega))
            have b1 : Below y1.heap.size y1 y4 := n2.below.trans (b2.mono (by omega))
            have b4 : Below y4.heap.size y4 y4 := Below.refl _ _
            refine ⟨y2.heap.size, y3.heap.size, rfl, rfl, ⟨fun j => j = w2.drew.heap.size ∨ j = y2.heap.size, fun j => j = y1.heap.size ∨ j = y3.heap.size, ⟨.slice none 0 0, w2.drew.heap.size, (n3.blk.below b3 n3.blk.lt), Own.nil (enc := encN) _ _ (fun _ => rfl) _, by rw [← hseen]; exact (n1.blk.below b1 n1.blk.lt), by omega, fun g h => by simp [Value.ownBlock] at h, .inr rfl, .inl rfl, Places.nil _⟩, ⟨.slice none 0 0, y1.heap.size, (n4.blk.below b4 n4.blk.lt), Own.nil (enc := encN) _ _ (fun _ => rfl) _, by rw [← hseen]; exact (n2.blk.below b2 n2.blk.lt), by omega, fun g h => by simp [Value.ownBlock] at h, .inr rfl, .inl rfl, Places.nil _⟩, fun j h1 h2 => by omega, fun j h => by omega, fun j h => by omega⟩, Kept.of_below ((Below.refl w2.heap.size w2).drew.trans (n1.below.trans (b1.mono (by omega)))) (fun i h _ => h)⟩
          · refine boxK_of ?_
            intro y3 n3
            refine ⟨trivial, ?_⟩
            simp -dsimp only [push_cast, Nat.reduceAdd, Nat.reduceLeDiff, Nat.reduceBEq, decide_true]
            refine boxK_of ?_
            intro y4 n4
            refine ⟨trivial, ?_⟩
            simp -dsimp only [push_cast, Nat.reduceAdd, Nat.reduceLeDiff, Nat.reduceBEq, decide_true]
            have s1 := n1.size
            have s2 := n2.size
            have s3 := n3.size
            have s4 := n4.size
            have s0 : w2.drew.heap.size = w2.heap.size := rfl
            have b3 : Below y3.heap.size y3 y4 := n4.below
            have b2 : Below y2.heap.size y2 y4 := n3.below.trans (b3.mono (by omega))
            have b1 : Below y1.heap.size y1 y4 := n2.below.trans (b2.mono (by omega))
            have b4 : Below y4.heap.size y4 y4 := Below.refl _ _
            refine ⟨y3.heap.size, y2.heap.size, rfl, rfl, ⟨fun j => j = w2.drew.heap.size ∨ j = y3.heap.size, fun j => j = y1.heap.size ∨ j = y2.heap.size, ⟨.slice none 0 0, w2.drew.heap.size, (n4.blk.below b4 n4.blk.lt), Own.nil (enc := encN) _ _ (fun _ => rfl) _, by rw [← hseen]; exact (n1.blk.below b1 n1.blk.lt), by omega, fun g h => by simp [Value.ownBlock] at h, .inr rfl, .inl rfl, Places.nil _⟩, ⟨.slice none 0 0, y1.heap.size, (n3.blk.below b3 n3.blk.lt), Own.nil (enc := encN) _ _ (fun _ => rfl) _, by rw [← hseen]; exact (n2.blk.below b2 n2.blk.lt), by omega, fun g h => by simp [Value.ownBlock] at h, .inr rfl, .inl rfl, Places.nil _⟩, fun j h1 h2 => by omega, fun j h => by omega, fun j h => by omega⟩, Kept.of_below ((Below.refl w2.heap.size w2).drew.trans (n1.below.trans (b1.mono (by omega)))) (fun i h _ => h)⟩
      · refine makeK (z := .bool false) elI_81 (by kernel_rfl) rfl (by omega) (by omega) ?_
        intro y1 n1
        refine ⟨trivial, ?_⟩
        simp -dsimp only [push_cast, Nat.reduceAdd, Nat.reduceLeDiff, Nat.reduceBEq, decide_true]
        constructor
        · refine makeK (z := .bool false) elI_81 (by kernel_rfl) rfl (by omega) (by omega) ?_
          intro y2 n2
          refine ⟨trivial, ?_⟩
          simp -dsimp only [push_cast, Nat.reduceAdd, Nat.reduceLeDiff, Nat.reduceBEq, decide_true]
          constructor
          · refine boxK_of ?_
            intro y3 n3
            refine ⟨trivial, ?_⟩
            simp -dsimp only [push_cast, Nat.reduceAdd, Nat.reduceLeDiff, Nat.reduceBEq, decide_true]
            refine boxK_of ?_
            intro y4 n4
            refine ⟨trivial, ?_⟩
            simp -dsimp only [push_cast, Nat.reduceAdd, Nat.reduceLeDiff, Nat.reduceBEq, decide_true]
            have s1 := n1.size
            have s2 := n2.size
            have s3 := n3.size
            have s4 := n4.size
            have s0 : w2.drew.heap.size = w2.heap.size := rfl
            have b3 : Below y3.heap.size y3 y4 := n4.below
            have b2 : Below y2.heap.size y2 y4 := n3.below.trans (b3.mono (by omega))
            have b1 : Below y1.heap.size y1 y4 := n2.below.trans (b2.mono (by omega))
            have b4 : Below y4.heap.size y4 y4 := Below.refl _ _
            refine ⟨y2.heap.size, y3.heap.size, rfl, rfl, ⟨fun j => j = y1.heap.size ∨ j = y2.heap.size, fun j => j = w2.drew.heap.size ∨ j = y3.heap.size, ⟨.slice none 0 0, y1.heap.size, (n3.blk.below b3 n3.blk.lt), Own.nil (enc := encN) _ _ (fun _ => rfl) _, by rw [← hseen]; exact (n2.blk.below b2 n2.blk.lt), by omega, fun g h => by simp [Value.ownBlock] at h, .inr rfl, .inl rfl, Places.nil _⟩, ⟨.slice none 0 0, w2.drew.heap.size, (n4.blk.below b4 n4.blk.lt), Own.nil (enc := encN) _ _ (fun _ => rfl) _, by rw [← hseen]; exact (n1.blk.below b1 n1.blk.lt), by omega, fun g h => by simp [Value.ownBlock] at h, .inr rfl, .inl rfl, Places.nil _⟩, fun j h1 h2 => by omega, fun j h => by omega, fun j h => by omega⟩, Kept.of_below ((Below.refl w2.heap.size w2).drew.trans (n1.below.trans (b1.mono (by omega)))) (fun i h _ => h)⟩
          · refine boxK_of ?_
            intro y3 n3
            refine ⟨trivial, ?_⟩
            simp -dsimp only [push_cast, Nat.reduceAdd, Nat.reduceLeDiff, Nat.reduceBEq, decide_true]
            refine boxK_of ?_
            intro y4 n4
            refine ⟨trivial, ?_⟩
            simp -dsimp only [push_cast, Nat.reduceAdd, Nat.reduceLeDiff, Nat.reduceBEq, decide_true]
            have s1 := n1.size
            have s2 := n2.size
            have s3 := n3.size
            have s4 := n4.size
            have s0 : w2.drew.heap.size = w2.heap.size := rfl
            have b3 : Below y3.heap.size y3 y4 := n4.below
            have b2 : Below y2.heap.size y2 y4 := n3.below.trans (b3.mono (by omega))
            have b1 : Below y1.heap.size y1 y4 := n2.below.trans (b2.mono (by omega))
            have b4 : Below y4.heap.size y4 y4 := Below.refl _ _
            refine ⟨y3.heap.size, y2.heap.size, rfl, rfl, ⟨fun j => j = y1.heap.size ∨ j = y3.heap.size, fun j => j = w2.drew.heap.size ∨ j = y2.heap.size, ⟨.slice none 0 0, y1.heap.size, (n4.blk.below b4 n4.blk.lt), Own.nil (enc := encN) _ _ (fun _ => rfl) _, by rw [← hseen]; exact (n2.blk.below b2 n2.blk.lt), by omega, fun g h => by simp [Value.ownBlock] at h, .inr rfl, .inl rfl, Places.nil _⟩, ⟨.slice none 0 0, w2.drew.heap.size, (n3.blk.below b3 n3.blk.lt), Own.nil (enc := encN) _ _ (fun _ => rfl) _, by rw [← hseen]; exact (n1.blk.below b1 n1.blk.lt), by omega, fun g h => by simp [Value.ownBlock] at h, .inr rfl, .inl rfl, Places.nil _⟩, fun j h1 h2 => by omega, fun j h => by omega, fun j h => by omega⟩, Kept.of_below ((Below.refl w2.heap.size w2).drew.trans (n1.below.trans (b1.mono (by omega)))) (fun i h _ => h)⟩
        · refine boxK_of ?_
          intro y2 n2
          refine ⟨trivial, ?_⟩
          simp -dsimp only [push_cast, Nat.reduceAdd, Nat.reduceLeDiff, Nat.reduceBEq, decide_true]
          refine makeK (z := .bool false) elI_81 (by kernel_rfl) rfl (by omega) (by omega) ?_
          intro y3 n3
          refine ⟨trivial, ?_⟩
          simp -dsimp only [push_cast, Nat.reduceAdd, Nat.reduceLeDiff, Nat.reduceBEq, decide_true]
          refine boxK_of ?_
          intro y4 n4
          refine ⟨trivial, ?_⟩
          simp -dsimp only [push_cast, Nat.reduceAdd, Nat.reduceLeDiff, Nat.reduceBEq, decide_true]
          have s1 := n1.size
          have s2 := n2.size
          have s3 := n3.size
          have s4 := n4.size
          have s0 : w2.drew.heap.size = w2.heap.size := rfl
          have b3 : Below y3.heap.size y3 y4 := n4.below
          have b2 : Below y2.heap.size y2 y4 := n3.below.trans (b3.mono (by omega))
          have b1 : Below y1.heap.size y1 y4 := n2.below.trans (b2.mono (by omega))
          have b4 : Below y4.heap.size y4 y4 := Below.refl _ _
          refine ⟨y3.heap.size, y1.heap.size, rfl, rfl, ⟨fun j => j = y2.heap.size ∨ j = y3.heap.size, fun j => j = w2.drew.heap.size ∨ j = y1.heap.size, ⟨.slice none 0 0, y2.heap.size, (n4.blk.below b4 n4.blk.lt), Own.nil (enc := encN) _ _ (fun _ => rfl) _, by rw [← hseen]; exact (n3.blk.below b3 n3.blk.lt), by omega, fun g h => by simp [Value.ownBlock] at h, .inr rfl, .inl rfl, Places.nil _⟩, ⟨.slice none 0 0, w2.drew.heap.size, (n2.blk.below b2 n2.blk.lt), Own.nil (enc := encN) _ _ (fun _ => rfl) _, by rw [← hseen]; exact (n1.blk.below b1 n1.blk.lt), by omega, fun g h => by simp [Value.ownBlock] at h, .inr rfl, .inl rfl, Places.nil _⟩, fun j h1 h2 => by omega, fun j h => by omega, fun j h => by omega⟩, Kept.of_below ((Below.refl w2.heap.size w2).drew.trans (n1.below.trans (b1.mono (by omega)))) (fun i h _ => h)⟩
    intro z w6 hJ
    obtain ⟨pA0, pB0, h8, h9, hT, k26⟩ := hJ
    simp -dsimp only [push_cast, Nat.reduceAdd, Nat.reduceLeDiff, Nat.reduceBEq, decide_true, h8, h9]
    refine callK_of (twoAdd_c hT (k := 0) (by omega) (by omega)) ?_
    rintro _ w7 ⟨hT7, k67⟩
    have k27 : Kept (fun j => w2.heap.size ≤ j) w2 w7 := k26.trans k67 (fun _ _ h => h)
    have s26 := k26.size
    have hT7 : Two (fun j => w2.heap.size ≤ j) w7 pA0 pB0 c.ins.length [0] [] := hT7.narrow (fun j h _ => by omega)
    clear hT k26 k67 d1 hseen
    simp -dsimp only [push_cast, Nat.reduceAdd, Nat.reduceLeDiff, Nat.reduceBEq, decide_true]
    refine wpL_loop [4, 5, 6, 8, 9, 10, 11, 12, 13, 14, 32, 33, 34, 35, 36, 37, 38, 39, 40, 41, 42, 43, 44, 45, 46, 47, 48, 49, 50, 51, 52, 53, 54, 55, 56, 57, 58, 59, 60, 61, 62, 63, 64, 65, 66, 67, 68, 69, 70, 71, 72, 73, 74, 75, 76, 77, 78, 79, 80, 81, 82, 83, 84, 85, 86, 87, 88, 89, 90, 91, 92, 93, 94, 95, 96, 97, 98, 99, 100, 101, 102, 103, 104, 105, 106, 107, 108, 109, 110, 111, 112, 113, 114, 115, 116, 117, 118, 119, 120, 121, 122, 123, 124, 125] (fun z wx => ∃ (i st pA pB : Nat) (q : List Nat), z 11 = .int .i64 i ∧ z 10 = .int .i64 st ∧ z 8 = .pointer (some ⟨pA, 0, none⟩) ∧ z 9 = .pointer (some ⟨pB, 0, none⟩) ∧ i ≤ ps.length ∧ st ≤ i * 2001 ∧
      outer c (ps.drop i) q st = vmatch c ps ∧ Two (fun j => w2.heap.size ≤ j) wx pA pB c.ins.length q [] ∧ Kept (fun j => w2.heap.size ≤ j) w2 wx) (fun z _ => ps.length - (intOf (z 11)).toNat) ?_ ?_
    · exact ⟨0, 0, pA0, pB0, [0], rfl, rfl, rfl, rfl, Nat.zero_le _, Nat.le_refl _, rfl, hT7, k27⟩
    · intro z wx hI
      obtain ⟨i, st0, pA, pB, q, h11, h10, h8, h9, hip, hst, hout, hT, hk⟩ := hI
      simp -dsimp only [push_cast, Nat.reduceAdd, Nat.reduceLeDiff, Nat.reduceBEq, decide_true, h11, h10, h8, h9]
      rw [outer_eq c ps i q st0 hip] at hout
      generalize hR0 : inner c ps[i]? (c.ins.length + 1) q 0 [] st0 = R0 at hout
      refine wpL_loop [4, 5, 6, 10, 12, 13, 14, 34, 35, 36, 37, 38, 39, 40, 41, 42, 43, 44, 45, 46, 47, 48, 49, 50, 51, 52, 53, 54, 55, 56, 57, 58, 59, 60, 61, 62, 63, 64, 65, 66, 67, 68, 69, 70, 71, 72, 73, 74, 75, 76, 77, 78, 79, 80, 81, 82, 83, 84, 85, 86, 87, 88, 89, 90, 91, 92, 93, 94, 95, 96, 97, 98, 99, 100, 101, 102, 103, 104, 105, 106, 107, 108] (fun z' wy => ∃ (k st : Nat) (q' nx : List Nat), z' 12 = .int .i64 k ∧ z' 10 = .int .i64 st ∧ k ≤ q'.length ∧ st ≤ st0 + k ∧ inner c ps[i]? (c.ins.length + 1 - k) q' k nx st = R0 ∧
        Two (fun j => w2.heap.size ≤ j) wy pA pB c.ins.length q' nx ∧ Kept (fun j => w2.heap.size ≤ j) w2 wy) (fun z' _ => c.ins.length + 1 - (intOf (z' 12)).toNat) ?_ ?_
      · exact ⟨0, st0, q, [], rfl, rfl, Nat.zero_le _, Nat.le_refl _, hR0, hT, hk⟩
      · intro z' wy hI
        obtain ⟨k, st, q', nx, h12, h10, hkq, hstk, hin, hT, hk⟩ := hI
        obtain ⟨al, cl, cA, hqs⟩ := hT.read
        have hP := hT.places
        have hql := hP.1.len
        have hboxy := hbox.kept hk (by have := hbox.lt; show ¬ w2.heap.size ≤ w.heap.size; omega)
        have b0 : wy.cell? ⟨w.heap.size, 0, none⟩ = some (.slice a1 c.sets.length c1) := hboxy.cell rfl
        have b1 : wy.cell? ⟨w.heap.size, 1, none⟩ = some (.slice a2 c.ins.length c2) := hboxy.cell rfl
        simp -dsimp only [push_cast, Nat.reduceAdd, Nat.reduceLeDiff, Nat.reduceBEq, decide_true, h12, h10, cA, h8, h9]
        refine ⟨fun hlt => ?_, fun hge => ?_⟩
        · have hBy : Below w.heap.size w wy := hB2.trans (hk.below hB2.size (fun _ h => by have := hB2.size; omega))
          have hex : ∃ (at_ : Nat) (x : I3) (bq oq bi oi : Nat), q'[k]? = some at_ ∧ at_ < c.ins.length ∧ c.ins[at_]? = some x ∧ al = some ⟨bq, oq, none⟩ ∧ a2 = some ⟨bi, oi, none⟩ ∧ wy.cell? ⟨bq, oq + k, none⟩ = some (.int .i64 at_) ∧
              cellsAt wy ⟨bi, oi + at_ * 3, none⟩ 0 3 = some [.int .i64 x.op, .int .i64 x.a, .int .i64 x.b] := by
            obtain ⟨at_, hat, hatm, _, _⟩ := lt_get (l := q') (i := k) (by omega)
            have hatn := hP.1.2 at_ hatm
            obtain ⟨bq, oq, hal, _, hcellq⟩ := hqs.get hat
            obtain ⟨x, hx, hxm, _, _⟩ := lt_get (l := c.ins) (i := at_) hatn
            obtain ⟨bi, oi, hai, _, hcelli⟩ := (hiv.below hBy).get hx
            exact ⟨at_, x, bq, oq, bi, oi, hat, hatn, hx, hal, hai, by simpa using hcellq 0 _ rfl, cellsAt_of (encIn x) 0 (fun j u hu => by simpa using hcelli j u hu)⟩
          refine Exists.elim hex fun at_ hex => Exists.elim hex fun x hex => Exists.elim hex fun bq hex => Exists.elim hex fun oq hex => Exists.elim hex fun bi hex => Exists.elim hex fun oi hex => ?_
          have hat := hex.1
          have hatn := hex.2.1
          have hx := hex.2.2.1
          have hal := hex.2.2.2.1
          have hai := hex.2.2.2.2.1
          have cq := hex.2.2.2.2.2.1
          have ci := hex.2.2.2.2.2.2
          clear hex
          simp -dsimp only [push_cast, Nat.reduceAdd, Nat.reduceLeDiff, Nat.reduceBEq, decide_true, hal, cq, b1, indexAddrK_at hai, ci]
          obtain ⟨f, hf⟩ : ∃ f, c.ins.length + 1 - k = f + 1 := ⟨c.ins.length - k, by omega⟩
          have hf' : c.ins.length + 1 - (k + 1) = f := by omega
          rw [hf] at hin
          have hcase := insRight_cases (hc.ins at_ x hx)
          have hnext := hc.next at_ x hx
          refine ⟨⟨by omega, by omega⟩, ⟨by omega, by omega⟩, ⟨by omega, by omega⟩, ?_⟩
          refine allocK (z := [.int .i64 0, .int .i64 0, .int .i64 0]) (by kernel_rfl) ?_
          intro wz0 hwz0
          simp -dsimp only [push_cast, Nat.reduceAdd, Nat.reduceLeDiff, Nat.reduceBEq, decide_true]
          refine storeAgg (n := 3) (by kernel_rfl) hwz0.blk rfl (by simp) (by simp [Value.oneCell']) ?_
          intro wz hwz
          have hszz : wz.heap.size = wy.heap.size + 1 := by rw [hwz.size, hwz0.size]
          have kz : Kept (fun j => j = wy.heap.size) wy wz := (Kept.new hwz0).trans hwz.kept (fun _ _ h => h)
          have o0 : wz.cell? ⟨wy.heap.size, 0, none⟩ = some (.int .i64 x.op) := hwz.blk.cell rfl
          have hBx : Blk wz wy.heap.size 37 [.int .i64 x.op, .int .i64 x.a, .int .i64 x.b] := hwz.blk
          have hTz : Two (fun j => w2.heap.size ≤ j ∧ j < wy.heap.size) wz pA pB c.ins.length q' nx := (hT.narrow (fun j h hl => ⟨h, hl⟩)).kept kz (fun j h _ hh => by omega)
          have hkz : Kept (fun j => w2.heap.size ≤ j) w2 wz := hk.trans kz (fun i hi h => by subst h; exact hk.size)
          have sy := hk.size
          clear hwz hwz0 hT kz
          simp -dsimp only [push_cast, Nat.reduceAdd, Nat.reduceLeDiff, Nat.reduceBEq, decide_true, o0]
          refine ⟨fun h5 => ?_, fun h5 => ⟨fun h2 => ?_, fun h2 => ⟨fun h3 => ?_, fun h3 => ⟨fun h4 => ?_, fun h4 => ?_⟩⟩⟩⟩
          · rw [inner_yes hat hx h5] at hin
            subst hin
            dsimp only at hout
            unfold MatchV
            rw [hR, ← hout]
            exact ⟨rfl, hB2.trans (hkz.below hB2.size (fun _ h => by have := hB2.size; omega))⟩
          · rw [inner_step hat hx h5] at hin
            have hr : 0 ≤ x.a ∧ x.a < c.ins.length ∧ 0 ≤ x.b ∧ x.b < c.ins.length := by omega
            have ea : x.a = (x.a.toNat : Int) := by omega
            have eb : x.b = (x.b.toNat : Int) := by omega
            have o1 : wz.cell? ⟨wy.heap.size, 1, none⟩ = some (.int .i64 (x.a.toNat : Int)) := by rw [← ea]; exact hBx.cell rfl
            simp -dsimp only [push_cast, Nat.reduceAdd, Nat.reduceLeDiff, Nat.reduceBEq, decide_true, o1]
            refine callK_of (twoAdd_c hTz (k := x.a.toNat) (by omega) (by omega)) ?_
            rintro _ w5 ⟨hT5, hk5⟩
            have hBx5 := hBx.kept hk5 (by omega)
            have o2 : w5.cell? ⟨wy.heap.size, 2, none⟩ = some (.int .i64 (x.b.toNat : Int)) := by rw [← eb]; exact hBx5.cell rfl
            simp -dsimp only [push_cast, Nat.reduceAdd, Nat.reduceLeDiff, Nat.reduceBEq, decide_true, o2]
            refine callK_of (twoAdd_c hT5 (k := x.b.toNat) (by omega) (by omega)) ?_
            rintro _ w6 ⟨hT6, hk6⟩
            have e1x : (exec1 c ps[i]? x at_ q' nx) = (addQ (addQ q' x.a.toNat) x.b.toNat, nx) := by unfold exec1; rw [if_pos h2]
            rw [e1x] at hin
            have sz5 := hk5.size
            have hTf := hT6.narrow (D' := fun j => w2.heap.size ≤ j) (fun j h _ => by omega)
            have hkf : Kept (fun j => w2.heap.size ≤ j) w2 w6 := (hkz.trans hk5 (fun _ _ h => h.1)).trans hk6 (fun i hi h => by omega)
            have hlen : q'.length ≤ (addQ (addQ q' x.a.toNat) x.b.toNat).length := Nat.le_trans (addQ_len _ _) (addQ_len _ _)
            simp -dsimp only [push_cast, Nat.reduceAdd, Nat.reduceLeDiff, Nat.reduceBEq, decide_true]
            refine ⟨⟨by omega, by omega⟩, ⟨k + 1, st + 1, _, _, by simp, by simp, by omega, by omega, ?_, hTf, hkf⟩, by rw [h12]; simp only [intOf]; omega⟩
            rw [hf']; exact hin
          · rw [inner_step hat hx h5] at hin
            have hr : 0 ≤ x.a ∧ x.a < c.ins.length := by omega
            have ea : x.a = (x.a.toNat : Int) := by omega
            have o1 : wz.cell? ⟨wy.heap.size, 1, none⟩ = some (.int .i64 (x.a.toNat : Int)) := by rw [← ea]; exact hBx.cell rfl
            simp -dsimp only [push_cast, Nat.reduceAdd, Nat.reduceLeDiff, Nat.reduceBEq, decide_true, o1]
            refine callK_of (twoAdd_c hTz (k := x.a.toNat) (by omega) (by omega)) ?_
            rintro _ w6 ⟨hT5, hk5⟩
            have e1x : (exec1 c ps[i]? x at_ q' nx) = (addQ q' x.a.toNat, nx) := by unfold exec1; rw [if_neg h2, if_pos h3]
            rw [e1x] at hin
            have hTf := hT5.narrow (D' := fun j => w2.heap.size ≤ j) (fun j h _ => by omega)
            have hkf : Kept (fun j => w2.heap.size ≤ j) w2 w6 := (hkz.trans hk5 (fun _ _ h => h.1))
            have hlen : q'.length ≤ (addQ q' x.a.toNat).length := addQ_len _ _
            simp -dsimp only [push_cast, Nat.reduceAdd, Nat.reduceLeDiff, Nat.reduceBEq, decide_true]
            refine ⟨⟨by omega, by omega⟩, ⟨k + 1, st + 1, _, _, by simp, by simp, by omega, by omega, ?_, hTf, hkf⟩, by rw [h12]; simp only [intOf]; omega⟩
            rw [hf']; exact hin
          · rw [inner_step hat hx h5] at hin
            have hnx := hnext (.inr h4)
            refine ⟨fun hend => ⟨⟨by omega, by omega⟩, ?_⟩, fun hend => ?_⟩
            · refine callK_of (twoAdd_c hTz (k := at_ + 1) (by omega) (by omega)) ?_
              rintro _ w6 ⟨hT5, hk5⟩
              have e1x : (exec1 c ps[i]? x at_ q' nx) = (addQ q' (at_ + 1), nx) := by unfold exec1; rw [if_neg h2, if_neg h3, if_pos h4, List.getElem?_eq_none (by omega)]; rfl
              rw [e1x] at hin
              have hTf := hT5.narrow (D' := fun j => w2.heap.size ≤ j) (fun j h _ => by omega)
              have hkf : Kept (fun j => w2.heap.size ≤ j) w2 w6 := (hkz.trans hk5 (fun _ _ h => h.1))
              have hlen : q'.length ≤ (addQ q' (at_ + 1)).length := addQ_len _ _
              simp -dsimp only [push_cast, Nat.reduceAdd, Nat.reduceLeDiff, Nat.reduceBEq, decide_true]
              refine ⟨⟨by omega, by omega⟩, ⟨k + 1, st + 1, _, _, by simp, by simp, by omega, by omega, ?_, hTf, hkf⟩, by rw [h12]; simp only [intOf]; omega⟩
              rw [hf']; exact hin
            · have e1x : (exec1 c ps[i]? x at_ q' nx) = (q', nx) := by unfold exec1; rw [if_neg h2, if_neg h3, if_pos h4, List.getElem?_eq_getElem (show i < ps.length by omega)]; rfl
              rw [e1x] at hin
              have hTf := hTz.narrow (D' := fun j => w2.heap.size ≤ j) (fun j h _ => h.1)
              have hkf := hkz
              have hlen : q'.length ≤ q'.length := Nat.le_refl _
              refine ⟨⟨by omega, by omega⟩, ⟨k + 1, st + 1, _, _, by simp, by simp, by omega, by omega, ?_, hTf, hkf⟩, by rw [h12]; simp only [intOf]; omega⟩
              rw [hf']; exact hin
          · rw [inner_step hat hx h5] at hin
            have hop : x.op = 1 ∧ 0 ≤ x.a ∧ x.a < c.sets.length := by omega
            refine wpL_draw (fun w' => Kept (fun _ => False) wz w') mixed (by kernel_rfl) (Kept.refl _ _).drew ?_
            have sxn := hnext (.inl hop.1)
            have ea : x.a = (x.a.toNat : Int) := by omega
            have lB : ∀ w', Kept (fun _ => False) wz w' → w'.cell? ⟨w.heap.size, 0, none⟩ = some (.slice a1 c.sets.length c1) := fun w' hk' => hk'.cell ((hbox.kept hkz (by have := hbox.lt; show ¬ w2.heap.size ≤ w.heap.size; omega)).cell rfl) id
            have lX : ∀ w', Kept (fun _ => False) wz w' → w'.cell? ⟨wy.heap.size, 1, none⟩ = some (.int .i64 (x.a.toNat : Int)) := fun w' hk' => hk'.cell (by rw [← ea]; exact hBx.cell rfl) id
            have kd : Kept (fun _ => False) wz wz.drew := (Kept.refl _ _).drew
            have d1 := lB _ kd
            have d2 := lX _ kd
            simp -dsimp only [push_cast, Nat.reduceAdd, Nat.reduceLeDiff, Nat.reduceBEq, decide_true, d1, d2]
            refine ⟨fun hin_i => ⟨fun w'' hC => by rw [lB w'' hC]; exact rfl, fun w'' hC => by rw [lX w'' hC]; exact rfl, ?_⟩, fun hout_i => ?_⟩
            · have hBz : Below w.heap.size w wz := hB2.trans (hkz.below hB2.size (fun _ h => by have := hB2.size; omega))
              have hex : ∃ (s : List Rg) (u : Value) (bs os : Nat) (p : Int) (bp op : Nat), c.sets[x.a.toNat]? = some s ∧ a1 = some ⟨bs, os, none⟩ ∧ wz.drew.cell? ⟨bs, os + x.a.toNat, none⟩ = some u ∧ Sl X 2 (En encR) wz.drew u s ∧ ps[i]? = some p ∧ a3 = some ⟨bp, op, none⟩ ∧ wz.drew.cell? ⟨bp, op + i, none⟩ = some (.int .i64 p) := by
                obtain ⟨s, hs1, _, _, _⟩ := lt_get (l := c.sets) (i := x.a.toNat) (by omega)
                obtain ⟨p, hp1, _, _, _⟩ := lt_get (l := ps) (i := i) (by omega)
                have hsz : Sl X 1 (SetR X wz) wz (.slice a1 c.sets.length c1) c.sets := hsv.below hBz
                obtain ⟨bs, os, cs, ha1, _, _, hcs, u, rfl, hu⟩ := hsz.getR hs1
                obtain ⟨bp, op, ha3, _, hcp⟩ := (hpv.below hBz).get hp1
                exact ⟨s, u, bs, os, p, bp, op, hs1, ha1, by simpa using hcs 0 u rfl, hu.below (Below.refl _ _).drew, hp1, ha3, by simpa using hcp 0 _ rfl⟩
              refine Exists.elim hex fun s hex => Exists.elim hex fun u hex => Exists.elim hex fun bs hex => Exists.elim hex fun os hex => Exists.elim hex fun p hex => Exists.elim hex fun bp hex => Exists.elim hex fun op hex => ?_
              have hs1 := hex.1
              have ha1 := hex.2.1
              have cu := hex.2.2.1
              have hu := hex.2.2.2.1
              have hp1 := hex.2.2.2.2.1
              have ha3 := hex.2.2.2.2.2.1
              have cp := hex.2.2.2.2.2.2
              clear hex
              have hsm := List.mem_of_getElem? hs1
              have lU : ∀ w', Kept (fun _ => False) wz w' → w'.cell? ⟨bs, os + x.a.toNat, none⟩ = some u := fun w' hk' => hk'.cell (show wz.cell? _ = _ from cu) id
              have lP : ∀ w', Kept (fun _ => False) wz w' → w'.cell? ⟨bp, op + i, none⟩ = some (.int .i64 p) := fun w' hk' => hk'.cell (show wz.cell? _ = _ from cp) id
              simp -dsimp only [push_cast, Nat.reduceAdd, Nat.reduceLeDiff, Nat.reduceBEq, decide_true, indexAddrK_at ha1, indexAddrK_at ha3, cu, cp]
              refine ⟨⟨by omega, by omega⟩, fun w'' hC => by rw [lU w'' hC]; exact rfl, ⟨by omega, by omega⟩, fun w'' hC => by rw [lP w'' hC]; exact rfl, ?_⟩
              refine callK_of (has_c s (hl s hsm) (hc.set s hsm) p X u wz.drew hu) ?_
              rintro _ w6 ⟨rfl, hb6⟩
              have k6 : Kept (fun _ => False) wz w6 := kd.trans (Kept.of_below hb6 (X := fun _ => False) (fun j h1 h2 => absurd h2 (by have : wz.drew.heap.size = wz.heap.size := rfl; omega))) (fun _ _ => id)
              have hT6 := hTz.kept k6 (fun _ _ _ => id)
              have hk6 := hkz.trans k6 (fun _ _ h => h.elim)
              have hgs : c.sets.getD x.a.toNat [] = s := by rw [List.getD_eq_getElem?_getD, hs1]; rfl
              refine ⟨k6, ?_⟩
              cases hH : hasP s p with
              | true =>
                simp -dsimp only [push_cast, Nat.reduceAdd, Nat.reduceLeDiff, Nat.reduceBEq, decide_true]
                refine ⟨⟨by omega, by omega⟩, ?_⟩
                refine callK_of (twoAdd_c hT6.swap (k := at_ + 1) (by omega) (by omega)) ?_
                rintro _ w7 ⟨hT7, hk7⟩
                have e1x : (exec1 c ps[i]? x at_ q' nx) = (q', addQ nx (at_ + 1)) := by unfold exec1; rw [if_neg h2, if_neg h3, if_neg h4, hp1]; dsimp only; rw [hgs, hH, if_pos rfl]
                rw [e1x] at hin
                have sz6 := k6.size
                have hTf := hT7.swap.narrow (D' := fun j => w2.heap.size ≤ j) (fun j h _ => by omega)
                have hkf : Kept (fun j => w2.heap.size ≤ j) w2 w7 := hk6.trans hk7 (fun _ _ h => h.1)
                have hlen : q'.length ≤ q'.length := Nat.le_refl _
                simp -dsimp only [push_cast, Nat.reduceAdd, Nat.reduceLeDiff, Nat.reduceBEq, decide_true]
                refine ⟨⟨by omega, by omega⟩, ⟨k + 1, st + 1, _, _, by simp, by simp, by omega, by omega, ?_, hTf, hkf⟩, by rw [h12]; simp only [intOf]; omega⟩
                rw [hf']; exact hin
              | false =>
                simp -dsimp only [push_cast, Nat.reduceAdd, Nat.reduceLeDiff, Nat.reduceBEq, decide_true]
                have e1x : (exec1 c ps[i]? x at_ q' nx) = (q', nx) := by unfold exec1; rw [if_neg h2, if_neg h3, if_neg h4, hp1]; dsimp only; rw [hgs, hH]; rfl
                rw [e1x] at hin
                have hTf := hT6.narrow (D' := fun j => w2.heap.size ≤ j) (fun j h _ => h.1)
                have hkf := hk6
                have hlen : q'.length ≤ q'.length := Nat.le_refl _
                refine ⟨⟨by omega, by omega⟩, ⟨k + 1, st + 1, _, _, by simp, by simp, by omega, by omega, ?_, hTf, hkf⟩, by rw [h12]; simp only [intOf]; omega⟩
                rw [hf']; exact hin
            · have e1x : (exec1 c ps[i]? x at_ q' nx) = (q', nx) := by unfold exec1; rw [if_neg h2, if_neg h3, if_neg h4, List.getElem?_eq_none (by omega)]
              rw [e1x] at hin
              have hTf := (hTz.kept kd (fun _ _ _ => id)).narrow (D' := fun j => w2.heap.size ≤ j) (fun j h _ => h.1)
              have hkf := hkz.trans kd (fun _ _ h => h.elim)
              have hlen : q'.length ≤ q'.length := Nat.le_refl _
              refine ⟨⟨by omega, by omega⟩, ⟨k + 1, st + 1, _, _, by simp, by simp, by omega, by omega, ?_, hTf, hkf⟩, by rw [h12]; simp only [intOf]; omega⟩
              rw [hf']; exact hin
        · have hn : q'[k]? = none := List.getElem?_eq_none (by omega)
          obtain ⟨f, hf⟩ : ∃ f, c.ins.length + 1 - k = f + 1 := ⟨c.ins.length - k, by omega⟩
          rw [hf, inner_end hn] at hin
          subst hin
          dsimp only at hout
          have hBy : Below w.heap.size w wy := hB2.trans (hk.below hB2.size (fun _ h => by have := hB2.size; omega))
          have hnil : (ps.length ≤ i ∨ nx = []) → Value.tuple #[.bool false, .int .i64 st, .nilIface] = MatchV c ps := fun h => by
            rw [if_pos h] at hout
            unfold MatchV
            rw [hR, ← hout]
            rfl
          refine ⟨fun hlt_i => ?_, fun hge_i => ⟨hnil (.inl (by omega)), hBy⟩⟩
          refine Exists.elim hT.swap.read fun an hrd => Exists.elim hrd fun cn hrd => ?_
          have cB := hrd.1
          clear hrd
          simp -dsimp only [push_cast, Nat.reduceAdd, Nat.reduceLeDiff, Nat.reduceBEq, decide_true, cB]
          refine ⟨fun h0 => ⟨hnil (.inr (List.eq_nil_of_length_eq_zero (by omega))), hBy⟩, fun h0 => ?_⟩
          have hnx : ¬ (ps.length ≤ i ∨ nx = []) := by
            rintro (h | h)
            · omega
            · subst h; exact h0 rfl
          rw [if_neg hnx] at hout
          refine callK_of (twoClear_c hT (by omega)) ?_
          rintro _ w7 ⟨hT7, hk7⟩
          simp -dsimp only [push_cast, Nat.reduceAdd, Nat.reduceLeDiff, Nat.reduceBEq, decide_true]
          exact ⟨⟨by omega, by omega⟩, ⟨i + 1, st, pB, pA, nx, rfl, rfl, rfl, rfl, by omega, by omega, hout, hT7.swap, hk.trans hk7 (fun _ _ h => h)⟩, by rw [h11]; simp only [intOf]; omega⟩
end Go.Proofs.YtimjpijbcnjaaaaDoor
