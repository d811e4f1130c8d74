import Derived.Test.YtonedboaomehaaaDoorRefb
namespace Go.Proofs.YtonedboaomehaaaDoor
open Go.Vc Go.Proofs Go.RowKit Cae
set_option maxRecDepth 100000
set_option linter.unusedSimpArgs false
set_option linter.unusedVariables false
attribute [local irreducible] wpL callK valK unitK runK Fun Sl Own vc vcOps opK pureK
set_option maxHeartbeats 4000000

/-- The unit that the reference has found so far: lengths below n were tried. -/
def found (s : List UInt8) (n : Nat) : Nat × Nat := if (ufirst s).2 ≠ 0 ∧ (ufirst s).2 < n then ufirst s else (65533, 1)

theorem found_step {s : List UInt8} {n : Nat} (h1 : 1 ≤ n) : found s (n + 1) = if (ufirst s).2 = n then ufirst s else found s n := by
  unfold found
  split
  · rename_i h
    split
    · rfl
    · rw [if_pos (by omega)]
  · rename_i h
    split
    · rename_i hh; omega
    · rw [if_neg (by omega)]
theorem found_end {s : List UInt8} {n : Nat} (h : n = 5 ∨ s.length < n) : found s n = ustep s := by
  have := ufirst_le s
  unfold found ustep
  split
  · rw [if_neg (by omega)]
  · rw [if_pos (by omega)]

theorem decodeR_c (s : List UInt8) (hs : s.length < 1000000) (w : World) :
    Fun Tryd.prog 15 [str s] w fun v w' => Own w.heap.size 27 3 encU w' v (udec 0 s) ∧ Below w.heap.size w w' := by
  refine fun_of_vc Tryd.func15 rfl (by kernel_rfl) [2] rfl ?_
  simp -dsimp only [push_cast, fr0, Tryd.ntmps15, List.length_cons, List.length_nil, Nat.reduceAdd, Nat.reduceSub, Nat.reduceBEq, List.replicate_succ, List.replicate_zero]
  refine wpL_loop [3, 4, 5, 6, 7, 8, 9, 10, 11, 12, 13, 14, 15, 16, 17, 18, 19, 20, 21, 22, 23, 24, 25, 26, 27, 28, 29, 30, 31, 32, 33, 34, 35, 36, 37, 38, 39, 40, 41, 42, 43, 44, 45, 46, 47, 48, 49, 50, 51, 52, 53, 54, 55, 56, 57, 58, 59, 60, 61, 62, 63, 64, 65, 66, 67, 68, 69, 70, 71, 72, 73, 74, 75] (fun z wx => ∃ (i : Nat) (acc : List U), z 4 = .int .i64 i ∧ i ≤ s.length ∧ acc.length ≤ i ∧ acc ++ udec i (s.drop i) = udec 0 s ∧
    Own w.heap.size 27 3 encU wx (z 3) acc ∧ Below w.heap.size w wx) (fun z _ => s.length - (intOf (z 4)).toNat) ?_ ?_
  · exact ⟨0, [], rfl, Nat.zero_le _, Nat.le_refl _, rfl, Own.nil (enc := encU) _ _ (fun _ => rfl) _, Below.refl _ _⟩
  · intro z wx hI
    obtain ⟨i, acc, h4, hi, ha, hd, ho, hb⟩ := hI
    simp -dsimp only [push_cast, Nat.reduceAdd, Nat.reduceLeDiff, Nat.reduceBEq, decide_true, h4]
    refine ⟨fun hlt => ?_, fun hge => ?_⟩
    · have hne : s.drop i ≠ [] := by intro h; have := congrArg List.length h; simp only [List.length_drop, List.length_nil] at this; omega
      refine allocK (z := [.int .i64 0, .int .i64 0, .int .i64 0]) (by kernel_rfl) ?_
      intro w1 hw1
      simp -dsimp only [push_cast, Nat.reduceAdd, Nat.reduceLeDiff, Nat.reduceBEq, decide_true]
      refine storeAgg (n := 3) (by kernel_rfl) hw1.blk rfl (by simp) (by simp [Value.oneCell']) ?_
      intro w2 hw2
      have hB2 : Blk w2 wx.heap.size 27 [.int .i64 65533, .int .i64 i, .int .i64 1] := hw2.blk
      have k2 : Kept (fun k => wx.heap.size ≤ k) wx w2 := (Kept.new hw1).trans hw2.kept (fun _ _ h => by omega)
      simp -dsimp only [push_cast, Nat.reduceAdd, Nat.reduceLeDiff, Nat.reduceBEq, decide_true]
      refine wpL_loop [6, 7, 8, 9, 16, 17, 18, 19, 20, 21, 22, 23, 24, 25, 26, 27, 28, 29, 30, 31, 32, 33, 34, 35, 36, 37, 38, 39, 40, 41, 42, 43, 44, 45, 46, 47, 48, 49, 50, 51, 52, 53, 54, 55, 56, 57, 58, 59, 60, 61, 62, 63, 64, 65, 66, 67] (fun z' wy => ∃ (n : Nat), z' 7 = .int .i64 n ∧ 1 ≤ n ∧ n ≤ 5 ∧ n ≤ (s.drop i).length + 1 ∧ z' 6 = .int .i64 (racc (s.drop i) (n - 1)) ∧ Kept (· = wx.heap.size) w2 wy ∧
        Blk wy wx.heap.size 27 [.int .i64 (found (s.drop i) n).1, .int .i64 i, .int .i64 (found (s.drop i) n).2]) (fun z' _ => 5 - (intOf (z' 7)).toNat) ?_ ?_
      · refine ⟨1, rfl, by omega, by omega, by omega, rfl, Kept.refl _ _, ?_⟩
        have : found (s.drop i) 1 = (65533, 1) := by unfold found; rw [if_neg (by omega)]
        rw [this]; exact hB2
      · intro z' wy hI
        obtain ⟨n, h7, hn1, hn5, hnl, h6, hk, hB⟩ := hI
        have hacc := racc_lt (s.drop i) n hn1
        simp -dsimp only [push_cast, Nat.reduceAdd, Nat.reduceLeDiff, Nat.reduceBEq, decide_true, h7, h6]
        have hdl : (s.drop i).length = s.length - i := List.length_drop
        refine ⟨fun hn4 => ⟨⟨by omega, by omega⟩, fun hin => ?_, fun hout => ?_⟩, fun hn4 => ?_⟩
        rotate_left
        ·
          have hf : found (s.drop i) n = ustep (s.drop i) := found_end (by omega)
          rw [hf] at hB
          have c1 : cellsAt wy ⟨wx.heap.size, 0, none⟩ 0 3 = some [.int .i64 (ustep (s.drop i)).1, .int .i64 i, .int .i64 (ustep (s.drop i)).2] := hB.cellsAt
          have hst := ustep_le (s.drop i) hne
          have hsp := ustep_pos (s.drop i)
          have hu := ufirst_le (s.drop i)
          have hcons := udec_cons i (s.drop i) hne
          have kk : Kept (fun k => wx.heap.size ≤ k) wx wy := k2.trans hk (fun _ _ h => by omega)
          have ho2 := ho.keptX kk (fun g hg => by have := ho.block g hg; omega)
          have hbk : Below wx.heap.size wx wy := kk.below (Nat.le_refl _) (fun _ h => h)
          have hby := Below.own hb hbk hb.size
          simp -dsimp only [push_cast, Nat.reduceAdd, Nat.reduceLeDiff, Nat.reduceBEq, decide_true, c1]
          refine rowK elI_24 rfl rfl (by omega) ?_
          intro w3 hw3
          simp -dsimp only [push_cast, Nat.reduceAdd, Nat.reduceLeDiff, Nat.reduceBEq, decide_true]
          refine appendK (ys := [⟨(ustep (s.drop i)).1, i, (ustep (s.drop i)).2⟩]) (enc := encU) elI_24 (ho2.new hw3) (fun j u hu => by simpa using hw3.cell hu) (by simp [encU, Value.oneCell']) (by simp only [List.length_cons, List.length_nil]; omega) (by have := hby.size; have := hw3.size; omega) ?_
          intro v' w4 ho4 hg4 hb4
          have hB4 := (hB.below hw3.below hB.lt).kept (Kept.grown hg4 (X := fun k => k ≠ wx.heap.size) (fun k hk hh => by have := ho2.block k hk; have := (ho.block k hk); omega)) (by simp)
          have c4 : w4.cell? ⟨wx.heap.size, 2, none⟩ = some (.int .i64 (ustep (s.drop i)).2) := hB4.cell (o := 2) rfl
          simp -dsimp only [push_cast, Nat.reduceAdd, Nat.reduceLeDiff, Nat.reduceBEq, decide_true, c4]
          have hlen : (acc ++ ([⟨(ustep (s.drop i)).1, i, (ustep (s.drop i)).2⟩] : List U)).length = acc.length + 1 := by simp only [List.length_append, List.length_cons, List.length_nil]
          refine ⟨⟨by omega, by omega⟩, ⟨i + (ustep (s.drop i)).2, _, rfl, by omega, by omega, ?_, ho4, hby.trans ((hw3.below.mono hby.size).trans hb4)⟩, by rw [h4]; simp only [intOf]; omega⟩
          rw [← hd, hcons, List.drop_drop, List.append_assoc]; rfl
        ·
          have hf : found (s.drop i) n = ustep (s.drop i) := found_end (by omega)
          rw [hf] at hB
          have c1 : cellsAt wy ⟨wx.heap.size, 0, none⟩ 0 3 = some [.int .i64 (ustep (s.drop i)).1, .int .i64 i, .int .i64 (ustep (s.drop i)).2] := hB.cellsAt
          have hst := ustep_le (s.drop i) hne
          have hsp := ustep_pos (s.drop i)
          have hu := ufirst_le (s.drop i)
          have hcons := udec_cons i (s.drop i) hne
          have kk : Kept (fun k => wx.heap.size ≤ k) wx wy := k2.trans hk (fun _ _ h => by omega)
          have ho2 := ho.keptX kk (fun g hg => by have := ho.block g hg; omega)
          have hbk : Below wx.heap.size wx wy := kk.below (Nat.le_refl _) (fun _ h => h)
          have hby := Below.own hb hbk hb.size
          simp -dsimp only [push_cast, Nat.reduceAdd, Nat.reduceLeDiff, Nat.reduceBEq, decide_true, c1]
          refine rowK elI_24 rfl rfl (by omega) ?_
          intro w3 hw3
          simp -dsimp only [push_cast, Nat.reduceAdd, Nat.reduceLeDiff, Nat.reduceBEq, decide_true]
          refine appendK (ys := [⟨(ustep (s.drop i)).1, i, (ustep (s.drop i)).2⟩]) (enc := encU) elI_24 (ho2.new hw3) (fun j u hu => by simpa using hw3.cell hu) (by simp [encU, Value.oneCell']) (by simp only [List.length_cons, List.length_nil]; omega) (by have := hby.size; have := hw3.size; omega) ?_
          intro v' w4 ho4 hg4 hb4
          have hB4 := (hB.below hw3.below hB.lt).kept (Kept.grown hg4 (X := fun k => k ≠ wx.heap.size) (fun k hk hh => by have := ho2.block k hk; have := (ho.block k hk); omega)) (by simp)
          have c4 : w4.cell? ⟨wx.heap.size, 2, none⟩ = some (.int .i64 (ustep (s.drop i)).2) := hB4.cell (o := 2) rfl
          simp -dsimp only [push_cast, Nat.reduceAdd, Nat.reduceLeDiff, Nat.reduceBEq, decide_true, c4]
          have hlen : (acc ++ ([⟨(ustep (s.drop i)).1, i, (ustep (s.drop i)).2⟩] : List U)).length = acc.length + 1 := by simp only [List.length_append, List.length_cons, List.length_nil]
          refine ⟨⟨by omega, by omega⟩, ⟨i + (ustep (s.drop i)).2, _, rfl, by omega, by omega, ?_, ho4, hby.trans ((hw3.below.mono hby.size).trans hb4)⟩, by rw [h4]; simp only [intOf]; omega⟩
          rw [← hd, hcons, List.drop_drop, List.append_assoc]; rfl
        have eI : ((i : Int) + (n : Int) - 1).toNat = i + (n - 1) := by omega
        have eG : s.getD (i + (n - 1)) 0 = (s.drop i).getD (n - 1) 0 := by simp [List.getD_eq_getElem?_getD, List.getElem?_drop]
        have eB : IntKind.i64.wrap ((s.getD ((i : Int) + (n : Int) - 1).toNat 0).toNat : Int) = (((s.drop i).getD (n - 1) 0).toNat : Int) := by
          rw [eI, eG]; exact wrap_i64_nat (by have := ((s.drop i).getD (n - 1) 0).toNat_lt; omega)
        refine ⟨⟨by omega, by omega⟩, ⟨by omega, by omega⟩, ⟨by omega, by omega⟩, fun h1 => ⟨fun h => absurd h (by omega), fun _ => ⟨fun h => absurd h (by omega), fun _ => ?_⟩⟩, fun h1 => ⟨fun _ => ?_, fun h => absurd h (by omega)⟩⟩
        · rw [eB]
          have hq : (((s.drop i).getD (n - 1) 0).toNat : Int) = ((qof n (racc (s.drop i) n) : Nat) : Int) := by
            have : n = 1 := by omega
            subst this
            rfl
          have hr : (((s.drop i).getD (n - 1) 0).toNat : Int) = ((racc (s.drop i) n : Nat) : Int) := by
            have : n = 1 := by omega
            subst this
            rfl
          refine wpL_draw (fun _ => True) mixed (by kernel_rfl) trivial ?_
          simp -dsimp only [push_cast, Nat.reduceAdd, Nat.reduceLeDiff, Nat.reduceBEq, decide_true]
          rw [hq]
          refine callK_of (bytesOf_c _ wy.drew) ?_
          rintro _ w3 ⟨rfl, hb3⟩
          have hb3 : Below wy.heap.size wy w3 := (Below.refl _ _).drew.trans hb3
          refine ⟨trivial, ?_⟩
          simp -dsimp only [push_cast, Nat.reduceAdd, Nat.reduceLeDiff, Nat.reduceBEq, decide_true]
          have eT : List.drop i (List.take ((i : Int) + (n : Int)).toNat s) = (s.drop i).take n := by
            rw [List.drop_take, show ((i : Int) + (n : Int)).toNat - i = n by omega]
          rw [eT]
          have hhit := ref_hit (s := s.drop i) hn1 (by omega)
          have hB3 := hB.below hb3 hB.lt
          have hfs := found_step (s := s.drop i) hn1
          refine ⟨⟨by omega, by omega⟩, ⟨by omega, by omega, by omega⟩, fun hy0 => ?_, fun hno0 => ⟨⟨by omega, by omega⟩, ⟨n + 1, by simp, by omega, by omega, by omega, ?_, ?_, ?_⟩, ?_⟩⟩
          · have hy := hhit.1 hy0
            refine storeK_of hB3 (by simp) rfl ?_
            intro w4 hw4
            simp -dsimp only [push_cast, Nat.reduceAdd, Nat.reduceLeDiff, Nat.reduceBEq, decide_true]
            refine storeK_of hw4.blk (by simp) rfl ?_
            intro w5 hw5
            simp -dsimp only [push_cast, Nat.reduceAdd, Nat.reduceLeDiff, Nat.reduceBEq, decide_true]
            rw [if_pos hy] at hfs
            have hval := ref_val (s := s.drop i) (n := n) (by omega) hn1 hy
            refine ⟨⟨by omega, by omega⟩, ⟨n + 1, by simp, by omega, by omega, by omega, ?_, ?_, ?_⟩, ?_⟩
            · first | (rw [Nat.add_sub_cancel, ← hr]; done) | (rw [Nat.add_sub_cancel, ← hr, hq])
            · exact (hk.trans (Kept.of_below hb3 (X := fun _ => False) (fun k hk hl => by omega)) (fun _ _ h => h.elim)).trans (hw4.kept.trans hw5.kept (fun _ _ h => h)) (fun _ _ h => h)
            · rw [hfs, hval, hy]; exact hw5.blk
            · rw [h7]; simp only [intOf]; omega
          · first | (rw [Nat.add_sub_cancel, ← hr]; done) | (rw [Nat.add_sub_cancel, ← hr, hq])
          · exact (hk.trans (Kept.of_below hb3 (X := fun _ => False) (fun k hk hl => by omega)) (fun _ _ h => h.elim))
          · rw [hfs, if_neg (fun h => hno0 (hhit.2 h))]; exact hB3
          · rw [h7]; simp only [intOf]; omega
        · have e2 : IntKind.i64.wrap (((racc (s.drop i) (n - 1) : Nat) : Int) * 2 ^ min (6 : Int).toNat IntKind.i64.bits) + bitop .and .i64 (IntKind.i64.wrap ((s.getD ((i : Int) + (n : Int) - 1).toNat 0).toNat : Int)) 63 = ((racc (s.drop i) n : Nat) : Int) := by
            obtain ⟨m, rfl⟩ : ∃ m, n = m + 2 := ⟨n - 2, by omega⟩
            have hm := racc_lt (s.drop i) (m + 1) (by omega)
            have h64 : 64 ^ m ≤ 64 ^ 2 := Nat.pow_le_pow_right (by omega) (by omega)
            simp only [Nat.add_sub_cancel] at hm
            rw [eB, show (63 : Int) = ((2 ^ 6 - 1 : Nat) : Int) from rfl, bits_and_i64 (by have := ((s.drop i).getD (m + 2 - 1) 0).toNat_lt; omega) (by omega), and_mask]
            rw [show m + 2 - 1 = m + 1 by omega, shl_i64 (k := 6) rfl (by omega) (by omega)]
            simp only [racc]
            omega
          rw [e2]
          have hrl : racc (s.drop i) n < 9223372036854775808 := by
            have h64 : 64 ^ (n - 1) ≤ 64 ^ 3 := Nat.pow_le_pow_right (by omega) (by omega)
            omega
          refine ⟨by omega, ⟨by omega, by omega⟩, fun _ => ?_, fun h => absurd h (by omega)⟩
          have e3 : IntKind.i64.wrap (1 * 2 ^ min (5 * (n : Int) + 1).toNat IntKind.i64.bits) = ((2 ^ (5 * n + 1) : Nat) : Int) := by
            have hp : 2 ^ (5 * n + 1) ≤ 2 ^ 21 := Nat.pow_le_pow_right (by omega) (by omega)
            have := shl_i64 (p := 1) (k := 5 * n + 1) (b := 5 * (n : Int) + 1) (by omega) (by omega) (by omega)
            simpa using this
          have hq : bitop .and .i64 ((racc (s.drop i) n : Nat) : Int) (IntKind.i64.wrap (1 * 2 ^ min (5 * (n : Int) + 1).toNat IntKind.i64.bits) - 1) = ((qof n (racc (s.drop i) n) : Nat) : Int) := by
            have hp : 2 ^ (5 * n + 1) ≤ 2 ^ 21 := Nat.pow_le_pow_right (by omega) (by omega)
            have hp0 : 0 < 2 ^ (5 * n + 1) := Nat.pow_pos (by omega)
            rw [e3, show ((2 ^ (5 * n + 1) : Nat) : Int) - 1 = ((2 ^ (5 * n + 1) - 1 : Nat) : Int) by omega, bits_and_i64 hrl (by omega), and_mask]
            unfold qof
            rw [if_neg (by omega)]
          have hr : ((racc (s.drop i) n : Nat) : Int) = ((racc (s.drop i) n : Nat) : Int) := rfl
          refine ⟨⟨by omega, by omega⟩, ⟨by omega, by omega⟩, by omega, ?_, ?_⟩
          · rw [e3]; have hp : 2 ^ (5 * n + 1) ≤ 2 ^ 21 := Nat.pow_le_pow_right (by omega) (by omega)
            generalize 2 ^ (5 * n + 1) = m at hp ⊢
            omega
          refine wpL_draw (fun _ => True) mixed (by kernel_rfl) trivial ?_
          simp -dsimp only [push_cast, Nat.reduceAdd, Nat.reduceLeDiff, Nat.reduceBEq, decide_true]
          rw [hq]
          refine callK_of (bytesOf_c _ wy.drew) ?_
          rintro _ w3 ⟨rfl, hb3⟩
          have hb3 : Below wy.heap.size wy w3 := (Below.refl _ _).drew.trans hb3
          refine ⟨trivial, ?_⟩
          simp -dsimp only [push_cast, Nat.reduceAdd, Nat.reduceLeDiff, Nat.reduceBEq, decide_true]
          have eT : List.drop i (List.take ((i : Int) + (n : Int)).toNat s) = (s.drop i).take n := by
            rw [List.drop_take, show ((i : Int) + (n : Int)).toNat - i = n by omega]
          rw [eT]
          have hhit := ref_hit (s := s.drop i) hn1 (by omega)
          have hB3 := hB.below hb3 hB.lt
          have hfs := found_step (s := s.drop i) hn1
          refine ⟨⟨by omega, by omega⟩, ⟨by omega, by omega, by omega⟩, fun hy0 => ?_, fun hno0 => ⟨⟨by omega, by omega⟩, ⟨n + 1, by simp, by omega, by omega, by omega, ?_, ?_, ?_⟩, ?_⟩⟩
          · have hy := hhit.1 hy0
            refine storeK_of hB3 (by simp) rfl ?_
            intro w4 hw4
            simp -dsimp only [push_cast, Nat.reduceAdd, Nat.reduceLeDiff, Nat.reduceBEq, decide_true]
            refine storeK_of hw4.blk (by simp) rfl ?_
            intro w5 hw5
            simp -dsimp only [push_cast, Nat.reduceAdd, Nat.reduceLeDiff, Nat.reduceBEq, decide_true]
            rw [if_pos hy] at hfs
            have hval := ref_val (s := s.drop i) (n := n) (by omega) hn1 hy
            refine ⟨⟨by omega, by omega⟩, ⟨n + 1, by simp, by omega, by omega, by omega, ?_, ?_, ?_⟩, ?_⟩
            · first | (rw [Nat.add_sub_cancel, ← hr]; done) | (rw [Nat.add_sub_cancel, ← hr, hq])
            · exact (hk.trans (Kept.of_below hb3 (X := fun _ => False) (fun k hk hl => by omega)) (fun _ _ h => h.elim)).trans (hw4.kept.trans hw5.kept (fun _ _ h => h)) (fun _ _ h => h)
            · rw [hfs, hval, hy]; exact hw5.blk
            · rw [h7]; simp only [intOf]; omega
          · first | (rw [Nat.add_sub_cancel, ← hr]; done) | (rw [Nat.add_sub_cancel, ← hr, hq])
          · exact (hk.trans (Kept.of_below hb3 (X := fun _ => False) (fun k hk hl => by omega)) (fun _ _ h => h.elim))
          · rw [hfs, if_neg (fun h => hno0 (hhit.2 h))]; exact hB3
          · rw [h7]; simp only [intOf]; omega
    · have e : s.drop i = [] := List.drop_eq_nil_of_le (by omega)
      rw [e, udec_nil, List.append_nil] at hd
      rw [← hd]
      exact ⟨ho, hb⟩
end Go.Proofs.YtonedboaomehaaaDoor
