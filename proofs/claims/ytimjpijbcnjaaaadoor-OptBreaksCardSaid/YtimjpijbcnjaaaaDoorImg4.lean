import Derived.Test.YtimjpijbcnjaaaaDoorImg3
import Derived.Test.YtimjpijbcnjaaaaDoorV
namespace Go.Proofs.YtimjpijbcnjaaaaDoor
open Go.Vc Go.Proofs Go.RowKit Cae
set_option maxRecDepth 100000
set_option linter.unusedSimpArgs false
set_option linter.unusedVariables false
attribute [local irreducible] wpL callK valK unitK runK Fun Sl Own vc vcOps opK pureK
set_option maxHeartbeats 4000000

theorem rnumA_val (bad : Bool) : ∀ (s : List UInt8) (i n : Nat), i ≤ 4 → n < 128 ^ i → (rnumA bad i n s).1 < 268435456
  | [], _, _, _, _ => by rw [rnumA]; omega
  | c :: r, i, n, hi, hn => by
    rw [rnumA]
    split
    · omega
    · rename_i h4
      have h5 : i = 0 ∨ i = 1 ∨ i = 2 ∨ i = 3 := by omega
      split
      · rename_i hc
        rcases h5 with rfl | rfl | rfl | rfl <;> simp only [Nat.reducePow] at hn ⊢ <;> omega
      · refine rnumA_val bad r (i + 1) _ (by omega) ?_
        have hm := Nat.mod_lt c.toNat (show 0 < 128 by omega)
        rcases h5 with rfl | rfl | rfl | rfl <;> simp only [Nat.reducePow, Nat.reduceAdd] at hn ⊢ <;> omega
theorem rnumA_len (bad : Bool) : ∀ (s : List UInt8) (i n : Nat), (rnumA bad i n s).2.1.length ≤ s.length
  | [], _, _ => by rw [rnumA]; simp
  | c :: r, i, n => by
    rw [rnumA]
    split
    · simp
    · split
      · simp
      · have := rnumA_len bad r (i + 1) (n + c.toNat % 128 * 128 ^ i)
        simp only [List.length_cons]; omega
theorem rnum_val (x : St) : (rnum x).1 < 268435456 := rnumA_val x.bad x.s 0 0 (by omega) (by omega)
theorem rnum_len (x : St) : (rnum x).2.s.length ≤ x.s.length := rnumA_len x.bad x.s 0 0
theorem rmany_val (x : St) : (rmany x).1 ≤ (rmany x).2.s.length := by
  unfold rmany
  split
  · exact Nat.zero_le _
  · omega
theorem rmany_len (x : St) : (rmany x).2.s.length ≤ x.s.length := by
  have := rnum_len x
  unfold rmany
  split <;> exact this
theorem rbit_len (x : St) : (rbit x).2.s.length ≤ x.s.length := rnum_len x

theorem rd_bits {n c i : Nat} (hi : i < 4) (hn : n < 128 ^ i) (hc : c < 256) :
    bitop .or .i64 (n : Int) (IntKind.i64.wrap (IntKind.i64.wrap (bitop .and .u8 (c : Int) 127) * 2 ^ min (7 * (i : Int)).toNat IntKind.i64.bits)) = ((n + c % 128 * 128 ^ i : Nat) : Int) := by
  have hm := Nat.mod_lt c (show 0 < 128 by omega)
  have e1 : bitop .and .u8 (c : Int) 127 = ((c % 128 : Nat) : Int) := by
    rw [show (127 : Int) = ((2 ^ 7 - 1 : Nat) : Int) from rfl, bits_and_u8 (by omega) (by omega), and_mask]
  rw [e1, wrap_i64_nat (by omega)]
  have h5 : i = 0 ∨ i = 1 ∨ i = 2 ∨ i = 3 := by omega
  rcases h5 with rfl | rfl | rfl | rfl
  · rw [show min (7 * ((0 : Nat) : Int)).toNat IntKind.i64.bits = 0 from rfl, show (((c % 128 : Nat) : Int) * 2 ^ 0) = ((c % 128 : Nat) : Int) by simp, wrap_i64_nat (by omega), bits_or_i64 (by omega) (by omega)]
    have : n = 0 := by simpa using hn
    subst this; simp
  all_goals
    simp only [Nat.reducePow] at hn ⊢
    first
    | (rw [show min (7 * ((1 : Nat) : Int)).toNat IntKind.i64.bits = 7 from rfl, show (((c % 128 : Nat) : Int) * 2 ^ 7) = ((c % 128 * 2 ^ 7 : Nat) : Int) by simp, wrap_i64_nat (by omega), bits_or_i64 (by omega) (by omega), Nat.or_comm, or_low (by omega)]; congr 1; omega)
    | (rw [show min (7 * ((2 : Nat) : Int)).toNat IntKind.i64.bits = 14 from rfl, show (((c % 128 : Nat) : Int) * 2 ^ 14) = ((c % 128 * 2 ^ 14 : Nat) : Int) by simp, wrap_i64_nat (by omega), bits_or_i64 (by omega) (by omega), Nat.or_comm, or_low (by omega)]; congr 1; omega)
    | (rw [show min (7 * ((3 : Nat) : Int)).toNat IntKind.i64.bits = 21 from rfl, show (((c % 128 : Nat) : Int) * 2 ^ 21) = ((c % 128 * 2 ^ 21 : Nat) : Int) by simp, wrap_i64_nat (by omega), bits_or_i64 (by omega) (by omega), Nat.or_comm, or_low (by omega)]; congr 1; omega)

theorem putTrans {a b c : World} {p : Nat} {e : TypeId} {xs ys : List Value} (h : Put a b p e xs) (k : Put b c p e ys) : Put a c p e ys := ⟨k.blk, h.kept.trans k.kept (fun _ _ h => h), k.size.trans h.size⟩

def rdB (w : World) (p : Nat) (x : St) : Prop := Blk w p 119 [str x.s, .bool x.bad]

theorem rnum_c (x : St) (p : Nat) (w : World) (hs : x.s.length < 1000000000) (hB : rdB w p x) :
    Fun Tryd.prog 91 [.pointer (some ⟨p, 0, none⟩)] w fun r w' => r = .int .i64 (rnum x).1 ∧ Put w w' p 119 [str (rnum x).2.s, .bool (rnum x).2.bad] := by
  have hB' : Blk w p 119 [str x.s, .bool x.bad] := hB
  have c0 : w.cell? ⟨p, 0, none⟩ = some (str x.s) := hB'.cell rfl
  have c1 : w.cell? ⟨p, 1, none⟩ = some (.bool x.bad) := hB'.cell rfl
  refine fun_of_vc Tryd.func91 rfl (by kernel_rfl) [2] rfl ?_
  simp -dsimp only [push_cast, fr0, Tryd.ntmps91, List.length_cons, List.length_nil, Nat.reduceAdd, Nat.reduceSub, Nat.reduceBEq, List.replicate_succ, List.replicate_zero]
  simp -dsimp only [push_cast, Nat.reduceAdd, Nat.reduceLeDiff, Nat.reduceBEq, decide_true, c0]
  refine wpL_loop [2, 3, 4, 5, 12, 13, 14, 15, 16, 17, 18, 19, 20, 21, 22, 23, 24, 25, 26, 27, 28, 29, 30, 31, 32, 33, 34, 35, 36, 37, 38, 39, 40, 41, 42, 43, 44, 45, 46, 47, 48, 49, 50, 51, 52, 53, 54, 55, 56, 57] (fun z wx => ∃ (i n : Nat), z 12 = .int .i64 i ∧ z 3 = .int .i64 n ∧ i ≤ x.s.length ∧ i ≤ 4 ∧ n < 128 ^ i ∧ rnumA x.bad i n (x.s.drop i) = rnumA x.bad 0 0 x.s ∧ wx = w) (fun z _ => x.s.length - (intOf (z 12)).toNat) ?_ ?_
  · exact ⟨0, 0, rfl, rfl, Nat.zero_le _, by omega, by omega, rfl, rfl⟩
  · intro z wx hI
    obtain ⟨i, n, h12, h3, hi, hi4, hn, hg, hw⟩ := hI
    subst hw
    simp -dsimp only [push_cast, Nat.reduceAdd, Nat.reduceLeDiff, Nat.reduceBEq, decide_true, h12, h3, c0]
    refine ⟨fun hlt => ?_, fun hge => ?_⟩
    · have hlt' : i < x.s.length ∧ i < 4 := by split at hlt <;> omega
      obtain ⟨c, hc, _, hd, _⟩ := lt_get (l := x.s) (i := i) hlt'.1
      have hgd : x.s.getD i 0 = c := by rw [List.getD_eq_getElem?_getD, hc]; rfl
      have hcl : c.toNat < 256 := c.toNat_lt
      rw [hgd]
      rw [hd, rnumA, if_neg (by omega)] at hg
      refine ⟨⟨by omega, by omega⟩, ⟨by omega, by omega⟩, by omega, fun hc1 => ?_, fun hc1 => ?_⟩
      · rw [if_pos (by omega)] at hg
        have hfin : ∀ w1, Put wx w1 p 119 [str x.s, .bool (x.bad || (decide (0 < i) && decide (c.toNat = 0)))] → ∀ w2, Put w1 w2 p 119 [str (x.s.drop (i + 1)), .bool (x.bad || (decide (0 < i) && decide (c.toNat = 0)))] →
            Value.int IntKind.i64 ((n + c.toNat % 128 * 128 ^ i : Nat) : Int) = Value.int IntKind.i64 ((rnum x).1 : Int) ∧ Put wx w2 p 119 [str (rnum x).2.s, .bool (rnum x).2.bad] := fun w1 hw1 w2 hw2 => by
          have e : rnum x = (n + c.toNat % 128 * 128 ^ i, ⟨x.s.drop (i + 1), x.bad || (decide (0 < i) && decide (c.toNat = 0))⟩) := by
            rw [Nat.mod_eq_of_lt (show c.toNat < 128 by omega)]
            unfold rnum; rw [← hg]
          rw [e]
          exact ⟨rfl, putTrans hw1 hw2⟩
        have hfin2 : ∀ (bd : Bool), bd = (x.bad || (decide (0 < i) && decide (c.toNat = 0))) → ∀ w1, Put wx w1 p 119 [str x.s, .bool bd] → ∀ w2, Put w1 w2 p 119 [str (x.s.drop (i + 1)), .bool bd] →
            Value.int IntKind.i64 ((n + c.toNat % 128 * 128 ^ i : Nat) : Int) = Value.int IntKind.i64 ((rnum x).1 : Int) ∧ Put wx w2 p 119 [str (rnum x).2.s, .bool (rnum x).2.bad] := fun bd hbd => by subst hbd; exact hfin
        cases hbad : x.bad with
        | true =>
          rw [hbad] at c1 hB'
          simp -dsimp only [push_cast, Nat.reduceAdd, Nat.reduceLeDiff, Nat.reduceBEq, decide_true, ne_eq, eq_self, not_true_eq_false, not_false_eq_true, true_imp_iff, false_imp_iff, Int.reduceNe, Int.reduceEq, Int.reduceLT, Int.reduceLE, Bool.not_true, Bool.not_false, c1]
          refine storeK_of hB' (by simp) rfl ?_
          intro w1 hw1
          have d0 : w1.cell? ⟨p, 0, none⟩ = some (str x.s) := hw1.blk.cell rfl
          simp -dsimp only [push_cast, Nat.reduceAdd, Nat.reduceLeDiff, Nat.reduceBEq, decide_true, d0]
          refine ⟨⟨by omega, by omega⟩, ⟨by omega, by omega⟩, ?_⟩
          refine storeK_of hw1.blk (by simp) rfl ?_
          intro w2 hw2
          simp -dsimp only [push_cast, Nat.reduceAdd, Nat.reduceLeDiff, Nat.reduceBEq, decide_true]
          rw [rd_bits hlt'.2 hn hcl]
          refine hfin2 true (by rw [hbad]; rfl) w1 hw1 w2 ?_
          have e : ((i : Int) + 1).toNat = i + 1 := by omega
          rw [e] at hw2
          exact hw2
        | false =>
          rw [hbad] at c1 hB'
          simp -dsimp only [push_cast, Nat.reduceAdd, Nat.reduceLeDiff, Nat.reduceBEq, decide_true, ne_eq, eq_self, not_true_eq_false, not_false_eq_true, true_imp_iff, false_imp_iff, Int.reduceNe, Int.reduceEq, Int.reduceLT, Int.reduceLE, Bool.not_true, Bool.not_false, c1]
          have e : ((i : Int) + 1).toNat = i + 1 := by omega
          refine ⟨fun hi0 => ?_, fun hi0 => ?_⟩
          · refine storeK_of hB' (by simp) rfl ?_
            intro w1 hw1
            have d0 : w1.cell? ⟨p, 0, none⟩ = some (str x.s) := hw1.blk.cell rfl
            simp -dsimp only [push_cast, Nat.reduceAdd, Nat.reduceLeDiff, Nat.reduceBEq, decide_true, d0]
            refine ⟨⟨by omega, by omega⟩, ⟨by omega, by omega⟩, ?_⟩
            refine storeK_of hw1.blk (by simp) rfl ?_
            intro w2 hw2
            simp -dsimp only [push_cast, Nat.reduceAdd, Nat.reduceLeDiff, Nat.reduceBEq, decide_true]
            rw [rd_bits hlt'.2 hn hcl]
            refine hfin2 _ ?_ w1 hw1 w2 (by rw [e] at hw2; exact hw2)
            rw [hbad, decide_eq_true (show 0 < i by omega), Bool.true_and, Bool.false_or, decide_eq_decide]
            omega
          · refine storeK_of hB' (by simp) rfl ?_
            intro w1 hw1
            have d0 : w1.cell? ⟨p, 0, none⟩ = some (str x.s) := hw1.blk.cell rfl
            simp -dsimp only [push_cast, Nat.reduceAdd, Nat.reduceLeDiff, Nat.reduceBEq, decide_true, d0]
            refine ⟨⟨by omega, by omega⟩, ⟨by omega, by omega⟩, ?_⟩
            refine storeK_of hw1.blk (by simp) rfl ?_
            intro w2 hw2
            simp -dsimp only [push_cast, Nat.reduceAdd, Nat.reduceLeDiff, Nat.reduceBEq, decide_true]
            rw [rd_bits hlt'.2 hn hcl]
            refine hfin2 _ ?_ w1 hw1 w2 (by rw [e] at hw2; exact hw2)
            rw [hbad, decide_eq_false (show ¬ 0 < i by omega), Bool.false_and, Bool.false_or]
      · refine ⟨⟨by omega, by omega⟩, ⟨i + 1, _, rfl, congrArg _ (rd_bits hlt'.2 hn hcl), by omega, by omega, ?_, ?_⟩, by simp only [intOf]; omega⟩
        · have hm := Nat.mod_lt c.toNat (show 0 < 128 by omega)
          have h5 : i = 0 ∨ i = 1 ∨ i = 2 ∨ i = 3 := by omega
          clear hg hgd hd hc h12
          rcases h5 with rfl | rfl | rfl | rfl <;> simp only [Nat.reducePow, Nat.reduceAdd] at hn ⊢ <;> omega
        · rw [if_neg (by omega)] at hg; exact hg
    · refine storeK_of hB' (by simp) rfl ?_
      intro w1 hw1
      simp -dsimp only [push_cast, Nat.reduceAdd, Nat.reduceLeDiff, Nat.reduceBEq, decide_true]
      refine storeK_of hw1.blk (by simp) rfl ?_
      intro w2 hw2
      simp -dsimp only [push_cast, Nat.reduceAdd, Nat.reduceLeDiff, Nat.reduceBEq, decide_true]
      have e : rnum x = (0, ⟨[], true⟩) := by
        unfold rnum
        rw [← hg]
        cases hdr : x.s.drop i with
        | nil => rfl
        | cons c r =>
          have hle : i = 4 := by
            have hl := congrArg List.length hdr
            simp only [List.length_drop, List.length_cons] at hl
            split at hge <;> omega
          rw [rnumA, if_pos (by omega)]
      rw [e]
      exact ⟨rfl, putTrans hw1 hw2⟩

theorem rmany_c (x : St) (p : Nat) (w : World) (hs : x.s.length < 1000000000) (hB : rdB w p x) :
    Fun Tryd.prog 75 [.pointer (some ⟨p, 0, none⟩)] w fun r w' => r = .int .i64 (rmany x).1 ∧ Put w w' p 119 [str (rmany x).2.s, .bool (rmany x).2.bad] := by
  have hv := rnum_val x
  have hl := rnum_len x
  refine fun_of_vc Tryd.func75 rfl (by kernel_rfl) [2] rfl ?_
  simp -dsimp only [push_cast, fr0, Tryd.ntmps75, List.length_cons, List.length_nil, Nat.reduceAdd, Nat.reduceSub, Nat.reduceBEq, List.replicate_succ, List.replicate_zero]
  refine callK_of (rnum_c x p w hs hB) ?_
  rintro _ w1 ⟨rfl, hw1⟩
  have c0 : w1.cell? ⟨p, 0, none⟩ = some (str (rnum x).2.s) := hw1.blk.cell rfl
  simp -dsimp only [push_cast, Nat.reduceAdd, Nat.reduceLeDiff, Nat.reduceBEq, decide_true, c0]
  refine ⟨fun h => ?_, fun h => ?_⟩
  · refine storeK_of hw1.blk (by simp) rfl ?_
    intro w2 hw2
    simp -dsimp only [push_cast, Nat.reduceAdd, Nat.reduceLeDiff, Nat.reduceBEq, decide_true]
    unfold rmany
    rw [if_pos (by omega)]
    exact ⟨rfl, putTrans hw1 hw2⟩
  · unfold rmany
    rw [if_neg (by omega)]
    exact ⟨rfl, hw1⟩

theorem rbit_c (x : St) (p : Nat) (w : World) (hs : x.s.length < 1000000000) (hB : rdB w p x) :
    Fun Tryd.prog 74 [.pointer (some ⟨p, 0, none⟩)] w fun r w' => r = .bool (rbit x).1 ∧ Put w w' p 119 [str (rbit x).2.s, .bool (rbit x).2.bad] := by
  have hv := rnum_val x
  refine fun_of_vc Tryd.func74 rfl (by kernel_rfl) [2] rfl ?_
  simp -dsimp only [push_cast, fr0, Tryd.ntmps74, List.length_cons, List.length_nil, Nat.reduceAdd, Nat.reduceSub, Nat.reduceBEq, List.replicate_succ, List.replicate_zero]
  refine callK_of (rnum_c x p w hs hB) ?_
  rintro _ w1 ⟨rfl, hw1⟩
  have c1 : w1.cell? ⟨p, 1, none⟩ = some (.bool (rnum x).2.bad) := hw1.blk.cell rfl
  have e : decide (((rnum x).1 : Int) = 1) = (rbit x).1 := by
    show _ = decide ((rnum x).1 = 1)
    rw [decide_eq_decide]; omega
  have hfin : ∀ bd w2, bd = (rbit x).2.bad → Put w1 w2 p 119 [str (rnum x).2.s, .bool bd] → Value.bool (decide (((rnum x).1 : Int) = 1)) = Value.bool (rbit x).1 ∧ Put w w2 p 119 [str (rbit x).2.s, .bool (rbit x).2.bad] := fun bd w2 hbd hw2 => by
    subst hbd
    exact ⟨congrArg _ e, putTrans hw1 hw2⟩
  have eb : (rbit x).2.bad = ((rnum x).2.bad || decide (1 < (rnum x).1)) := rfl
  cases hbad : (rnum x).2.bad with
  | true =>
    rw [hbad] at c1
    simp -dsimp only [push_cast, Nat.reduceAdd, Nat.reduceLeDiff, Nat.reduceBEq, decide_true, ne_eq, eq_self, not_true_eq_false, not_false_eq_true, true_imp_iff, false_imp_iff, Int.reduceNe, Int.reduceEq, Int.reduceLT, Int.reduceLE, Bool.not_true, Bool.not_false, c1]
    refine storeK_of hw1.blk (by simp) rfl ?_
    intro w2 hw2
    simp -dsimp only [push_cast, Nat.reduceAdd, Nat.reduceLeDiff, Nat.reduceBEq, decide_true]
    exact hfin _ w2 (by rw [eb, hbad, Bool.true_or]) hw2
  | false =>
    rw [hbad] at c1
    simp -dsimp only [push_cast, Nat.reduceAdd, Nat.reduceLeDiff, Nat.reduceBEq, decide_true, ne_eq, eq_self, not_true_eq_false, not_false_eq_true, true_imp_iff, false_imp_iff, Int.reduceNe, Int.reduceEq, Int.reduceLT, Int.reduceLE, Bool.not_true, Bool.not_false, c1]
    refine storeK_of hw1.blk (by simp) rfl ?_
    intro w2 hw2
    simp -dsimp only [push_cast, Nat.reduceAdd, Nat.reduceLeDiff, Nat.reduceBEq, decide_true]
    refine hfin _ w2 ?_ hw2
    rw [eb, hbad, Bool.false_or, decide_eq_decide]; omega
end Go.Proofs.YtimjpijbcnjaaaaDoor
