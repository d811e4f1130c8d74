/- Texts of this claim, merged: Hex, Join, Sprint, Cut, Byt, Pint, Ppar, Prul, Pmean, Pmean2, Pmean3, Al2, Prl1, Prl2, Stp, Prl3, Pok, Pst. -/
import Derived.Test.YtgodgfeinjminaaGreatDoorM3
import Derived.Shelf.Strings.OnBuilder
import Derived.Shelf.Strings.Search3
import Derived.Shelf.Small.Wraps
import Derived.Lib.IfaceEq
import Derived.Lib.IfaceNeq
section
namespace Cae
def dig (n : Nat) : UInt8 := if n < 10 then UInt8.ofNat (48 + n) else UInt8.ofNat (87 + n)
def hexF : Nat → Nat → List UInt8 → List UInt8
 | 0, n, acc => dig n :: acc
 | f + 1, n, acc => if n < 16 then dig n :: acc else hexF f (n / 16) (dig (n % 16) :: acc)
def hexP (n : Nat) : List UInt8 := hexF 8 n []
theorem hexF_len : ∀ (f n : Nat) (acc : List UInt8), (hexF f n acc).length ≤ f + 1 + acc.length
 | 0, n, acc => by rw [hexF]; simp; omega
 | f + 1, n, acc => by
  rw [hexF]
  split
  ·simp; omega
  ·have := hexF_len f (n / 16) (dig (n % 16) :: acc)
   rw [List.length_cons] at this
   omega
theorem hexP_len (n : Nat) : (hexP n).length ≤ 9 := hexF_len 8 n []
end Cae
namespace Go.Vc
open Go.RowKit
theorem slBlkAt {α : Type} {f : α → Value} {w : World} {b c j n : Nat} {e : TypeId} {l : List α} {cs : List Value} (hB : Blk w b e cs) (hd : cs.drop j = l.map f) (hn : n = l.length) (hc : l.length ≤ c) : Sl (fun _ => False) 1 (En (fun x => [f x])) w (.slice (some ⟨b, j, none⟩) n c) l := by
 subst hn
 refine ⟨_, _, rfl, hc, fun i x hx => ⟨b, j, [f x], rfl, id, rfl, fun k u hu => ?_, rfl⟩⟩
 cases k with
 | zero =>
  simp at hu; subst hu
  rw [Nat.mul_one, Nat.add_zero]
  refine hB.cell ?_
  have h1 : (cs.drop j)[i]? = some (f x) := by rw [hd, List.getElem?_map, hx]; rfl
  rwa [List.getElem?_drop] at h1
 | succ k => simp at hu
end Go.Vc
namespace Go.Proofs.YtgodgfeinjminaaGreatDoor
open Go.Vc Go.Proofs Go.RowKit Cae
set_option maxRecDepth 100000
set_option linter.unusedSimpArgs false
set_option linter.unusedVariables false
attribute [local irreducible] wpL callK valK unitK runK Fun Sl Vc.Own vc vcOps opK pureK
set_option maxHeartbeats 4000000

def Db (w : World) : Prop := w.cell? ⟨7, 15, none⟩ = some (.int .u8 4)
theorem Db.below {w w' : World} {B : Nat} (h : Db w) (hb : Below B w w') (hB : 7 < B) : Db w' := (hb.cell hB).trans h
theorem Db.lt {w : World} (h : Db w) : 7 < w.heap.size := World.block_lt_of_cell? w _ h

theorem bits_and_u64 {x y : Nat} (hx : x < 18446744073709551616) (hy : y < 18446744073709551616) : bitop .and .u64 x y = ((x &&& y : Nat) : Int) := by
 simp only [bitop, ofInt_nat, BitVec.toNat_and, BitVec.toNat_ofNat]
 rw [Nat.mod_eq_of_lt (show x < 2 ^ IntKind.u64.bits by show x < 2 ^ 64; omega), Nat.mod_eq_of_lt (show y < 2 ^ IntKind.u64.bits by show y < 2 ^ 64; omega), wrap_u64_nat, Nat.mod_eq_of_lt (and_lt (n := 64) hx)]
theorem digTab : ∀ d : Nat, d < 16 → ([48, 49, 50, 51, 52, 53, 54, 55, 56, 57, 97, 98, 99, 100, 101, 102, 103, 104, 105, 106, 107, 108, 109, 110, 111, 112, 113, 114, 115, 116, 117, 118, 119, 120, 121, 122] : List UInt8).getD d 0 = dig d := by decide
theorem pow2_c (w : World) : Fun Tryz.prog 137 [.int .i64 16] w fun r w' => r = .bool true ∧ w' = w := by
 refine fun_of_vc Tryz.func137 rfl (by kernel_rfl) [2] rfl ?_
 simp -dsimp (maxSteps := 4000000) only [push_cast, fr0, Tryz.ntmps137, List.length_cons, List.length_nil, Nat.reduceAdd, Nat.reduceSub, Nat.reduceBEq, List.replicate_succ, List.replicate_zero]
 have e1 : bitop .and .i64 16 (16 - 1) = 0 := by decide +kernel
 rw [e1]
 exact ⟨by omega, rfl⟩
theorem tz64_c (w : World) (h : Db w) : Fun Tryz.prog 161 [.int .u64 16] w fun r w' => r = .int .i64 4 ∧ w' = w := by
 refine fun_of_vc Tryz.func161 rfl (by kernel_rfl) [2] rfl ?_
 simp -dsimp (maxSteps := 4000000) only [push_cast, fr0, Tryz.ntmps161, List.length_cons, List.length_nil, Nat.reduceAdd, Nat.reduceSub, Nat.reduceBEq, List.replicate_succ, List.replicate_zero]
 simp -dsimp only [push_cast, Nat.reduceAdd, Nat.reduceLeDiff, Nat.reduceBEq, decide_true, ne_eq, eq_self, not_true_eq_false, not_false_eq_true, true_imp_iff, false_imp_iff, Int.reduceNe, Int.reduceEq, Int.reduceLT, Int.reduceLE, Bool.not_true, Bool.not_false]
 have e1 : (IntKind.u64.wrap (bitop .and .u64 16 (IntKind.u64.wrap (0 - 16)) * 285870213051353865)).fdiv (2 ^ min (Int.toNat 58) IntKind.u64.bits) = 15 := by decide +kernel
 rw [e1]
 have h' : w.cell? ⟨7, Int.toNat 15, none⟩ = some (.int .u8 4) := h
 simp -dsimp only [push_cast, Nat.reduceAdd, Nat.reduceLeDiff, Nat.reduceBEq, decide_true, ne_eq, eq_self, not_true_eq_false, not_false_eq_true, true_imp_iff, false_imp_iff, Int.reduceNe, Int.reduceEq, Int.reduceLT, Int.reduceLE, Bool.not_true, Bool.not_false, h']
 exact ⟨by omega, by rfl⟩
theorem tz_c (w : World) (h : Db w) : Fun Tryz.prog 138 [.int .u64 16] w fun r w' => r = .int .i64 4 ∧ w' = w := by
 refine fun_of_vc Tryz.func138 rfl (by kernel_rfl) [2] rfl ?_
 simp -dsimp (maxSteps := 4000000) only [push_cast, fr0, Tryz.ntmps138, List.length_cons, List.length_nil, Nat.reduceAdd, Nat.reduceSub, Nat.reduceBEq, List.replicate_succ, List.replicate_zero]
 refine callK_of (tz64_c w h) ?_
 rintro _ w1 ⟨rfl, rfl⟩
 simp -dsimp only [push_cast, Nat.reduceAdd, Nat.reduceLeDiff, Nat.reduceBEq, decide_true]
theorem sliceArrK {P : Program} {xt : TypeId} {n s : Nat} {e : TypeId} {E : Option (TypeId × Nat)} {a : Addr} {j : Nat} {L : VP} {o : Oper} {t : Fr} {w : World} {K : VK} {Q : EP} {p} (hu : P.underlying xt = some (.array n e)) (hn : P.arrayLen xt = n) (he : P.elem xt = e)
  (hs : (sizeOf e).run P w = .ok s w) (ho : execOp (ev t) o = (do pure (.value (← Instr.sliceAt xt (.pointer (some a)) (some (.int .i64 (j : Int))) none none)))) (hj : j < n)
  (k : K (.slice (some (a.add (j * s))) (n - j) (n - j)) w) : sliceK (P.underlying xt) E (.pointer (some a)) (some (.int .i64 (j : Int))) none none L (runK P o t w K Q .mk) p := by
 rw [hu]
 show runK P o t w K Q .mk
 refine runK_val ho (valK_of ?_ k)
 rw [run_sliceAt_array_l w xt a (by rw [hu, hn, he]) .i64 (j : Int) (by omega) (by rw [hn]; omega), he, hs]
 rw [hn]
 unfold slicedAt
 rw [Int.toNat_natCast]
 show Result.ok (Value.slice (some (if n = j then a else a.add (j * s))) (n - j) (n - j)) w = _
 rw [if_neg (by omega)]
theorem formatBits_c (n : Nat) (hn : n < 4294967296) (w : World) (h : Db w) :
  Fun Tryz.prog 118 [.slice none 0 0, .int .u64 (n : Int), .int .i64 16, .bool false, .bool false] w fun r w' => r = .tuple #[.slice none 0 0, str (hexP n)] ∧ Below w.heap.size w w' := by
 refine fun_of_vc Tryz.func118 rfl (by kernel_rfl) [10, 11] rfl ?_
 simp -dsimp (maxSteps := 4000000) only [push_cast, fr0, Tryz.ntmps118, List.length_cons, List.length_nil, Nat.reduceAdd, Nat.reduceSub, Nat.reduceBEq, List.replicate_succ, List.replicate_zero]
 simp -dsimp only [push_cast, Nat.reduceAdd, Nat.reduceLeDiff, Nat.reduceBEq, decide_true, ne_eq, eq_self, not_true_eq_false, not_false_eq_true, true_imp_iff, false_imp_iff, Int.reduceNe, Int.reduceEq, Int.reduceLT, Int.reduceLE, Bool.not_true, Bool.not_false]
 refine allocK (z := List.replicate 65 (.int .u8 0)) (by kernel_rfl) ?_
 intro w1 hw1
 have sz1 := hw1.size
 have hb1 := hw1.below
 simp -dsimp only [push_cast, Nat.reduceAdd, Nat.reduceLeDiff, Nat.reduceBEq, decide_true, ne_eq, eq_self, not_true_eq_false, not_false_eq_true, true_imp_iff, false_imp_iff, Int.reduceNe, Int.reduceEq, Int.reduceLT, Int.reduceLE, Bool.not_true, Bool.not_false]
 refine callK_of (pow2_c w1) ?_
 rintro _ w2 ⟨rfl, rfl⟩
 simp -dsimp only [push_cast, Nat.reduceAdd, Nat.reduceLeDiff, Nat.reduceBEq, decide_true, ne_eq, eq_self, not_true_eq_false, not_false_eq_true, true_imp_iff, false_imp_iff, Int.reduceNe, Int.reduceEq, Int.reduceLT, Int.reduceLE, Bool.not_true, Bool.not_false]
 have e4 : IntKind.u64.wrap 4 = 4 := by decide
 have e16 : IntKind.u64.wrap 16 = 16 := by decide
 have e15 : IntKind.u64.wrap (16 - 1) = 15 := by decide
 refine callK_of (tz_c w2 (h.below hb1 h.lt)) ?_
 rintro _ w3 ⟨rfl, rfl⟩
 simp -dsimp only [push_cast, Nat.reduceAdd, Nat.reduceLeDiff, Nat.reduceBEq, decide_true, ne_eq, eq_self, not_true_eq_false, not_false_eq_true, true_imp_iff, false_imp_iff, Int.reduceNe, Int.reduceEq, Int.reduceLT, Int.reduceLE, Bool.not_true, Bool.not_false, e4, e16, e15]
 refine wpL_loop [1, 13, 44, 45, 46, 47, 48, 49, 50, 51, 52, 53, 54, 55, 56, 57] (fun z wx => ∃ (f m i : Nat) (acc : List UInt8) (cs : List Value), z 1 = .int .u64 (m : Int) ∧ z 13 = .int .i64 (i : Int) ∧ i = 57 + f ∧ f ≤ 8 ∧ m < 16 ^ (f + 1) ∧ hexF f m acc = hexP n ∧ cs.length = 65 ∧ cs.drop i = acc.map (fun b => .int .u8 (b.toNat : Int)) ∧ Blk wx w.heap.size 215 cs ∧ Below w.heap.size w wx) (fun z _ => (intOf (z 13)).toNat) ?_ ?_
 ·refine ⟨8, n, 65, [], _, rfl, rfl, rfl, Nat.le_refl _, by omega, rfl, List.length_replicate .., ?_, hw1.blk, hb1⟩
  rfl
 ·intro z wx hI
  obtain ⟨f, m, i, acc, cs, h1, h13, hif, hf, hm, hh, hcl, hcd, hB, hbx⟩ := hI
  have szx := hbx.size
  have hm64 : m < 18446744073709551616 := Nat.lt_of_lt_of_le hm (Nat.le_trans (Nat.pow_le_pow_right (by omega) (show f + 1 ≤ 9 by omega)) (by decide))
  have hgd : ∃ d, m % 16 = d := ⟨_, rfl⟩
  obtain ⟨d, hd⟩ := hgd
  have hd16 : d < 16 := by omega
  have ea : bitop .and .u64 (m : Int) 15 = (d : Int) := by
   rw [show (15 : Int) = ((2 ^ 4 - 1 : Nat) : Int) from rfl, bits_and_u64 hm64 (by omega), and_mask, ← hd]
  have hq : ∃ q, m / 16 = q := ⟨_, rfl⟩
  obtain ⟨q, hq⟩ := hq
  have es : (m : Int).fdiv (2 ^ min (Int.toNat 4) IntKind.u64.bits) = (q : Int) := by
   rw [shr_nat (k := 4) rfl (by decide), ← hq]
  have hi1 : ∃ j, i = j + 1 := ⟨i - 1, by omega⟩
  obtain ⟨j, rfl⟩ := hi1
  have ej : ((j : Nat) : Int) + 1 - 1 = (j : Int) := by omega
  simp -dsimp only [push_cast, Nat.reduceAdd, Nat.reduceLeDiff, Nat.reduceBEq, decide_true, ne_eq, eq_self, not_true_eq_false, not_false_eq_true, true_imp_iff, false_imp_iff, Int.reduceNe, Int.reduceEq, Int.reduceLT, Int.reduceLE, Bool.not_true, Bool.not_false, h1, h13, ea, es, ej]
  refine ⟨fun hge => ?_, fun hlt => ?_⟩
  ·refine ⟨⟨by omega, by omega⟩, ⟨by omega, by omega⟩, ⟨by omega, by omega⟩, ?_⟩
   rw [digTab d hd16]
   refine storeK_of hB (by omega) rfl ?_
   intro w5 hw5
   have sz5 : w5.heap.size = wx.heap.size := hw5.size
   simp -dsimp only [push_cast, Nat.reduceAdd, Nat.reduceLeDiff, Nat.reduceBEq, decide_true, ne_eq, eq_self, not_true_eq_false, not_false_eq_true, true_imp_iff, false_imp_iff, Int.reduceNe, Int.reduceEq, Int.reduceLT, Int.reduceLE, Bool.not_true, Bool.not_false, es]
   cases f with
   | zero => exact absurd hm (by omega)
   | succ f =>
    rw [hexF, if_neg (by omega), hq, hd] at hh
    refine ⟨⟨f, q, j, dig d :: acc, _, rfl, rfl, by omega, by omega, ?_, hh, by rw [List.length_set]; exact hcl, ?_, hw5.blk, hbx.trans (hw5.kept.below szx (fun g hg => Nat.le_of_eq (Eq.symm hg)))⟩, by rw [h13]; simp only [intOf]; omega⟩
    ·rw [← hq]
     refine Nat.div_lt_of_lt_mul ?_
     rw [Nat.mul_comm, ← Nat.pow_succ]; exact hm
    ·rw [List.drop_set, if_neg (by omega), Nat.sub_self, List.drop_eq_getElem_cons (by omega), List.set_cons_zero, hcd, List.map_cons]
  ·have hh' : dig m :: acc = hexP n := by
    rw [← hh]
    cases f with
    | zero => rfl
    | succ f => rw [hexF, if_pos (by omega)]
   have hm36 : m < 16 := by omega
   refine ⟨⟨by omega, by omega⟩, ⟨by omega, by omega⟩, ⟨by omega, by omega⟩, ?_⟩
   rw [digTab m hm36]
   refine storeK_of hB (by omega) rfl ?_
   intro w5 hw5
   have sz5 : w5.heap.size = wx.heap.size := hw5.size
   simp -dsimp only [push_cast, Nat.reduceAdd, Nat.reduceLeDiff, Nat.reduceBEq, decide_true, ne_eq, eq_self, not_true_eq_false, not_false_eq_true, true_imp_iff, false_imp_iff, Int.reduceNe, Int.reduceEq, Int.reduceLT, Int.reduceLE, Bool.not_true, Bool.not_false]
   refine sliceArrK (n := 65) (s := 1) (e := 5) (by kernel_rfl) (by kernel_rfl) (by kernel_rfl) (by rfl) rfl (by omega) ?_
   simp -dsimp only [push_cast, Nat.reduceAdd, Nat.reduceLeDiff, Nat.reduceBEq, decide_true, ne_eq, eq_self, not_true_eq_false, not_false_eq_true, true_imp_iff, false_imp_iff, Int.reduceNe, Int.reduceEq, Int.reduceLT, Int.reduceLE, Bool.not_true, Bool.not_false]
   have hsl : Sl (fun _ => False) 1 (En encB) w5 (.slice (some ⟨w.heap.size, j, none⟩) (65 - j) (65 - j)) (dig m :: acc) := by
    refine slBlkAt (f := fun b : UInt8 => .int .u8 (b.toNat : Int)) hw5.blk ?_ ?_ ?_
    ·rw [List.drop_set, if_neg (by omega), Nat.sub_self, List.drop_eq_getElem_cons (by omega), List.set_cons_zero, hcd, List.map_cons]
    ·have := congrArg List.length hcd
     rw [List.length_drop, List.length_map, hcl] at this
     rw [List.length_cons]; omega
    ·have := congrArg List.length hcd
     rw [List.length_drop, List.length_map, hcl] at this
     rw [List.length_cons]; omega
   refine strK (e := 5) (by kernel_rfl) (by kernel_rfl) (by kernel_rfl) hsl ?_
   simp -dsimp only [push_cast, Nat.reduceAdd, Nat.reduceLeDiff, Nat.reduceBEq, decide_true, ne_eq, eq_self, not_true_eq_false, not_false_eq_true, true_imp_iff, false_imp_iff, Int.reduceNe, Int.reduceEq, Int.reduceLT, Int.reduceLE, Bool.not_true, Bool.not_false]
   rw [hh']
   exact ⟨rfl, hbx.trans (hw5.kept.below szx (fun g hg => Nat.le_of_eq (Eq.symm hg)))⟩
theorem fmtInt_c (n : Nat) (hn : n < 4294967296) (w : World) (h : Db w) : Fun Tryz.prog 82 [.int .i64 (n : Int), .int .i64 16] w fun r w' => r = str (hexP n) ∧ Below w.heap.size w w' := by
 refine fun_of_vc Tryz.func82 rfl (by kernel_rfl) [4] rfl ?_
 simp -dsimp (maxSteps := 4000000) only [push_cast, fr0, Tryz.ntmps82, List.length_cons, List.length_nil, Nat.reduceAdd, Nat.reduceSub, Nat.reduceBEq, List.replicate_succ, List.replicate_zero]
 have e1 : IntKind.u64.wrap (n : Int) = (n : Int) := by rw [wrap_u64_nat, Nat.mod_eq_of_lt (by omega)]
 have e2 : decide ((n : Int) < 0) = false := decide_eq_false (by omega)
 simp -dsimp only [push_cast, Nat.reduceAdd, Nat.reduceLeDiff, Nat.reduceBEq, decide_true, ne_eq, eq_self, not_true_eq_false, not_false_eq_true, true_imp_iff, false_imp_iff, Int.reduceNe, Int.reduceEq, Int.reduceLT, Int.reduceLE, Bool.not_true, Bool.not_false, e1, e2]
 refine callK_of (formatBits_c n hn w h) ?_
 rintro _ w1 ⟨rfl, hb⟩
 simp -dsimp only [push_cast, Nat.reduceAdd, Nat.reduceLeDiff, Nat.reduceBEq, decide_true, ne_eq, eq_self, not_true_eq_false, not_false_eq_true, true_imp_iff, false_imp_iff, Int.reduceNe, Int.reduceEq, Int.reduceLT, Int.reduceLE, Bool.not_true, Bool.not_false]
 exact hb
theorem fmtI_c (n : Nat) (hn : n < 4294967296) (w : World) (h : Db w) : Fun Tryz.prog 65 [.int .i64 (n : Int), .int .i64 16] w fun r w' => r = str (hexP n) ∧ Below w.heap.size w w' := by
 refine fun_of_vc Tryz.func65 rfl (by kernel_rfl) [4] rfl ?_
 simp -dsimp (maxSteps := 4000000) only [push_cast, fr0, Tryz.ntmps65, List.length_cons, List.length_nil, Nat.reduceAdd, Nat.reduceSub, Nat.reduceBEq, List.replicate_succ, List.replicate_zero]
 refine callK_of (fmtInt_c n hn w h) ?_
 rintro _ w1 ⟨rfl, hb⟩
 simp -dsimp only [push_cast, Nat.reduceAdd, Nat.reduceLeDiff, Nat.reduceBEq, decide_true, ne_eq, eq_self, not_true_eq_false, not_false_eq_true, true_imp_iff, false_imp_iff, Int.reduceNe, Int.reduceEq, Int.reduceLT, Int.reduceLE, Bool.not_true, Bool.not_false]
 exact hb
theorem hex_c (n : Nat) (hn : n < 4294967296) (w : World) (h : Db w) : Fun Tryz.prog 44 [.int .i64 (n : Int)] w fun r w' => r = str (hexP n) ∧ Below w.heap.size w w' := by
 refine fun_of_vc Tryz.func44 rfl (by kernel_rfl) [2] rfl ?_
 simp -dsimp (maxSteps := 4000000) only [push_cast, fr0, Tryz.ntmps44, List.length_cons, List.length_nil, Nat.reduceAdd, Nat.reduceSub, Nat.reduceBEq, List.replicate_succ, List.replicate_zero]
 refine callK_of (fmtI_c n hn w h) ?_
 rintro _ w1 ⟨rfl, hb⟩
 simp -dsimp only [push_cast, Nat.reduceAdd, Nat.reduceLeDiff, Nat.reduceBEq, decide_true, ne_eq, eq_self, not_true_eq_false, not_false_eq_true, true_imp_iff, false_imp_iff, Int.reduceNe, Int.reduceEq, Int.reduceLT, Int.reduceLE, Bool.not_true, Bool.not_false]
 exact hb
end Go.Proofs.YtgodgfeinjminaaGreatDoor
end
section
namespace Go.Vc
open Go.RowKit
def encS (b : List UInt8) : List Value := [str b]
theorem Sl.strs {X : Nat → Prop} {w : World} {v : Value} {x : List UInt8} {l : List (List UInt8)} (h : Sl X 1 (En encS) w v (x :: l)) : ∃ b o c, v = .slice (some ⟨b, o, none⟩) (x :: l).length c ∧ (x :: l).length ≤ c ∧ b < w.heap.size ∧ ∀ (j : Nat) y, ((x :: l).map fun t : List UInt8 => (⟨t.toArray⟩ : ByteArray))[j]? = some y → w.cell? ⟨b, o + j, none⟩ = some (.string y) := by
 obtain ⟨a, c, rfl, hc, hel⟩ := h
 have h0 := hel 0 x rfl
 obtain ⟨b, o, cs, rfl, hb, hcs, hcell, hr⟩ := h0
 have hall : ∀ (j : Nat) y, ((x :: l).map fun t : List UInt8 => (⟨t.toArray⟩ : ByteArray))[j]? = some y → w.cell? ⟨b, o + j, none⟩ = some (.string y) := by
  intro j y hy
  rw [List.getElem?_map] at hy
  cases hx : (x :: l)[j]? with
  | none => rw [hx] at hy; cases hy
  | some t =>
   rw [hx] at hy
   cases hy
   have h1 := hel j t hx
   obtain ⟨b1, o1, cs1, he, hb1, hcs1, hcell1, hr1⟩ := h1
   cases he
   have := hcell1 0 (str t) (by rw [hr1]; rfl)
   rwa [Nat.mul_one, Nat.add_zero] at this
 exact ⟨b, o, c, rfl, hc, World.block_lt_of_cell? w _ (hall 0 _ rfl), hall⟩
end Go.Vc
namespace Go.Proofs.YtgodgfeinjminaaGreatDoor
open Go.Vc Go.Proofs Go.RowKit Cae
set_option maxRecDepth 100000
set_option linter.unusedSimpArgs false
set_option linter.unusedVariables false
attribute [local irreducible] wpL callK valK unitK runK Fun Sl Vc.Own vc vcOps opK pureK
set_option maxHeartbeats 4000000

def joinR_ren : Go.Shelf.Ren := ⟨fun | 156 => 45 | 165 => 66 | 166 => 67 | 169 => 68 | 240 => 83 | 241 => 84 | 276 => 119 | 277 => 120 | n => n, fun | 31 => 106 | 9 => 9 | 3 => 3 | 4 => 4 | 0 => 0 | 20 => 20 | 72 => 127 | 76 => 128 | 70 => 124 | 37 => 125 | 75 => 33 | 127 => 148 | 164 => 130 | 5 => 5 | 80 => 103 | n => n, fun | n => n⟩
theorem joinR : Go.Proofs.Lays.n156 Tryz.prog joinR_ren := {
 mixed := by kernel_rfl
 f156 := Tryz.func45.trans (congrArg some (by kernel_rfl))
 f165 := Tryz.func66.trans (congrArg some (by kernel_rfl))
 f166 := Tryz.func67.trans (congrArg some (by kernel_rfl))
 f169 := Tryz.func68.trans (congrArg some (by kernel_rfl))
 f240 := Tryz.func83.trans (congrArg some (by kernel_rfl))
 f241 := Tryz.func84.trans (congrArg some (by kernel_rfl))
 f276 := Tryz.func119.trans (congrArg some (by kernel_rfl))
 f277 := Tryz.func120.trans (congrArg some (by kernel_rfl))
 t0 := Tryz.underlying0
 a0 := Tryz.isAgg0
 z0 := Tryz.sizeOf0
 v0 := Tryz.zeroValue0
 t3 := Tryz.underlying3
 a3 := Tryz.isAgg3
 z3 := Tryz.sizeOf3
 v3 := Tryz.zeroValue3
 t4 := Tryz.underlying4
 a4 := Tryz.isAgg4
 z4 := Tryz.sizeOf4
 v4 := Tryz.zeroValue4
 t9 := Tryz.underlying9
 a9 := Tryz.isAgg9
 z9 := Tryz.sizeOf9
 v9 := Tryz.zeroValue9
 t20 := Tryz.underlying20
 a20 := Tryz.isAgg20
 z20 := Tryz.sizeOf20
 v20 := Tryz.zeroValue20
 t31 := Tryz.underlying106
 a31 := Tryz.isAgg106
 z31 := Tryz.sizeOf106
 v31 := Tryz.zeroValue106
 t37 := Tryz.underlying125
 a37 := Tryz.isAgg125
 z37 := Tryz.sizeOf125
 v37 := Tryz.zeroValue125
 t70 := Tryz.underlying124
 a70 := Tryz.isAgg124
 z70 := Tryz.sizeOf124
 v70 := Tryz.zeroValue124
 t72 := Tryz.underlying127
 a72 := Tryz.isAgg127
 z72 := Tryz.sizeOf127
 v72 := Tryz.zeroValue127
 t75 := Tryz.underlying33
 a75 := Tryz.isAgg33
 z75 := Tryz.sizeOf33
 v75 := Tryz.zeroValue33
 t76 := Tryz.underlying128
 a76 := Tryz.isAgg128
 z76 := Tryz.sizeOf128
 v76 := Tryz.zeroValue128
 t127 := Tryz.underlying148
 a127 := Tryz.isAgg148
 z127 := Tryz.sizeOf148
 v127 := Tryz.zeroValue148
 t164 := Tryz.underlying130
 a164 := Tryz.isAgg130
 z164 := Tryz.sizeOf130
 v164 := Tryz.zeroValue130 }

theorem joinX : Builder.Extra Tryz.prog joinR_ren where
 sizeBuilder := by kernel_rfl
 liesBuilder := by kernel_rfl
 t5 := by kernel_rfl
 a5 := fun w => (tyK_one (P := Tryz.prog) (by kernel_rfl) w).1
 z5 := fun w => (tyK_one (P := Tryz.prog) (by kernel_rfl) w).2
 v5 := by intro w; rfl
 infoByte := by kernel_rfl
 cellsByte := by kernel_rfl
 sizeByte := by kernel_rfl
 neB5 := by decide
theorem join_c (l : List (List UInt8)) (sep : List UInt8) (hN : l.length < 1000000000) (hlen : (Lib.join l sep).length ≤ 140737488355328) (X : Nat → Prop) (v : Value) (w : World) (hv : Sl X 1 (En encS) w v l) :
  Fun Tryz.prog 45 [v, str sep] w fun r w' => r = str (Lib.join l sep) ∧ Below w.heap.size w w' := by
 refine fun_of_calls Tryz.func45 (by kernel_rfl) (by kernel_rfl) ?_
 cases l with
 | nil =>
  have hsh := hv.shape
  obtain ⟨a, c, rfl, hc⟩ := hsh
  refine Calls.mono (Any.strings_Join_none joinR joinX a c ⟨sep.toArray⟩ w) ?_
  rintro e w' ⟨rfl, rfl⟩
  exact ⟨_, rfl, rfl, Below.refl _ _⟩
 | cons x l =>
  have hsl := hv.strs
  obtain ⟨b, o, c, rfl, hc, hb, hcell⟩ := hsl
  have e1 : (((x :: l).map fun t : List UInt8 => (⟨t.toArray⟩ : ByteArray)).map (·.data.toList)) = x :: l := by
   rw [List.map_map]
   exact List.map_id' _
  have hj := Any.strings_Join joinR joinX b o c ((x :: l).map fun t : List UInt8 => (⟨t.toArray⟩ : ByteArray)) ⟨sep.toArray⟩ w hcell hb (by rw [List.length_map]; omega) (by rw [List.length_map]; exact hc) (by rw [e1]; exact hlen)
  rw [e1, List.length_map] at hj
  refine Calls.mono hj ?_
  rintro e w' ⟨rfl, hbl⟩
  exact ⟨_, rfl, rfl, hbl⟩
end Go.Proofs.YtgodgfeinjminaaGreatDoor
end
section
namespace Cae
def rgP (r : Rg) : List UInt8 := hexP r.1.toNat ++ (if r.1 < r.2 then 45 :: hexP r.2.toNat else [])
def printP (s : List Rg) : List UInt8 := 91 :: (Go.Lib.join (s.map rgP) [32] ++ [93])
def Wr (s : List Rg) : Prop := ∀ r ∈ s, 0 ≤ r.1 ∧ r.1 < 4294967296 ∧ r.2 < 4294967296
theorem rgP_len (r : Rg) : (rgP r).length ≤ 19 := by
 unfold rgP
 have h1 := hexP_len r.1.toNat
 have h2 := hexP_len r.2.toNat
 split <;> simp <;> omega
theorem joinR_len (s : List Rg) : (Go.Lib.join (s.map rgP) [32]).length ≤ 20 * s.length := by
 cases s with
 | nil => simp [Go.Lib.join_nil]
 | cons r s =>
  rw [List.map_cons, Go.Lib.join_cons, List.length_append, Go.Lib.joinTail_length]
  have h1 := rgP_len r
  have h2 : Go.Lib.lens (s.map rgP) ≤ 19 * s.length := by
   induction s with
   | nil => simp [Go.Lib.lens]
   | cons q s ih =>
    have := rgP_len q
    simp only [Go.Lib.lens, List.map_cons, List.sum_cons, List.length_cons] at ih ⊢
    omega
  simp only [List.length_cons, List.length_nil, List.length_map]
  omega
theorem wr_right : ∀ {s : List Rg} {a : Int}, -2 ≤ a → setRight a s = true → Wr s
 | [], _, _, _ => fun r hr => by cases hr
 | q :: s, a, ha, h => by
  rw [setRight_con] at h
  intro r hr
  rcases List.mem_cons.1 hr with rfl | hr
  ·omega
  ·exact wr_right (by omega) h.2 r hr
end Cae
namespace Go.Proofs.YtgodgfeinjminaaGreatDoor
open Go.Vc Go.Proofs Go.RowKit Cae
set_option maxRecDepth 100000
set_option linter.unusedSimpArgs false
set_option linter.unusedVariables false
attribute [local irreducible] wpL callK valK unitK runK Fun Sl Vc.Own vc vcOps opK pureK
set_option maxHeartbeats 4000000

theorem print_c (s : List Rg) (hs : s.length < 10000000) (hw : Wr s) (X : Nat → Prop) (v : Value) (w : World) (hv : Sl X 2 (En encR) w v s) (h : Db w) :
  Fun Tryz.prog 29 [v] w fun r w' => r = str (printP s) ∧ Below w.heap.size w w' := by
 obtain ⟨a, c, rfl, hc⟩ := hv.shape
 refine fun_of_vc Tryz.func29 rfl (by kernel_rfl) [2] rfl ?_
 simp -dsimp (maxSteps := 4000000) only [push_cast, fr0, Tryz.ntmps29, List.length_cons, List.length_nil, Nat.reduceAdd, Nat.reduceSub, Nat.reduceBEq, List.replicate_succ, List.replicate_zero]
 refine wpL_loop [3, 5, 6, 9, 10, 11, 12, 13, 14, 15, 16, 17, 18, 19, 20, 21, 22, 23, 24, 25, 26, 27, 28, 29, 30, 31] (fun z wx => ∃ (i : Nat) (ov : Value), z 9 = .int .i64 i ∧ z 3 = ov ∧ i ≤ s.length ∧ Vc.Own w.heap.size 9 1 encS wx ov ((s.take i).map rgP) ∧ Below w.heap.size w wx) (fun z _ => s.length - (intOf (z 9)).toNat) ?_ ?_
 ·exact ⟨0, _, rfl, rfl, Nat.zero_le _, Vc.Own.nil (enc := encS) _ _ (fun _ => rfl) _, Below.refl _ _⟩
 ·intro z wx hI
  obtain ⟨i, ov, h9, h3, hi, hox, hbx⟩ := hI
  have szx := hbx.size
  simp -dsimp only [push_cast, Nat.reduceAdd, Nat.reduceLeDiff, Nat.reduceBEq, decide_true, ne_eq, eq_self, not_true_eq_false, not_false_eq_true, true_imp_iff, false_imp_iff, Int.reduceNe, Int.reduceEq, Int.reduceLT, Int.reduceLE, Bool.not_true, Bool.not_false, h9, h3]
  refine ⟨fun hlt => ?_, fun hge => ?_⟩
  ·have hg := lt_get (l := s) (i := i) (by omega)
   obtain ⟨x, hx, hxm, _, ht⟩ := hg
   have hsx := hv.below hbx
   have hg := hsx.get hx
   obtain ⟨b, o, rfl, hnb, hcell⟩ := hg
   have cx : cellsAt wx ⟨b, o + i * 2, none⟩ 0 2 = some [.int .i64 x.1, .int .i64 x.2] := cellsAt_of (encR x) 0 (fun j u hu => by simpa using hcell j u hu)
   have hxw := hw x hxm
   obtain ⟨x1, x2, x3⟩ := hxw
   have est : (s.take (i + 1)).map rgP = (s.take i).map rgP ++ [rgP x] := by
    rw [ht, List.map_append]; rfl
   have hgn : ∃ n : Nat, x.1 = n := ⟨x.1.toNat, by omega⟩
   obtain ⟨n, hn⟩ := hgn
   rw [hn] at cx
   simp -dsimp only [push_cast, Nat.reduceAdd, Nat.reduceLeDiff, Nat.reduceBEq, decide_true, ne_eq, eq_self, not_true_eq_false, not_false_eq_true, true_imp_iff, false_imp_iff, Int.reduceNe, Int.reduceEq, Int.reduceLT, Int.reduceLE, Bool.not_true, Bool.not_false, cx]
   refine ⟨⟨by omega, by omega⟩, ?_⟩
   refine allocK (z := [.int .i64 0, .int .i64 0]) (by kernel_rfl) ?_
   intro w3 hw3
   have sz3 := hw3.size
   simp -dsimp only [push_cast, Nat.reduceAdd, Nat.reduceLeDiff, Nat.reduceBEq, decide_true]
   refine storeAgg (n := 2) (by kernel_rfl) hw3.blk rfl (by simp) (by simp [Value.oneCell']) ?_
   intro w4 hw4
   have sz4 := hw4.size
   have c0 : w4.cell? ⟨wx.heap.size, 0, none⟩ = some (.int .i64 (n : Int)) := hw4.blk.cell rfl
   have c1 : w4.cell? ⟨wx.heap.size, 1, none⟩ = some (.int .i64 x.2) := hw4.blk.cell rfl
   simp -dsimp only [push_cast, Nat.reduceAdd, Nat.reduceLeDiff, Nat.reduceBEq, decide_true, ne_eq, eq_self, not_true_eq_false, not_false_eq_true, true_imp_iff, false_imp_iff, Int.reduceNe, Int.reduceEq, Int.reduceLT, Int.reduceLE, Bool.not_true, Bool.not_false, c0, c1]
   have k4 : Kept (fun j => j = wx.heap.size) wx w4 := (Kept.new hw3).trans hw4.kept (fun _ _ h => h)
   have ho4 := hox.keptX k4 (fun g hg h => by have := hox.block g hg; omega)
   have hb4 : Below w.heap.size w w4 := hbx.trans (k4.below szx (fun _ h => by omega))
   have hsh := ho4.slice
   obtain ⟨oa, oc, rfl⟩ := hsh
   refine callK_of (hex_c n (by omega) w4 (h.below hb4 h.lt)) ?_
   rintro _ w5 ⟨rfl, hb5⟩
   have sz5 := hb5.size
   have ho5 := ho4.below hb5
   have hB5 := hb4.trans (hb5.mono (show w.heap.size ≤ w4.heap.size by omega))
   have c5 : w5.cell? ⟨wx.heap.size, 0, none⟩ = some (.int .i64 (n : Int)) := (hb5.cell (by show wx.heap.size < w4.heap.size; omega)).trans c0
   have c5' : w5.cell? ⟨wx.heap.size, 1, none⟩ = some (.int .i64 x.2) := (hb5.cell (by show wx.heap.size < w4.heap.size; omega)).trans c1
   simp -dsimp only [push_cast, Nat.reduceAdd, Nat.reduceLeDiff, Nat.reduceBEq, decide_true, ne_eq, eq_self, not_true_eq_false, not_false_eq_true, true_imp_iff, false_imp_iff, Int.reduceNe, Int.reduceEq, Int.reduceLT, Int.reduceLE, Bool.not_true, Bool.not_false, c5, c5']
   refine ⟨fun hgt => ?_, fun hle => ?_⟩
   ·have hgm : ∃ m : Nat, x.2 = m := ⟨x.2.toNat, by omega⟩
    obtain ⟨m, hm⟩ := hgm
    have hrg : rgP x = hexP n ++ 45 :: hexP m := by unfold rgP; rw [if_pos (by omega), hn, hm]; rfl
    rw [hm] at c5'
    rw [hm]
    refine callK_of (hex_c m (by omega) w5 (h.below hB5 h.lt)) ?_
    rintro _ w6 ⟨rfl, hb6⟩
    have sz6 := hb6.size
    have ho6 := ho5.below hb6
    have hB6 := hB5.trans (hb6.mono (show w.heap.size ≤ w5.heap.size by omega))
    have hl1 := hexP_len n
    have hl2 := hexP_len m
    simp -dsimp only [push_cast, Nat.reduceAdd, Nat.reduceLeDiff, Nat.reduceBEq, decide_true, ne_eq, eq_self, not_true_eq_false, not_false_eq_true, true_imp_iff, false_imp_iff, Int.reduceNe, Int.reduceEq, Int.reduceLT, Int.reduceLE, Bool.not_true, Bool.not_false]
    refine ⟨by omega, by simp only [List.length_append, List.length_cons, List.length_nil]; omega, ?_⟩
    refine rowK elI_106 rfl rfl (by omega) ?_
    intro w7 hw7
    have sz7 : w7.heap.size = w6.heap.size + 1 := hw7.size
    have ho7 := ho6.new hw7
    simp -dsimp only [push_cast, Nat.reduceAdd, Nat.reduceLeDiff, Nat.reduceBEq, decide_true, ne_eq, eq_self, not_true_eq_false, not_false_eq_true, true_imp_iff, false_imp_iff, Int.reduceNe, Int.reduceEq, Int.reduceLT, Int.reduceLE, Bool.not_true, Bool.not_false]
    refine appendK2 (base := w.heap.size) [rgP x] (enc := encS) elI_106 ho7 (by rfl) (fun j u hu => by rw [hrg] at hu; rw [Nat.zero_add]; exact hw7.cell hu) (by simp [encS, str, Value.oneCell']) (by simp only [List.length_cons, List.length_nil, List.length_map, List.length_take]; omega) (by omega) ?_
    intro v8 w8 ho8 hg8 hn8
    have hb8 : Below w.heap.size w w8 := (hB6.trans (hw7.below.mono (by omega))).trans ((Kept.grown (X := fun j => w.heap.size ≤ j) hg8 (fun k hk => (ho7.block k hk).1)).below (by omega) (fun _ h => h))
    rw [← est] at ho8
    simp -dsimp only [push_cast, Nat.reduceAdd, Nat.reduceLeDiff, Nat.reduceBEq, decide_true, ne_eq, eq_self, not_true_eq_false, not_false_eq_true, true_imp_iff, false_imp_iff, Int.reduceNe, Int.reduceEq, Int.reduceLT, Int.reduceLE, Bool.not_true, Bool.not_false]
    exact ⟨⟨by omega, by omega⟩, ⟨i + 1, _, rfl, rfl, by omega, ho8, hb8⟩, by rw [h9]; simp only [intOf]; omega⟩
   ·have hrg : rgP x = hexP n := by unfold rgP; rw [if_neg (by omega), hn]; exact List.append_nil _
    refine rowK elI_106 rfl rfl (by omega) ?_
    intro w7 hw7
    have sz7 : w7.heap.size = w5.heap.size + 1 := hw7.size
    have ho7 := ho5.new hw7
    simp -dsimp only [push_cast, Nat.reduceAdd, Nat.reduceLeDiff, Nat.reduceBEq, decide_true, ne_eq, eq_self, not_true_eq_false, not_false_eq_true, true_imp_iff, false_imp_iff, Int.reduceNe, Int.reduceEq, Int.reduceLT, Int.reduceLE, Bool.not_true, Bool.not_false]
    refine appendK2 (base := w.heap.size) [rgP x] (enc := encS) elI_106 ho7 (by rfl) (fun j u hu => by rw [hrg] at hu; rw [Nat.zero_add]; exact hw7.cell hu) (by simp [encS, str, Value.oneCell']) (by simp only [List.length_cons, List.length_nil, List.length_map, List.length_take]; omega) (by omega) ?_
    intro v8 w8 ho8 hg8 hn8
    have hb8 : Below w.heap.size w w8 := (hB5.trans (hw7.below.mono (by omega))).trans ((Kept.grown (X := fun j => w.heap.size ≤ j) hg8 (fun k hk => (ho7.block k hk).1)).below (by omega) (fun _ h => h))
    rw [← est] at ho8
    simp -dsimp only [push_cast, Nat.reduceAdd, Nat.reduceLeDiff, Nat.reduceBEq, decide_true, ne_eq, eq_self, not_true_eq_false, not_false_eq_true, true_imp_iff, false_imp_iff, Int.reduceNe, Int.reduceEq, Int.reduceLT, Int.reduceLE, Bool.not_true, Bool.not_false]
    exact ⟨⟨by omega, by omega⟩, ⟨i + 1, _, rfl, rfl, by omega, ho8, hb8⟩, by rw [h9]; simp only [intOf]; omega⟩
  ·have hin : i = s.length := by omega
   subst hin
   rw [List.take_length] at hox
   have hjl := joinR_len s
   refine callK_of (join_c (s.map rgP) [32] (by rw [List.length_map]; omega) (by omega) _ _ wx hox.sl) ?_
   rintro _ w6 ⟨rfl, hb6⟩
   have hB6 := hbx.trans (hb6.mono szx)
   simp -dsimp only [push_cast, Nat.reduceAdd, Nat.reduceLeDiff, Nat.reduceBEq, decide_true, ne_eq, eq_self, not_true_eq_false, not_false_eq_true, true_imp_iff, false_imp_iff, Int.reduceNe, Int.reduceEq, Int.reduceLT, Int.reduceLE, Bool.not_true, Bool.not_false]
   refine ⟨by omega, by simp only [List.length_append, List.length_cons, List.length_nil]; omega, ?_, hB6⟩
   rfl
end Go.Proofs.YtgodgfeinjminaaGreatDoor
end
section
namespace Cae
def cutP (c : UInt8) (s : List UInt8) : List UInt8 × List UInt8 × Bool := if s.contains c then (s.takeWhile (· != c), (s.dropWhile (· != c)).drop 1, true) else (s, [], false)
def splitB (c : UInt8) : List UInt8 → List (List UInt8)
 | [] => [[]]
 | b :: r => if b == c then [] :: splitB c r else match splitB c r with
  | [] => [[b]]
  | p :: ps => (b :: p) :: ps
theorem ib_spec (c : UInt8) : ∀ s : List UInt8, Go.Lib.indexByte s c = if s.contains c then ((s.takeWhile (· != c)).length : Int) else -1
 | [] => rfl
 | b :: r => by
  rw [Go.Lib.indexByte, List.contains_cons, ib_spec c r, List.takeWhile_cons]
  by_cases h : b = c
  ·subst h; simp
  ·have h1 : (b == c) = false := by simpa using h
   have h2 : (c == b) = false := by simpa using (fun e => h e.symm : ¬ c = b)
   have h3 : (b != c) = true := by simp [h]
   rw [h1, h2, h3, Bool.false_or]
   cases hc : r.contains c with
   | true =>
    have : ¬ ((((r.takeWhile (· != c)).length : Nat) : Int) == -1) = true := by simp
    simp only [if_true, if_neg this, Bool.false_eq_true, if_false, List.length_cons]
    omega
   | false => simp
theorem take_tw (p : UInt8 → Bool) : ∀ s : List UInt8, s.take (s.takeWhile p).length = s.takeWhile p
 | [] => rfl
 | b :: r => by
  rw [List.takeWhile_cons]
  split
  ·rw [List.length_cons, List.take_succ_cons, take_tw p r]
  ·rfl
theorem drop_tw (p : UInt8 → Bool) : ∀ s : List UInt8, s.drop (s.takeWhile p).length = s.dropWhile p
 | [] => rfl
 | b :: r => by
  rw [List.takeWhile_cons, List.dropWhile_cons]
  split
  ·rw [List.length_cons, List.drop_succ_cons, drop_tw p r]
  ·rfl
theorem tw_lt {c : UInt8} : ∀ {s : List UInt8}, s.contains c = true → (s.takeWhile (· != c)).length < s.length
 | [], h => by cases h
 | b :: r, h => by
  rw [List.takeWhile_cons]
  split
  ·rename_i hb
   have : r.contains c = true := by
    rw [List.contains_cons, Bool.or_eq_true] at h
    rcases h with h | h
    ·have : c = b := by simpa using h
     subst this; simp at hb
    ·exact h
   have := tw_lt this
   simp only [List.length_cons]; omega
  ·simp
theorem tw_all {c : UInt8} : ∀ {s : List UInt8}, s.contains c = false → s.takeWhile (· != c) = s
 | [], _ => rfl
 | b :: r, h => by
  rw [List.contains_cons, Bool.or_eq_false_iff] at h
  have h1 : (b != c) = true := by have := h.1; simp at this; simp; exact fun e => this e.symm
  rw [List.takeWhile_cons, if_pos h1, tw_all h.2]
theorem dropWhile_len (p : UInt8 → Bool) : ∀ s : List UInt8, (s.dropWhile p).length ≤ s.length
 | [] => Nat.le_refl _
 | b :: r => by
  have := dropWhile_len p r
  rw [List.dropWhile_cons]
  split <;> simp <;> omega
theorem cutP_len (c : UInt8) (s : List UInt8) : (cutP c s).1.length ≤ s.length ∧ (cutP c s).2.1.length ≤ s.length := by
 unfold cutP
 split
 ·rename_i h
  have h1 := tw_lt h
  have h2 := dropWhile_len (· != c) s
  refine ⟨by show (s.takeWhile (· != c)).length ≤ _; omega, ?_⟩
  show ((s.dropWhile (· != c)).drop 1).length ≤ _
  rw [List.length_drop]; omega
 ·simp
theorem splitB_ne (c : UInt8) : ∀ s, splitB c s ≠ []
 | [] => by simp [splitB]
 | b :: r => by
  rw [splitB]
  split
  ·simp
  ·split <;> simp
theorem splitB_eq (c : UInt8) : ∀ s : List UInt8, splitB c s = s.takeWhile (· != c) :: (if s.contains c then splitB c ((s.dropWhile (· != c)).drop 1) else [])
 | [] => rfl
 | b :: r => by
  rw [splitB, List.takeWhile_cons, List.dropWhile_cons, List.contains_cons]
  by_cases h : b = c
  ·subst h; simp
  ·have h1 : (b == c) = false := by simpa using h
   have h2 : (c == b) = false := by simpa using fun e => h e.symm
   have h3 : (b != c) = true := by simp [h]
   rw [h1, h2, h3, Bool.false_or, splitB_eq c r]
   rfl
theorem splitB_len (c : UInt8) : ∀ s : List UInt8, (splitB c s).length ≤ s.length + 1
 | [] => by simp [splitB]
 | b :: r => by
  have h := splitB_len c r
  rw [splitB]
  split
  ·simp; omega
  ·cases hs : splitB c r with
   | nil => simp
   | cons p ps => rw [hs] at h; simp at h ⊢; omega
theorem splitB_mem (c : UInt8) : ∀ (s p : List UInt8), p ∈ splitB c s → p.length ≤ s.length
 | [], p, h => by simp [splitB] at h; subst h; simp
 | b :: r, p, h => by
  rw [splitB] at h
  split at h
  ·rcases List.mem_cons.1 h with rfl | h
   ·simp
   ·have := splitB_mem c r p h
    simp; omega
  ·cases hs : splitB c r with
   | nil => exact absurd hs (splitB_ne c r)
   | cons q qs =>
    rw [hs] at h
    rcases List.mem_cons.1 h with rfl | h
    ·have := splitB_mem c r q (by rw [hs]; simp)
     simp; omega
    ·have := splitB_mem c r p (by rw [hs]; simp [h])
     simp; omega
end Cae
namespace Go.Proofs.YtgodgfeinjminaaGreatDoor
open Go.Vc Go.Proofs Go.RowKit Cae
set_option maxRecDepth 100000
set_option linter.unusedSimpArgs false
set_option linter.unusedVariables false
attribute [local irreducible] wpL callK valK unitK runK Fun Sl Vc.Own vc vcOps opK pureK
set_option maxHeartbeats 4000000

def indexR_ren : Go.Shelf.Ren := ⟨fun | 143 => 152 | 219 => 153 | 217 => 78 | 225 => 166 | 224 => 167 | 267 => 168 | 266 => 106 | 314 => 175 | n => n, fun | 9 => 9 | 3 => 3 | 4 => 4 | 5 => 5 | 46 => 85 | 146 => 246 | 51 => 181 | n => n, fun | 1 => 2 | n => n⟩
theorem indexR : Go.Proofs.Lays.n143 Tryz.prog indexR_ren := {
 mixed := by kernel_rfl
 f143 := Tryz.func152.trans (congrArg some (by kernel_rfl))
 f217 := Tryz.func78.trans (congrArg some (by kernel_rfl))
 f219 := Tryz.func153.trans (congrArg some (by kernel_rfl))
 f224 := Tryz.func167.trans (congrArg some (by kernel_rfl))
 f225 := Tryz.func166.trans (congrArg some (by kernel_rfl))
 f266 := Tryz.func106.trans (congrArg some (by kernel_rfl))
 f267 := Tryz.func168.trans (congrArg some (by kernel_rfl))
 f314 := Tryz.func175.trans (congrArg some (by kernel_rfl))
 t3 := Tryz.underlying3
 a3 := Tryz.isAgg3
 z3 := Tryz.sizeOf3
 v3 := Tryz.zeroValue3
 t4 := Tryz.underlying4
 a4 := Tryz.isAgg4
 z4 := Tryz.sizeOf4
 v4 := Tryz.zeroValue4
 t5 := Tryz.underlying5
 a5 := Tryz.isAgg5
 z5 := Tryz.sizeOf5
 v5 := Tryz.zeroValue5
 t9 := Tryz.underlying9
 a9 := Tryz.isAgg9
 z9 := Tryz.sizeOf9
 v9 := Tryz.zeroValue9
 t46 := Tryz.underlying85
 a46 := Tryz.isAgg85
 z46 := Tryz.sizeOf85
 v46 := Tryz.zeroValue85
 t51 := Tryz.underlying181
 a51 := Tryz.isAgg181
 z51 := Tryz.sizeOf181
 v51 := Tryz.zeroValue181
 t146 := Tryz.underlying246
 a146 := Tryz.isAgg246
 z146 := Tryz.sizeOf246
 v146 := Tryz.zeroValue246
 g1 := by kernel_rfl }

def indexLR_ren : Go.Shelf.Ren := ⟨fun | 219 => 153 | 217 => 78 | 225 => 166 | 224 => 167 | 267 => 168 | 266 => 106 | 314 => 175 | n => n, fun | 9 => 9 | 3 => 3 | 4 => 4 | 5 => 5 | 46 => 85 | 146 => 246 | 51 => 181 | n => n, fun | 1 => 2 | n => n⟩
theorem indexLR : Go.Proofs.Lays.n219 Tryz.prog indexLR_ren := {
 mixed := by kernel_rfl
 f217 := Tryz.func78.trans (congrArg some (by kernel_rfl))
 f219 := Tryz.func153.trans (congrArg some (by kernel_rfl))
 f224 := Tryz.func167.trans (congrArg some (by kernel_rfl))
 f225 := Tryz.func166.trans (congrArg some (by kernel_rfl))
 f266 := Tryz.func106.trans (congrArg some (by kernel_rfl))
 f267 := Tryz.func168.trans (congrArg some (by kernel_rfl))
 f314 := Tryz.func175.trans (congrArg some (by kernel_rfl))
 t3 := Tryz.underlying3
 a3 := Tryz.isAgg3
 z3 := Tryz.sizeOf3
 v3 := Tryz.zeroValue3
 t4 := Tryz.underlying4
 a4 := Tryz.isAgg4
 z4 := Tryz.sizeOf4
 v4 := Tryz.zeroValue4
 t5 := Tryz.underlying5
 a5 := Tryz.isAgg5
 z5 := Tryz.sizeOf5
 v5 := Tryz.zeroValue5
 t9 := Tryz.underlying9
 a9 := Tryz.isAgg9
 z9 := Tryz.sizeOf9
 v9 := Tryz.zeroValue9
 t46 := Tryz.underlying85
 a46 := Tryz.isAgg85
 z46 := Tryz.sizeOf85
 v46 := Tryz.zeroValue85
 t51 := Tryz.underlying181
 a51 := Tryz.isAgg181
 z51 := Tryz.sizeOf181
 v51 := Tryz.zeroValue181
 t146 := Tryz.underlying246
 a146 := Tryz.isAgg246
 z146 := Tryz.sizeOf246
 v146 := Tryz.zeroValue246
 g1 := by kernel_rfl }

def cutPreR_ren : Go.Shelf.Ren := ⟨fun | 103 => 107 | 210 => 128 | 206 => 148 | n => n, fun | 9 => 9 | 4 => 4 | 24 => 185 | 3 => 3 | n => n, fun | n => n⟩
theorem cutPreR : Go.Proofs.Lays.n103 Tryz.prog cutPreR_ren := {
 mixed := by kernel_rfl
 f103 := Tryz.func107.trans (congrArg some (by kernel_rfl))
 f206 := Tryz.func148.trans (congrArg some (by kernel_rfl))
 f210 := Tryz.func128.trans (congrArg some (by kernel_rfl))
 t3 := Tryz.underlying3
 a3 := Tryz.isAgg3
 z3 := Tryz.sizeOf3
 v3 := Tryz.zeroValue3
 t4 := Tryz.underlying4
 a4 := Tryz.isAgg4
 z4 := Tryz.sizeOf4
 v4 := Tryz.zeroValue4
 t9 := Tryz.underlying9
 a9 := Tryz.isAgg9
 z9 := Tryz.sizeOf9
 v9 := Tryz.zeroValue9
 t24 := Tryz.underlying185
 a24 := Tryz.isAgg185
 z24 := Tryz.sizeOf185
 v24 := Tryz.zeroValue185 }

def cutSufR_ren : Go.Shelf.Ren := ⟨fun | 104 => 108 | 211 => 129 | 207 => 149 | n => n, fun | 9 => 9 | 4 => 4 | 24 => 185 | 3 => 3 | n => n, fun | n => n⟩
theorem cutSufR : Go.Proofs.Lays.n104 Tryz.prog cutSufR_ren := {
 mixed := by kernel_rfl
 f104 := Tryz.func108.trans (congrArg some (by kernel_rfl))
 f207 := Tryz.func149.trans (congrArg some (by kernel_rfl))
 f211 := Tryz.func129.trans (congrArg some (by kernel_rfl))
 t3 := Tryz.underlying3
 a3 := Tryz.isAgg3
 z3 := Tryz.sizeOf3
 v3 := Tryz.zeroValue3
 t4 := Tryz.underlying4
 a4 := Tryz.isAgg4
 z4 := Tryz.sizeOf4
 v4 := Tryz.zeroValue4
 t9 := Tryz.underlying9
 a9 := Tryz.isAgg9
 z9 := Tryz.sizeOf9
 v9 := Tryz.zeroValue9
 t24 := Tryz.underlying185
 a24 := Tryz.isAgg185
 z24 := Tryz.sizeOf185
 v24 := Tryz.zeroValue185 }

theorem index_s (s : List UInt8) (c : UInt8) (w : World) : Fun Tryz.prog 152 [str s, str [c]] w fun r w' => r = .int .i64 (Lib.indexByte s c) ∧ w' = w := by
 refine fun_of_calls Tryz.func152 (by kernel_rfl) (by kernel_rfl) ?_
 refine Calls.mono (Any.strings_Index_one indexR ⟨s.toArray⟩ c w) ?_
 rintro e w' ⟨rfl, rfl⟩
 exact ⟨_, rfl, rfl, rfl⟩
theorem index_l (s : List UInt8) (c : UInt8) (w : World) : Fun Tryz.prog 153 [str s, str [c]] w fun r w' => r = .int .i64 (Lib.indexByte s c) ∧ w' = w := by
 refine fun_of_calls Tryz.func153 (by kernel_rfl) (by kernel_rfl) ?_
 refine Calls.mono (Any.stringslite_Index_one indexLR ⟨s.toArray⟩ c w) ?_
 rintro e w' ⟨rfl, rfl⟩
 exact ⟨_, rfl, rfl, rfl⟩
theorem cutPre_c (s p : List UInt8) (w : World) : Fun Tryz.prog 107 [str s, str p] w fun r w' => r = .tuple #[str (Lib.trimPrefix s p), .bool (Lib.hasPrefix s p)] ∧ w' = w := by
 refine fun_of_calls Tryz.func107 (by kernel_rfl) (by kernel_rfl) ?_
 refine Calls.mono (Any.strings_CutPrefix cutPreR ⟨s.toArray⟩ ⟨p.toArray⟩ w) ?_
 rintro e w' ⟨rfl, rfl⟩
 exact ⟨_, rfl, rfl, rfl⟩
theorem cutSuf_c (s p : List UInt8) (hs : s.length ≤ 9223372036854775807) (w : World) : Fun Tryz.prog 108 [str s, str p] w fun r w' => r = .tuple #[str (Lib.trimSuffix s p), .bool (Lib.hasSuffix s p)] ∧ w' = w := by
 refine fun_of_calls Tryz.func108 (by kernel_rfl) (by kernel_rfl) ?_
 refine Calls.mono (Any.strings_CutSuffix cutSufR ⟨s.toArray⟩ ⟨p.toArray⟩ w hs) ?_
 rintro e w' ⟨rfl, rfl⟩
 exact ⟨_, rfl, rfl, rfl⟩
theorem cut_l (s : List UInt8) (c : UInt8) (hs : s.length ≤ 1000000000) (w : World) : Fun Tryz.prog 131 [str s, str [c]] w fun r w' => r = .tuple #[str (cutP c s).1, str (cutP c s).2.1, .bool (cutP c s).2.2] ∧ Below w.heap.size w w' := by
 refine fun_of_vc Tryz.func131 rfl (by kernel_rfl) [4, 5, 6] rfl ?_
 simp -dsimp (maxSteps := 4000000) only [push_cast, fr0, Tryz.ntmps131, List.length_cons, List.length_nil, Nat.reduceAdd, Nat.reduceSub, Nat.reduceBEq, List.replicate_succ, List.replicate_zero]
 refine callK_of (index_l s c w) ?_
 rintro _ w1 ⟨rfl, rfl⟩
 rw [ib_spec]
 unfold cutP
 cases hc : s.contains c with
 | false =>
  simp only [Bool.false_eq_true, if_false]
  simp -dsimp only [push_cast, Nat.reduceAdd, Nat.reduceLeDiff, Nat.reduceBEq, decide_true, ne_eq, eq_self, not_true_eq_false, not_false_eq_true, true_imp_iff, false_imp_iff, Int.reduceNe, Int.reduceEq, Int.reduceLT, Int.reduceLE, Bool.not_true, Bool.not_false]
  refine ⟨rfl, Below.refl _ _⟩
 | true =>
  simp only [if_true]
  have hlt := tw_lt hc
  have hg : ∃ k, (s.takeWhile (· != c)).length = k := ⟨_, rfl⟩
  obtain ⟨k, hk⟩ := hg
  have h1 : s.takeWhile (· != c) = s.take k := by rw [← hk]; exact (take_tw _ s).symm
  have h2 : (s.dropWhile (· != c)).drop 1 = s.drop (k + 1) := by rw [← drop_tw, List.drop_drop, hk]
  rw [h1, h2]
  rw [hk] at hlt
  have h3 : (s.take k).length = k := by rw [List.length_take]; omega
  rw [h3]
  have hge : decide ((k : Int) ≥ 0) = true := decide_eq_true (by omega)
  simp -dsimp only [push_cast, Nat.reduceAdd, Nat.reduceLeDiff, Nat.reduceBEq, decide_true, ne_eq, eq_self, not_true_eq_false, not_false_eq_true, true_imp_iff, false_imp_iff, Int.reduceNe, Int.reduceEq, Int.reduceLT, Int.reduceLE, Bool.not_true, Bool.not_false, hge]
  refine wpL_draw (fun _ => True) mixed (by kernel_rfl) trivial ?_
  simp -dsimp only [push_cast, Nat.reduceAdd, Nat.reduceLeDiff, Nat.reduceBEq, decide_true, ne_eq, eq_self, not_true_eq_false, not_false_eq_true, true_imp_iff, false_imp_iff, Int.reduceNe, Int.reduceEq, Int.reduceLT, Int.reduceLE, Bool.not_true, Bool.not_false]
  refine ⟨by omega, by omega, by omega, ?_, (Below.refl _ _).drew⟩
  rw [show ((k : Int) + (0 + 1)).toNat = k + 1 by omega]
theorem cut_c (s : List UInt8) (c : UInt8) (hs : s.length ≤ 1000000000) (w : World) : Fun Tryz.prog 110 [str s, str [c]] w fun r w' => r = .tuple #[str (cutP c s).1, str (cutP c s).2.1, .bool (cutP c s).2.2] ∧ Below w.heap.size w w' := by
 refine fun_of_vc Tryz.func110 rfl (by kernel_rfl) [4, 5, 6] rfl ?_
 simp -dsimp (maxSteps := 4000000) only [push_cast, fr0, Tryz.ntmps110, List.length_cons, List.length_nil, Nat.reduceAdd, Nat.reduceSub, Nat.reduceBEq, List.replicate_succ, List.replicate_zero]
 refine callK_of (cut_l s c hs w) ?_
 rintro _ w1 ⟨rfl, hb⟩
 simp -dsimp only [push_cast, Nat.reduceAdd, Nat.reduceLeDiff, Nat.reduceBEq, decide_true, ne_eq, eq_self, not_true_eq_false, not_false_eq_true, true_imp_iff, false_imp_iff, Int.reduceNe, Int.reduceEq, Int.reduceLT, Int.reduceLE, Bool.not_true, Bool.not_false]
 exact hb
end Go.Proofs.YtgodgfeinjminaaGreatDoor
end
section
set_option linter.unusedSimpArgs false
set_option linter.unusedVariables false
namespace Go.Vc
open Go.RowKit
def Byt (w : World) (b : Nat) (e : TypeId) (l : List UInt8) : Prop :=
 ∃ (cs : Array Value) (n : Nat), w.heap[b]? = some (.cells cs e (n, n + 1)) ∧ cs.size ≤ n ∧ ∀ (j : Nat) (c : UInt8), l[j]? = some c → cs[j]? = some (Value.int IntKind.u8 (c.toNat : Int))

theorem Byt.cell {w : World} {b : Nat} {e : TypeId} {l : List UInt8} (h : Byt w b e l) {j : Nat} {c : UInt8} (hc : l[j]? = some c) : w.cell? ⟨b, j, none⟩ = some (.int .u8 (c.toNat : Int)) := by
 obtain ⟨cs, n, h, _, hh⟩ := h
 simp [World.cell?, h, hh j c hc]
theorem bytesK {P : Program} {s d e : TypeId} {l : List UInt8} {t : Fr} {w : World} {K : VK} {Q : EP} {p} (hs : P.underlying s = some .string) (hd : P.underlying d = some (.slice e)) (he : P.underlying e = some (.int .u8))
  (kk : ∀ c w', l.length ≤ c → Byt w' w.heap.size e l → Below w.heap.size w w' → K (.slice (some ⟨w.heap.size, 0, none⟩) l.length c) w') : valK P (convert s d (str l)) t w K Q p := by
 have hr := run_bytes_of_string (P := P) w s d e ⟨l.toArray⟩ hs hd he
 have hsz : ByteArray.size ⟨l.toArray⟩ = l.length := by simp [ByteArray.size]
 refine valK_of hr ?_
 rw [hsz]
 refine kk _ _ (grownCap_ge _ _ _ _) ⟨bytesRow ⟨l.toArray⟩ (grownCap w l.length 0 e), (bytesRow ⟨l.toArray⟩ (grownCap w l.length 0 e)).size, ?_, Nat.le_refl _, fun j c hj => ?_⟩ ((Below.refl w.heap.size w).drew.alloc (Nat.le_refl _) _)
 ·exact heap_alloc_new w.drew _
 ·have hlt := (List.getElem?_eq_some_iff.1 hj).1
  have := bytesRow_at ⟨l.toArray⟩ (grownCap w l.length 0 e) j (by simpa using hlt)
  rw [this]
  have : l[j]? = some l[j] := List.getElem?_eq_getElem hlt
  rw [this] at hj
  cases hj
  simp
end Go.Vc
end
section
namespace Cae
def dv (b : UInt8) : Nat := if b.toNat ≤ 57 then b.toNat - 48 else b.toNat - 87
def isHex (b : UInt8) : Bool := (decide (48 ≤ b.toNat) && decide (b.toNat ≤ 57)) || (decide (97 ≤ b.toNat) && decide (b.toNat ≤ 102))
def hexV (l : List UInt8) : Nat := l.foldl (fun m b => 16 * m + dv b) 0
theorem dig_hex : ∀ d : Nat, d < 16 → isHex (dig d) = true ∧ dv (dig d) = d := by decide
theorem hexF_all : ∀ (f n : Nat) (acc : List UInt8), n < 16 ^ (f + 1) → (∀ b ∈ acc, isHex b = true) → ∀ b ∈ hexF f n acc, isHex b = true
 | 0, n, acc, hn, h => by
  rw [hexF]
  intro b hb
  rcases List.mem_cons.1 hb with rfl | hb
  ·exact (dig_hex n (by omega)).1
  ·exact h b hb
 | f + 1, n, acc, hn, h => by
  rw [hexF]
  split
  ·intro b hb
   rcases List.mem_cons.1 hb with rfl | hb
   ·exact (dig_hex n (by omega)).1
   ·exact h b hb
  ·refine hexF_all f (n / 16) _ (Nat.div_lt_of_lt_mul (by rw [Nat.mul_comm, ← Nat.pow_succ]; exact hn)) ?_
   intro b hb
   rcases List.mem_cons.1 hb with rfl | hb
   ·exact (dig_hex (n % 16) (by omega)).1
   ·exact h b hb
theorem foldl_hex (l : List UInt8) : ∀ m : Nat, l.foldl (fun m b => 16 * m + dv b) m = 16 ^ l.length * m + hexV l := by
 unfold hexV
 induction l with
 | nil => intro m; simp
 | cons b l ih =>
  intro m
  rw [List.foldl_cons, List.foldl_cons, ih, ih (16 * 0 + dv b), List.length_cons, Nat.pow_succ, Nat.mul_add]
  have : 16 ^ l.length * (16 * m) = 16 ^ l.length * 16 * m := by rw [Nat.mul_assoc]
  rw [this]
  simp
  omega
theorem hexV_cons (b : UInt8) (l : List UInt8) : hexV (b :: l) = 16 ^ l.length * dv b + hexV l := by
 have := foldl_hex l (16 * 0 + dv b)
 unfold hexV at this ⊢
 rw [List.foldl_cons, this]
 simp
theorem hexF_val : ∀ (f n : Nat) (acc : List UInt8), n < 16 ^ (f + 1) → hexV (hexF f n acc) = 16 ^ acc.length * n + hexV acc
 | 0, n, acc, hn => by rw [hexF, hexV_cons, (dig_hex n (by omega)).2]
 | f + 1, n, acc, hn => by
  rw [hexF]
  split
  ·rw [hexV_cons, (dig_hex n (by omega)).2]
  ·rw [hexF_val f (n / 16) _ (Nat.div_lt_of_lt_mul (by rw [Nat.mul_comm, ← Nat.pow_succ]; exact hn)), hexV_cons, (dig_hex (n % 16) (by omega)).2, List.length_cons, Nat.pow_succ]
   have h1 := Nat.div_add_mod n 16
   have h2 : 16 ^ acc.length * n = 16 ^ acc.length * 16 * (n / 16) + 16 ^ acc.length * (n % 16) := by
    rw [Nat.mul_assoc, ← Nat.mul_add, h1]
   rw [h2]; omega
theorem hexP_all {n : Nat} (hn : n < 4294967296) : ∀ b ∈ hexP n, isHex b = true := hexF_all 8 n [] (by omega) (fun b h => by cases h)
theorem hexP_val {n : Nat} (hn : n < 4294967296) : hexV (hexP n) = n := by
 unfold hexP
 rw [hexF_val 8 n [] (by omega)]
 simp [hexV]
theorem hexF_ne : ∀ (f n : Nat) (acc : List UInt8), hexF f n acc ≠ []
 | 0, n, acc => by rw [hexF]; simp
 | f + 1, n, acc => by
  rw [hexF]; split
  ·simp
  ·exact hexF_ne f _ _
theorem hexP_ne (n : Nat) : hexP n ≠ [] := hexF_ne 8 n []
theorem hexV_snoc (l : List UInt8) (b : UInt8) : hexV (l ++ [b]) = 16 * hexV l + dv b := by
 unfold hexV; rw [List.foldl_append]; rfl
theorem hexV_take (l : List UInt8) (i : Nat) : hexV (l.take i) ≤ hexV l := by
 have e := foldl_hex (l.drop i) (hexV (l.take i))
 have h0 : hexV l = 16 ^ (l.drop i).length * hexV (l.take i) + hexV (l.drop i) := by
  rw [← e]
  conv => lhs; rw [← List.take_append_drop i l]
  unfold hexV
  rw [List.foldl_append]
 have h1 : 1 ≤ 16 ^ (l.drop i).length := Nat.pos_of_ne_zero (by simp)
 rw [h0]
 exact Nat.le_trans (Nat.le_mul_of_pos_left (hexV (l.take i)) h1) (Nat.le_add_right _ _)
end Cae
namespace Go.Vc
open Go.RowKit
theorem eq_1ii {L : VP} {other : Prop} (ty v ty' v' c) (p) : eqNilK 1 c .eql (.iface ty v) (.iface ty' v') L other p = other := (rfl)
theorem neq_1ii {L : VP} {other : Prop} (ty v ty' v' c) (p) : eqNilK 1 c .neq (.iface ty v) (.iface ty' v') L other p = other := (rfl)
attribute [push_cast] eq_1ii neq_1ii
theorem neqIfaceK {P : Program} {o : Oper} {t : Fr} {w : World} {K : VK} {Q : EP} {ty : TypeId} {x y : Operand} {z : TypeId} {te : TypeId} {k q : IntKind} {a b : Int} {ms : Array (String × TypeId)} (ho : o.op = .binOp .neq ty x y z) (hx : ev t x = .iface te (.int k a)) (hy : ev t y = .iface te (.int k b))
  (ht : P.underlying ty = some (.interface ms)) (hc : (P.info? te).map (·.comparable) = some true) (he : P.underlying te = some (.int q)) (kk : K (.bool (!(a == b))) w) : runK P o t w K Q .mk := by
 refine runK_val (s := do eqGuard .neq ty x y (ev t x) (ev t y); binOp .neq ty (ev t x) (ev t y)) (by unfold execOp; simp only [ho]) (valK_of (w' := w) ?_ kk)
 rw [Sem.run_bind, eqGuard_plain (.inl (by rw [hx]; simp)) (by intro c; rw [hx]; simp)]
 show (binOp .neq ty (ev t x) (ev t y)).run P w = _
 rw [hx, hy]
 exact Lib.run_neq_iface_int w a b ht hc he
end Go.Vc
namespace Go.Proofs.YtgodgfeinjminaaGreatDoor
open Go.Vc Go.Proofs Go.RowKit Cae
set_option maxRecDepth 100000
set_option linter.unusedSimpArgs false
set_option linter.unusedVariables false
attribute [local irreducible] wpL callK valK unitK runK Fun Sl Vc.Own vc vcOps opK pureK
set_option maxHeartbeats 8000000

theorem low_b : ∀ b : Nat, b < 256 → 0 ≤ bitop .or .u8 (b : Int) 32 ∧ bitop .or .u8 (b : Int) 32 ≤ 255 ∧ (97 ≤ b → b ≤ 102 → bitop .or .u8 (b : Int) 32 = b) ∧ (b < 48 → bitop .or .u8 (b : Int) 32 < 97) ∧ (b = 95 → bitop .or .u8 (b : Int) 32 = 127) := by decide +kernel
theorem lower_c (b : Int) (w : World) : Fun Tryz.prog 169 [.int .u8 b] w fun r w' => r = .int .u8 (bitop .or .u8 b 32) ∧ w' = w := by
 refine fun_of_vc Tryz.func169 rfl (by kernel_rfl) [2] rfl ?_
 simp -dsimp (maxSteps := 4000000) only [push_cast, fr0, Tryz.ntmps169, List.length_cons, List.length_nil, Nat.reduceAdd, Nat.reduceSub, Nat.reduceBEq, List.replicate_succ, List.replicate_zero]
def PErr (e : Value) : Prop := e = .nilIface ∨ e = .iface 226 (.int .i64 1) ∨ e = .iface 226 (.int .i64 2)
theorem parseUint_c (s : List UInt8) (hs : s.length ≤ 1000000000) (w : World) : Fun Tryz.prog 154 [str s, .int .i64 16, .int .i64 32] w fun r w' => (∃ (v : Nat) (e : Value), r = .tuple #[.int .u64 (v : Int), e] ∧ v < 4294967296 ∧ PErr e ∧ (∀ n < 4294967296, s = hexP n → v = n ∧ e = .nilIface)) ∧ Below w.heap.size w w' := by
 refine fun_of_vc Tryz.func154 rfl (by kernel_rfl) [6, 7] rfl ?_
 simp -dsimp (maxSteps := 4000000) only [push_cast, fr0, Tryz.ntmps154, List.length_cons, List.length_nil, Nat.reduceAdd, Nat.reduceSub, Nat.reduceBEq, List.replicate_succ, List.replicate_zero]
 by_cases hne : s = []
 ·subst hne
  have e0 : decide (([] : List UInt8) = []) = true := rfl
  simp -dsimp (maxSteps := 4000000) only [push_cast, Nat.reduceAdd, Nat.reduceLeDiff, Nat.reduceBEq, decide_true, ne_eq, eq_self, not_true_eq_false, not_false_eq_true, true_imp_iff, false_imp_iff, Int.reduceNe, Int.reduceEq, Int.reduceLT, Int.reduceLE, Bool.not_true, Bool.not_false, e0]
  refine ⟨⟨0, _, rfl, by omega, .inr (.inr rfl), fun n _ h => absurd h.symm (hexP_ne n)⟩, Below.refl _ _⟩
 have ef : decide False = false := rfl
 have emx : IntKind.u64.wrap (IntKind.u64.wrap (1 * 2 ^ min (IntKind.u64.wrap 32).toNat IntKind.u64.bits) - 1) = 4294967295 := by decide
 simp -dsimp (maxSteps := 4000000) only [push_cast, Nat.reduceAdd, Nat.reduceLeDiff, Nat.reduceBEq, decide_true, ne_eq, eq_self, not_true_eq_false, not_false_eq_true, true_imp_iff, false_imp_iff, Int.reduceNe, Int.reduceEq, Int.reduceLT, Int.reduceLE, Bool.not_true, Bool.not_false, ef]
 refine ⟨fun h => absurd h hne, fun _ => ⟨by decide, ?_⟩⟩
 rw [emx]
 refine bytesK (e := 5) (by kernel_rfl) (by kernel_rfl) (by kernel_rfl) ?_
 intro cap w1 hcap hB1 hb1
 have sz1 := hb1.size
 simp -dsimp (maxSteps := 4000000) only [push_cast, Nat.reduceAdd, Nat.reduceLeDiff, Nat.reduceBEq, decide_true, ne_eq, eq_self, not_true_eq_false, not_false_eq_true, true_imp_iff, false_imp_iff, Int.reduceNe, Int.reduceEq, Int.reduceLT, Int.reduceLE, Bool.not_true, Bool.not_false, ef]
 refine wpL_loop [6, 7, 12, 13, 15, 16, 17, 101, 102, 103, 104, 105, 106, 107, 108, 109, 110, 111, 112, 113, 114, 115, 116, 117, 118, 119, 120, 121, 122, 123, 124, 125, 126, 127, 128, 129, 130, 131, 132, 133, 134, 135, 136, 137, 138, 139, 140, 141, 142, 143, 144, 145, 146, 147, 148, 149, 150, 151, 152, 153, 154, 155, 156, 157, 158, 159, 160, 161, 162, 163] (fun z wx => ∃ (i m : Nat), z 101 = .int .i64 (i : Int) ∧ z 13 = .int .u64 (m : Int) ∧ z 12 = .bool false ∧ i ≤ s.length ∧ m < 4294967296 ∧ ((∀ b ∈ s, isHex b = true) → hexV s < 4294967296 → m = hexV (s.take i)) ∧ Below w.heap.size w wx ∧ Byt wx w.heap.size 5 s) (fun z _ => s.length - (intOf (z 101)).toNat) ?_ ?_
 ·exact ⟨0, 0, rfl, rfl, rfl, Nat.zero_le _, by omega, fun _ _ => rfl, hb1, hB1⟩
 ·intro z wx hI
  obtain ⟨i, m, h101, h13, h12, hi, hm, hv, hbx, hBx⟩ := hI
  simp -dsimp (maxSteps := 4000000) only [push_cast, Nat.reduceAdd, Nat.reduceLeDiff, Nat.reduceBEq, decide_true, ne_eq, eq_self, not_true_eq_false, not_false_eq_true, true_imp_iff, false_imp_iff, Int.reduceNe, Int.reduceEq, Int.reduceLT, Int.reduceLE, Bool.not_true, Bool.not_false, h101, h13, h12, ef]
  refine ⟨fun hlt => ?_, fun hge => ?_⟩
  ·have hg := lt_get (l := s) (i := i) (by omega)
   obtain ⟨x, hx, hxm, hxd, hxt⟩ := hg
   have cx := hBx.cell hx
   have hb8 : x.toNat < 256 := x.toNat_lt
   have hlow := low_b x.toNat hb8
   have hhex : (∀ b ∈ s, isHex b = true) → isHex x = true := fun h => h x hxm
   have hdvx : dv x = if x.toNat ≤ 57 then x.toNat - 48 else x.toNat - 87 := rfl
   have hisx : isHex x = ((decide (48 ≤ x.toNat) && decide (x.toNat ≤ 57)) || (decide (97 ≤ x.toNat) && decide (x.toNat ≤ 102))) := rfl
   have hgb : ∃ b, x.toNat = b := ⟨_, rfl⟩
   obtain ⟨b, hb⟩ := hgb
   rw [hb] at cx hb8 hlow hdvx hisx
   have hgl : ∃ l, bitop .or .u8 (b : Int) 32 = l := ⟨_, rfl⟩
   obtain ⟨l, hl⟩ := hgl
   rw [hl] at hlow
   have hgl : ∃ lo : Nat, l = (lo : Int) := ⟨l.toNat, by omega⟩
   obtain ⟨lo, hlo⟩ := hgl
   subst hlo
   have ecut : decide ((m : Int) ≥ 1152921504606846976) = false := decide_eq_false (by omega)
   have e16 : IntKind.u8.wrap 16 = 16 := by decide
   have e16' : IntKind.u64.wrap 16 = 16 := by decide
   have hgk : ∃ k, 16 * m = k := ⟨_, rfl⟩
   obtain ⟨k, hk⟩ := hgk
   have ek : IntKind.u64.wrap ((m : Int) * 16) = (k : Int) := by
    rw [show (m : Int) * 16 = (k : Int) by omega, wrap_u64_nat, Nat.mod_eq_of_lt (by omega)]
   refine ⟨by omega, ?_⟩
   obtain ⟨hl0, hl1, hl2, hl3, hl4⟩ := hlow
   by_cases hA : 48 ≤ b ∧ b ≤ 57
   ·have e95 : decide ((b : Int) = 95) = false := decide_eq_false (by omega)
    have e1 : decide (48 ≤ (b : Int)) = true := decide_eq_true (by omega)
    have e2 : decide ((b : Int) ≤ 57) = true := decide_eq_true (by omega)
    have hgd : ∃ dn : Nat, b - 48 = dn := ⟨_, rfl⟩
    obtain ⟨dn, hdn0⟩ := hgd
    have edn : IntKind.u8.wrap ((b : Int) - 48) = (dn : Int) := by
     rw [show (b : Int) - 48 = (dn : Int) by omega, wrap_u8_nat, Nat.mod_eq_of_lt (by omega)]
    have hdn : isHex x = true → dn = dv x := fun _ => by rw [hdvx, if_pos hA.2]; exact hdn0.symm
    by_cases hd : dn < 16
    ·have ed : decide ((dn : Int) ≥ 16) = false := decide_eq_false (by omega)
     have ed64 : IntKind.u64.wrap (dn : Int) = (dn : Int) := by rw [wrap_u64_nat, Nat.mod_eq_of_lt (by omega)]
     have hgq : ∃ q, k + dn = q := ⟨_, rfl⟩
     obtain ⟨q, hq⟩ := hgq
     have eq : IntKind.u64.wrap ((k : Int) + (dn : Int)) = (q : Int) := by
      rw [show (k : Int) + (dn : Int) = (q : Int) by omega, wrap_u64_nat, Nat.mod_eq_of_lt (by omega)]
     have elt : decide ((q : Int) < (k : Int)) = false := decide_eq_false (by omega)
     have hm' : (∀ b ∈ s, isHex b = true) → hexV s < 4294967296 → q = hexV (s.take (i + 1)) := fun h1 h2 => by
      have := hv h1 h2
      have h3 := hdn (hhex h1)
      rw [hxt, hexV_snoc, ← this, ← h3]
      omega
     by_cases hr : q < 4294967296
     ·have emax : decide ((q : Int) > 4294967295) = false := decide_eq_false (by omega)
      simp -dsimp (maxSteps := 4000000) only [push_cast, Nat.reduceAdd, Nat.reduceLeDiff, Nat.reduceBEq, decide_true, ne_eq, eq_self, not_true_eq_false, not_false_eq_true, true_imp_iff, false_imp_iff, Int.reduceNe, Int.reduceEq, Int.reduceLT, Int.reduceLE, Bool.not_true, Bool.not_false, cx, ed, ecut, e16, e16', ek, ed64, eq, elt, emax, ef, e95, e1, e2, edn]
      exact ⟨⟨by omega, by omega⟩, ⟨i + 1, q, rfl, rfl, by omega, hr, hm', hbx, hBx⟩, by rw [h101]; simp only [intOf]; omega⟩
     ·have emax : decide ((q : Int) > 4294967295) = true := decide_eq_true (by omega)
      simp -dsimp (maxSteps := 4000000) only [push_cast, Nat.reduceAdd, Nat.reduceLeDiff, Nat.reduceBEq, decide_true, ne_eq, eq_self, not_true_eq_false, not_false_eq_true, true_imp_iff, false_imp_iff, Int.reduceNe, Int.reduceEq, Int.reduceLT, Int.reduceLE, Bool.not_true, Bool.not_false, cx, ed, ecut, e16, e16', ek, ed64, eq, elt, emax, ef, e95, e1, e2, edn]
      refine ⟨⟨4294967295, _, rfl, by omega, .inr (.inl rfl), fun n hn h => ?_⟩, hbx⟩
      have h1 := hm' (by rw [h]; exact hexP_all hn) (by rw [h, hexP_val hn]; exact hn)
      have h2 := hexV_take s (i + 1)
      have h3 := hexP_val hn
      rw [← h] at h3
      omega
    ·have ed : decide ((dn : Int) ≥ 16) = true := decide_eq_true (by omega)
     simp -dsimp (maxSteps := 4000000) only [push_cast, Nat.reduceAdd, Nat.reduceLeDiff, Nat.reduceBEq, decide_true, ne_eq, eq_self, not_true_eq_false, not_false_eq_true, true_imp_iff, false_imp_iff, Int.reduceNe, Int.reduceEq, Int.reduceLT, Int.reduceLE, Bool.not_true, Bool.not_false, cx, ed, e16, ef, e95, e1, e2, edn]
     refine ⟨⟨0, _, rfl, by omega, .inr (.inr rfl), fun n hn h => ?_⟩, hbx⟩
     have h3 := hdn (hhex (by rw [h]; exact hexP_all hn))
     have h4 := hhex (by rw [h]; exact hexP_all hn)
     rw [hisx, Bool.or_eq_true, Bool.and_eq_true, Bool.and_eq_true, decide_eq_true_eq, decide_eq_true_eq, decide_eq_true_eq, decide_eq_true_eq] at h4
     rw [hdvx] at h3
     split at h3 <;> omega
   ·by_cases hB : 97 ≤ lo ∧ lo ≤ 122
    ·have e95 : decide ((b : Int) = 95) = false := decide_eq_false (fun h => by have := hl4 (by omega); omega)
     have e1 : decide (48 ≤ (b : Int)) = true := decide_eq_true (Classical.byContradiction fun h => by have := hl3 (by omega); omega)
     have e2 : decide ((b : Int) ≤ 57) = false := decide_eq_false (fun h => hA ⟨Classical.byContradiction fun h => by have := hl3 (by omega); omega, by omega⟩)
     have e3 : decide (97 ≤ (lo : Int)) = true := decide_eq_true (by omega)
     have e4 : decide ((lo : Int) ≤ 122) = true := decide_eq_true (by omega)
     have hgd : ∃ dn : Nat, lo - 87 = dn := ⟨_, rfl⟩
     obtain ⟨dn, hdn0⟩ := hgd
     have hgl2 : ∃ l2 : Nat, lo - 97 = l2 := ⟨_, rfl⟩
     obtain ⟨l2, hl20⟩ := hgl2
     have edn : IntKind.u8.wrap ((lo : Int) - 97) = (l2 : Int) := by
      rw [show (lo : Int) - 97 = (l2 : Int) by omega, wrap_u8_nat, Nat.mod_eq_of_lt (by omega)]
     have edn2 : IntKind.u8.wrap ((l2 : Int) + 10) = (dn : Int) := by
      rw [show (l2 : Int) + 10 = (dn : Int) by omega, wrap_u8_nat, Nat.mod_eq_of_lt (by omega)]
     have hdn : isHex x = true → dn = dv x := fun h => by
      rw [hisx, Bool.or_eq_true, Bool.and_eq_true, Bool.and_eq_true, decide_eq_true_eq, decide_eq_true_eq, decide_eq_true_eq, decide_eq_true_eq] at h
      have h5 := hl2 (by omega) (by omega)
      rw [hdvx, if_neg (by omega)]
      omega
     simp -dsimp (maxSteps := 4000000) only [push_cast, Nat.reduceAdd, Nat.reduceLeDiff, Nat.reduceBEq, decide_true, ne_eq, eq_self, not_true_eq_false, not_false_eq_true, true_imp_iff, false_imp_iff, Int.reduceNe, Int.reduceEq, Int.reduceLT, Int.reduceLE, Bool.not_true, Bool.not_false, cx, e95, e1, e2, ef]
     refine callK_of (lower_c (b : Int) wx) ?_
     rintro _ w2 ⟨rfl, rfl⟩
     rw [hl]
     simp -dsimp (maxSteps := 4000000) only [push_cast, Nat.reduceAdd, Nat.reduceLeDiff, Nat.reduceBEq, decide_true, ne_eq, eq_self, not_true_eq_false, not_false_eq_true, true_imp_iff, false_imp_iff, Int.reduceNe, Int.reduceEq, Int.reduceLT, Int.reduceLE, Bool.not_true, Bool.not_false, e3, ef]
     refine callK_of (lower_c (b : Int) w2) ?_
     rintro _ w3 ⟨rfl, rfl⟩
     rw [hl]
     simp -dsimp (maxSteps := 4000000) only [push_cast, Nat.reduceAdd, Nat.reduceLeDiff, Nat.reduceBEq, decide_true, ne_eq, eq_self, not_true_eq_false, not_false_eq_true, true_imp_iff, false_imp_iff, Int.reduceNe, Int.reduceEq, Int.reduceLT, Int.reduceLE, Bool.not_true, Bool.not_false, e4, ef]
     refine callK_of (lower_c (b : Int) w3) ?_
     rintro _ w4 ⟨rfl, rfl⟩
     rw [hl]
     by_cases hd : dn < 16
     ·have ed : decide ((dn : Int) ≥ 16) = false := decide_eq_false (by omega)
      have ed64 : IntKind.u64.wrap (dn : Int) = (dn : Int) := by rw [wrap_u64_nat, Nat.mod_eq_of_lt (by omega)]
      have hgq : ∃ q, k + dn = q := ⟨_, rfl⟩
      obtain ⟨q, hq⟩ := hgq
      have eq : IntKind.u64.wrap ((k : Int) + (dn : Int)) = (q : Int) := by
       rw [show (k : Int) + (dn : Int) = (q : Int) by omega, wrap_u64_nat, Nat.mod_eq_of_lt (by omega)]
      have elt : decide ((q : Int) < (k : Int)) = false := decide_eq_false (by omega)
      have hm' : (∀ b ∈ s, isHex b = true) → hexV s < 4294967296 → q = hexV (s.take (i + 1)) := fun h1 h2 => by
       have := hv h1 h2
       have h3 := hdn (hhex h1)
       rw [hxt, hexV_snoc, ← this, ← h3]
       omega
      by_cases hr : q < 4294967296
      ·have emax : decide ((q : Int) > 4294967295) = false := decide_eq_false (by omega)
       simp -dsimp (maxSteps := 4000000) only [push_cast, Nat.reduceAdd, Nat.reduceLeDiff, Nat.reduceBEq, decide_true, ne_eq, eq_self, not_true_eq_false, not_false_eq_true, true_imp_iff, false_imp_iff, Int.reduceNe, Int.reduceEq, Int.reduceLT, Int.reduceLE, Bool.not_true, Bool.not_false, cx, ed, ecut, e16, e16', ek, ed64, eq, elt, emax, ef, edn, edn2]
       exact ⟨⟨by omega, by omega⟩, ⟨i + 1, q, rfl, rfl, by omega, hr, hm', hbx, hBx⟩, by rw [h101]; simp only [intOf]; omega⟩
      ·have emax : decide ((q : Int) > 4294967295) = true := decide_eq_true (by omega)
       simp -dsimp (maxSteps := 4000000) only [push_cast, Nat.reduceAdd, Nat.reduceLeDiff, Nat.reduceBEq, decide_true, ne_eq, eq_self, not_true_eq_false, not_false_eq_true, true_imp_iff, false_imp_iff, Int.reduceNe, Int.reduceEq, Int.reduceLT, Int.reduceLE, Bool.not_true, Bool.not_false, cx, ed, ecut, e16, e16', ek, ed64, eq, elt, emax, ef, edn, edn2]
       refine ⟨⟨4294967295, _, rfl, by omega, .inr (.inl rfl), fun n hn h => ?_⟩, hbx⟩
       have h1 := hm' (by rw [h]; exact hexP_all hn) (by rw [h, hexP_val hn]; exact hn)
       have h2 := hexV_take s (i + 1)
       have h3 := hexP_val hn
       rw [← h] at h3
       omega
     ·have ed : decide ((dn : Int) ≥ 16) = true := decide_eq_true (by omega)
      simp -dsimp (maxSteps := 4000000) only [push_cast, Nat.reduceAdd, Nat.reduceLeDiff, Nat.reduceBEq, decide_true, ne_eq, eq_self, not_true_eq_false, not_false_eq_true, true_imp_iff, false_imp_iff, Int.reduceNe, Int.reduceEq, Int.reduceLT, Int.reduceLE, Bool.not_true, Bool.not_false, cx, ed, e16, ef, edn, edn2]
      refine ⟨⟨0, _, rfl, by omega, .inr (.inr rfl), fun n hn h => ?_⟩, hbx⟩
      have h3 := hdn (hhex (by rw [h]; exact hexP_all hn))
      have h4 := hhex (by rw [h]; exact hexP_all hn)
      rw [hisx, Bool.or_eq_true, Bool.and_eq_true, Bool.and_eq_true, decide_eq_true_eq, decide_eq_true_eq, decide_eq_true_eq, decide_eq_true_eq] at h4
      rw [hdvx] at h3
      split at h3 <;> omega
    ·by_cases h95 : b = 95
     ·have := hl4 h95
      have e95 : decide ((b : Int) = 95) = true := decide_eq_true (by omega)
      have e1 : decide (48 ≤ (b : Int)) = true := decide_eq_true (by omega)
      have e2 : decide ((b : Int) ≤ 57) = false := decide_eq_false (by omega)
      have e3 : decide (97 ≤ (lo : Int)) = true := decide_eq_true (by omega)
      have e4 : decide ((lo : Int) ≤ 122) = false := decide_eq_false (by omega)
      simp -dsimp (maxSteps := 4000000) only [push_cast, Nat.reduceAdd, Nat.reduceLeDiff, Nat.reduceBEq, decide_true, ne_eq, eq_self, not_true_eq_false, not_false_eq_true, true_imp_iff, false_imp_iff, Int.reduceNe, Int.reduceEq, Int.reduceLT, Int.reduceLE, Bool.not_true, Bool.not_false, cx, e95, e1, e2, ef]
      refine callK_of (lower_c (b : Int) wx) ?_
      rintro _ w2 ⟨rfl, rfl⟩
      rw [hl]
      simp -dsimp (maxSteps := 4000000) only [push_cast, Nat.reduceAdd, Nat.reduceLeDiff, Nat.reduceBEq, decide_true, ne_eq, eq_self, not_true_eq_false, not_false_eq_true, true_imp_iff, false_imp_iff, Int.reduceNe, Int.reduceEq, Int.reduceLT, Int.reduceLE, Bool.not_true, Bool.not_false, e3, ef]
      refine callK_of (lower_c (b : Int) w2) ?_
      rintro _ w3 ⟨rfl, rfl⟩
      rw [hl]
      simp -dsimp (maxSteps := 4000000) only [push_cast, Nat.reduceAdd, Nat.reduceLeDiff, Nat.reduceBEq, decide_true, ne_eq, eq_self, not_true_eq_false, not_false_eq_true, true_imp_iff, false_imp_iff, Int.reduceNe, Int.reduceEq, Int.reduceLT, Int.reduceLE, Bool.not_true, Bool.not_false, e4, ef]
      refine ⟨⟨0, _, rfl, by omega, .inr (.inr rfl), fun n hn h => ?_⟩, hbx⟩
      have := hhex (by rw [h]; exact hexP_all hn)
      rw [hisx, Bool.or_eq_true, Bool.and_eq_true, Bool.and_eq_true, decide_eq_true_eq, decide_eq_true_eq, decide_eq_true_eq, decide_eq_true_eq] at this
      omega
     ·rcases Nat.lt_or_ge b 48 with h48 | h48
      ·have := hl3 h48
       have e95 : decide ((b : Int) = 95) = false := decide_eq_false (by omega)
       have e1 : decide (48 ≤ (b : Int)) = false := decide_eq_false (by omega)
       have e2 : decide ((b : Int) ≤ 57) = true := decide_eq_true (by omega)
       have e3 : decide (97 ≤ (lo : Int)) = false := decide_eq_false (by omega)
       simp -dsimp (maxSteps := 4000000) only [push_cast, Nat.reduceAdd, Nat.reduceLeDiff, Nat.reduceBEq, decide_true, ne_eq, eq_self, not_true_eq_false, not_false_eq_true, true_imp_iff, false_imp_iff, Int.reduceNe, Int.reduceEq, Int.reduceLT, Int.reduceLE, Bool.not_true, Bool.not_false, cx, e95, e1, e2, ef]
       refine callK_of (lower_c (b : Int) wx) ?_
       rintro _ w2 ⟨rfl, rfl⟩
       rw [hl]
       simp -dsimp (maxSteps := 4000000) only [push_cast, Nat.reduceAdd, Nat.reduceLeDiff, Nat.reduceBEq, decide_true, ne_eq, eq_self, not_true_eq_false, not_false_eq_true, true_imp_iff, false_imp_iff, Int.reduceNe, Int.reduceEq, Int.reduceLT, Int.reduceLE, Bool.not_true, Bool.not_false, e3, ef]
       refine ⟨⟨0, _, rfl, by omega, .inr (.inr rfl), fun n hn h => ?_⟩, hbx⟩
       have := hhex (by rw [h]; exact hexP_all hn)
       rw [hisx, Bool.or_eq_true, Bool.and_eq_true, Bool.and_eq_true, decide_eq_true_eq, decide_eq_true_eq, decide_eq_true_eq, decide_eq_true_eq] at this
       omega
      ·rcases Nat.lt_or_ge lo 97 with h97 | h97
       ·skip
        have e95 : decide ((b : Int) = 95) = false := decide_eq_false (by omega)
        have e1 : decide (48 ≤ (b : Int)) = true := decide_eq_true (by omega)
        have e2 : decide ((b : Int) ≤ 57) = false := decide_eq_false (by omega)
        have e3 : decide (97 ≤ (lo : Int)) = false := decide_eq_false (by omega)
        simp -dsimp (maxSteps := 4000000) only [push_cast, Nat.reduceAdd, Nat.reduceLeDiff, Nat.reduceBEq, decide_true, ne_eq, eq_self, not_true_eq_false, not_false_eq_true, true_imp_iff, false_imp_iff, Int.reduceNe, Int.reduceEq, Int.reduceLT, Int.reduceLE, Bool.not_true, Bool.not_false, cx, e95, e1, e2, ef]
        refine callK_of (lower_c (b : Int) wx) ?_
        rintro _ w2 ⟨rfl, rfl⟩
        rw [hl]
        simp -dsimp (maxSteps := 4000000) only [push_cast, Nat.reduceAdd, Nat.reduceLeDiff, Nat.reduceBEq, decide_true, ne_eq, eq_self, not_true_eq_false, not_false_eq_true, true_imp_iff, false_imp_iff, Int.reduceNe, Int.reduceEq, Int.reduceLT, Int.reduceLE, Bool.not_true, Bool.not_false, e3, ef]
        refine ⟨⟨0, _, rfl, by omega, .inr (.inr rfl), fun n hn h => ?_⟩, hbx⟩
        have := hhex (by rw [h]; exact hexP_all hn)
        rw [hisx, Bool.or_eq_true, Bool.and_eq_true, Bool.and_eq_true, decide_eq_true_eq, decide_eq_true_eq, decide_eq_true_eq, decide_eq_true_eq] at this
        omega
       ·skip
        have e95 : decide ((b : Int) = 95) = false := decide_eq_false (by omega)
        have e1 : decide (48 ≤ (b : Int)) = true := decide_eq_true (by omega)
        have e2 : decide ((b : Int) ≤ 57) = false := decide_eq_false (by omega)
        have e3 : decide (97 ≤ (lo : Int)) = true := decide_eq_true (by omega)
        have e4 : decide ((lo : Int) ≤ 122) = false := decide_eq_false (by omega)
        simp -dsimp (maxSteps := 4000000) only [push_cast, Nat.reduceAdd, Nat.reduceLeDiff, Nat.reduceBEq, decide_true, ne_eq, eq_self, not_true_eq_false, not_false_eq_true, true_imp_iff, false_imp_iff, Int.reduceNe, Int.reduceEq, Int.reduceLT, Int.reduceLE, Bool.not_true, Bool.not_false, cx, e95, e1, e2, ef]
        refine callK_of (lower_c (b : Int) wx) ?_
        rintro _ w2 ⟨rfl, rfl⟩
        rw [hl]
        simp -dsimp (maxSteps := 4000000) only [push_cast, Nat.reduceAdd, Nat.reduceLeDiff, Nat.reduceBEq, decide_true, ne_eq, eq_self, not_true_eq_false, not_false_eq_true, true_imp_iff, false_imp_iff, Int.reduceNe, Int.reduceEq, Int.reduceLT, Int.reduceLE, Bool.not_true, Bool.not_false, e3, ef]
        refine callK_of (lower_c (b : Int) w2) ?_
        rintro _ w3 ⟨rfl, rfl⟩
        rw [hl]
        simp -dsimp (maxSteps := 4000000) only [push_cast, Nat.reduceAdd, Nat.reduceLeDiff, Nat.reduceBEq, decide_true, ne_eq, eq_self, not_true_eq_false, not_false_eq_true, true_imp_iff, false_imp_iff, Int.reduceNe, Int.reduceEq, Int.reduceLT, Int.reduceLE, Bool.not_true, Bool.not_false, e4, ef]
        refine ⟨⟨0, _, rfl, by omega, .inr (.inr rfl), fun n hn h => ?_⟩, hbx⟩
        have := hhex (by rw [h]; exact hexP_all hn)
        rw [hisx, Bool.or_eq_true, Bool.and_eq_true, Bool.and_eq_true, decide_eq_true_eq, decide_eq_true_eq, decide_eq_true_eq, decide_eq_true_eq] at this
        omega
  ·refine ⟨⟨m, _, rfl, hm, .inl rfl, fun n hn h => ⟨?_, rfl⟩⟩, hbx⟩
   have := hv (by rw [h]; exact hexP_all hn) (by rw [h, hexP_val hn]; exact hn)
   rw [this, List.take_of_length_le (by omega), h, hexP_val hn]
end Go.Proofs.YtgodgfeinjminaaGreatDoor
end
section
set_option linter.unusedSimpArgs false
set_option linter.unusedVariables false
namespace Cae
def PrintOf (s : List UInt8) (l : List Rg) : Prop := setRight (-2) l = true ∧ printP l = s
theorem hex_no {n : Nat} (hn : n < 4294967296) {c : UInt8} (hc : isHex c = false) : (hexP n).contains c = false := by
 cases h : (hexP n).contains c with
 | false => rfl
 | true =>
  have hm : c ∈ hexP n := by simpa using h
  have := hexP_all hn c hm
  rw [hc] at this; cases this
theorem contains_app (a b : List UInt8) (c : UInt8) : (a ++ b).contains c = (a.contains c || b.contains c) := by
 induction a with
 | nil => simp
 | cons x a ih => rw [List.cons_append, List.contains_cons, List.contains_cons, ih, Bool.or_assoc]
theorem rgP_no {r : Rg} (h0 : 0 ≤ r.1) (h1 : r.1 < 4294967296) (h2 : r.2 < 4294967296) : (rgP r).contains 32 = false := by
 unfold rgP
 rw [contains_app, hex_no (by omega) (by rfl)]
 split
 ·rw [List.contains_cons, hex_no (by omega) (by rfl)]; rfl
 ·rfl
theorem rgP_ne (r : Rg) : rgP r ≠ [] := by
 unfold rgP
 intro h
 exact hexP_ne _ (List.append_eq_nil_iff.1 h).1
theorem tw_app {c : UInt8} : ∀ {a b : List UInt8}, a.contains c = false → (a ++ c :: b).takeWhile (· != c) = a ∧ (a ++ c :: b).dropWhile (· != c) = c :: b
 | [], b, _ => by simp
 | x :: a, b, h => by
  rw [List.contains_cons, Bool.or_eq_false_iff] at h
  have h1 : (x != c) = true := by have := h.1; simp at this; simp; exact fun e => this e.symm
  have ih := tw_app (b := b) h.2
  rw [List.cons_append, List.takeWhile_cons, List.dropWhile_cons, if_pos h1, if_pos h1, ih.1, ih.2]
  exact ⟨rfl, rfl⟩
theorem split_no {c : UInt8} {a : List UInt8} (h : a.contains c = false) : splitB c a = [a] := by
 rw [splitB_eq, h, tw_all h]; rfl
theorem split_app {c : UInt8} {a b : List UInt8} (h : a.contains c = false) : splitB c (a ++ c :: b) = a :: splitB c b := by
 rw [splitB_eq, (tw_app h).1, (tw_app h).2]
 have : (a ++ c :: b).contains c = true := by rw [contains_app]; simp
 rw [if_pos this]; rfl
theorem split_join {c : UInt8} : ∀ (x : List UInt8) (l : List (List UInt8)), (∀ p ∈ x :: l, p.contains c = false) → splitB c (Go.Lib.join (x :: l) [c]) = x :: l
 | x, [], h => by rw [Go.Lib.join_one]; exact split_no (h x (by simp))
 | x, y :: l, h => by
  have e : Go.Lib.join (x :: y :: l) [c] = x ++ c :: Go.Lib.join (y :: l) [c] := by
   rw [Go.Lib.join_cons, Go.Lib.join_cons]
   simp [Go.Lib.joinTail]
  rw [e, split_app (h x (by simp)), split_join y l (fun p hp => h p (List.mem_cons_of_mem _ hp))]
theorem cut_rg {r : Rg} (h0 : 0 ≤ r.1) (h1 : r.1 < 4294967296) (h2 : r.2 < 4294967296) (hlt : r.1 < r.2) : cutP 45 (rgP r) = (hexP r.1.toNat, hexP r.2.toNat, true) := by
 have hn := hex_no (n := r.1.toNat) (c := 45) (by omega) (by rfl)
 have e : rgP r = hexP r.1.toNat ++ 45 :: hexP r.2.toNat := by unfold rgP; rw [if_pos hlt]
 unfold cutP
 rw [e, (tw_app hn).1, (tw_app hn).2, contains_app]
 simp
theorem cut_rg1 {r : Rg} (h0 : 0 ≤ r.1) (h1 : r.1 < 4294967296) (hlt : ¬ r.1 < r.2) : cutP 45 (rgP r) = (hexP r.1.toNat, [], false) := by
 have hn := hex_no (n := r.1.toNat) (c := 45) (by omega) (by rfl)
 have e : rgP r = hexP r.1.toNat := by unfold rgP; rw [if_neg hlt, List.append_nil]
 unfold cutP
 rw [e, hn]; rfl
theorem mem_right : ∀ {s : List Rg} {a : Int}, -2 ≤ a → setRight a s = true → ∀ r ∈ s, 0 ≤ r.1 ∧ r.1 ≤ r.2 ∧ r.2 ≤ 1114111
 | [], _, _, _ => fun r hr => by cases hr
 | q :: s, a, ha, h => by
  rw [setRight_con] at h
  intro r hr
  rcases List.mem_cons.1 hr with rfl | hr
  ·omega
  ·exact mem_right (by omega) h.2 r hr
def bodyP (l : List Rg) : List UInt8 := Go.Lib.join (l.map rgP) [32]
theorem bodyP_nil {l : List Rg} (h : bodyP l = []) : l = [] := by
 cases l with
 | nil => rfl
 | cons r l =>
  unfold bodyP at h
  rw [List.map_cons, Go.Lib.join_cons] at h
  exact absurd (List.append_eq_nil_iff.1 h).1 (rgP_ne r)
theorem split_body {l : List Rg} (h : setRight (-2) l = true) (hne : bodyP l ≠ []) : splitB 32 (bodyP l) = l.map rgP := by
 cases l with
 | nil => exact absurd rfl hne
 | cons r l =>
  unfold bodyP
  rw [List.map_cons]
  refine split_join _ _ fun p hp => ?_
  rw [← List.map_cons] at hp
  obtain ⟨q, hq, rfl⟩ := List.mem_map.1 hp
  have := mem_right (by omega) h q hq
  exact rgP_no (by omega) (by omega) (by omega)
theorem print_pre {s : List UInt8} {l : List Rg} (h : PrintOf s l) : Go.Lib.hasPrefix s [91] = true ∧ Go.Lib.hasSuffix (Go.Lib.trimPrefix s [91]) [93] = true ∧ Go.Lib.trimSuffix (Go.Lib.trimPrefix s [91]) [93] = bodyP l := by
 obtain ⟨hr, rfl⟩ := h
 have h1 : Go.Lib.hasPrefix (printP l) [91] = true := by simp [Go.Lib.hasPrefix, printP]
 have h2 : Go.Lib.trimPrefix (printP l) [91] = bodyP l ++ [93] := by
  unfold Go.Lib.trimPrefix; rw [h1]; rfl
 have h3 : Go.Lib.hasSuffix (bodyP l ++ [93]) [93] = true := by
  unfold Go.Lib.hasSuffix
  rw [List.isSuffixOf_iff_suffix]
  exact ⟨bodyP l, rfl⟩
 rw [h2]
 refine ⟨h1, h3, ?_⟩
 unfold Go.Lib.trimSuffix
 rw [h3, if_pos rfl]
 simp
theorem round_plain {body x : List UInt8} {pre : List (List UInt8)} {l : List Rg} (h : setRight (-2) l = true) (hb : body = bodyP l) (hne : body ≠ []) (hp : pre ++ [x] <+: splitB 32 body) : ∃ r, l[pre.length]? = some r ∧ x = rgP r ∧ 0 ≤ r.1 ∧ r.1 ≤ r.2 ∧ r.2 ≤ 1114111 := by
 subst hb
 rw [split_body h hne] at hp
 obtain ⟨rest, hr⟩ := hp
 have h1 : (l.map rgP)[pre.length]? = some x := by rw [← hr, List.append_assoc]; simp
 rw [List.getElem?_map] at h1
 cases hl : l[pre.length]? with
 | none => rw [hl] at h1; cases h1
 | some r =>
  rw [hl] at h1
  cases h1
  exact ⟨r, rfl, rfl, mem_right (by omega) h r (List.mem_of_getElem? hl)⟩
end Cae
end
section
set_option linter.unusedSimpArgs false
set_option linter.unusedVariables false
namespace Cae

/-! Rules as text: what is read, as the program reads it, in plain Lean. -/
structure Tok where
 kind : Nat
 text : List UInt8
 pos : Nat
 deriving DecidableEq
inductive KindP where
 | lit (pos : Nat) (s : List Rg)
 | ref (pos : Nat) (name : List UInt8)
 | not (pos : Nat) (l : KindP)
 | bin (code : Nat) (pos : Nat) (l r : KindP)
inductive PatP where
 | one (k : KindP)
 | any
 | edge
 | cat (l : List PatP)
 | alt (l : List PatP)
 | many (x : PatP) (lo hi : Int)
structure RuleP where
 pos : Nat
 brk : Bool
 before : PatP
 after : PatP
structure ClassP where
 name : List UInt8
 pos : Nat
 kind : KindP
structure FileP where
 classes : List ClassP
 rules : List RuleP
 els : Bool

def letterP (c : UInt8) : Bool := decide (97 ≤ c.toNat) && decide (c.toNat ≤ 122)
def digitP (c : UInt8) : Bool := decide (48 ≤ c.toNat) && decide (c.toNat ≤ 57)
def markL : List UInt8 := [61, 59, 58, 124, 38, 45, 126, 40, 41, 46, 42, 43, 63, 123, 125, 44, 36]
def runP (f : UInt8 → Bool) (s : List UInt8) : Nat := (s.takeWhile f).length
def nextT (s : List UInt8) : Nat × Nat :=
 let c := s.headD 0
 if letterP c then (1, runP (fun c => letterP c || digitP c) s)
 else if digitP c then (2, runP digitP s)
 else if c = 91 then (3, if s.contains 93 then runP (· != 93) s + 1 else 0)
 else if markL.contains c then (4, 1)
 else (4, 0)
def tokLoop : Nat → Nat → List UInt8 → List Tok → Except (Nat × Nat) (List Tok)
 | 0, i, s, acc => .error (0, 0)
 | n + 1, i, [], acc => .ok (acc ++ [⟨5, [], i⟩])
 | n + 1, i, c :: r, acc =>
  if c = 32 ∨ c = 10 then tokLoop n (i + 1) r acc
  else if c = 35 then tokLoop n (i + runP (· != 10) (c :: r)) ((c :: r).drop (runP (· != 10) (c :: r))) acc
  else if (nextT (c :: r)).2 = 0 then .error (3, i)
  else if acc.length = 500 then .error (4, i)
  else tokLoop n (i + (nextT (c :: r)).2) ((c :: r).drop (nextT (c :: r)).2) (acc ++ [⟨(nextT (c :: r)).1, (c :: r).take (nextT (c :: r)).2, i⟩])
def tokP (s : List UInt8) : Except (Nat × Nat) (List Tok) := tokLoop (s.length + 1) 0 s []

def setP (s : List UInt8) : Option (List Rg) :=
 let body := (s.drop 1).dropLast
 let l : List Rg := if body = [] then [] else (splitB 32 body).map fun p => (((hexV (cutP 45 p).1 : Nat) : Int), if (cutP 45 p).2.2 then ((hexV (cutP 45 p).2.1 : Nat) : Int) else ((hexV (cutP 45 p).1 : Nat) : Int))
 if setRight (-2) l && printP l == s then some l else none

abbrev Pa (α : Type) := List Tok → Except (Nat × Nat) (α × List Tok)
def hd (l : List Tok) : Tok := l.headD ⟨5, [], 0⟩
def pb {α β : Type} (p : Pa α) (q : α → Pa β) : Pa β := fun l => match p l with
 | .error e => .error e
 | .ok (x, l') => q x l'
def pr {α : Type} (x : α) : Pa α := fun l => .ok (x, l)
def pfail {α : Type} (e : Nat) : Pa α := fun l => .error (e, (hd l).pos)
def pif {α : Type} (c : List Tok → Bool) (p q : Pa α) : Pa α := fun l => if c l then p l else q l
def peek : Pa Tok := fun l => .ok (hd l, l)
def popP : Pa Unit := fun l => match l with
 | [] => .error (0, 0)
 | t :: r => if t.kind = 5 then .error (0, 0) else .ok ((), r)
def isKind (k : Nat) (l : List Tok) : Bool := (hd l).kind == k
def seeP (s : List UInt8) (l : List Tok) : Bool := (hd l).kind != 5 && (hd l).text == s
def mustP (s : List UInt8) : Pa Unit := pif (seeP s) popP (pfail 3)
def keptP (s : List UInt8) : Bool := s == [99, 108, 97, 115, 115] || s == [98, 114, 101, 97, 107] || s == [107, 101, 101, 112] || s == [101, 108, 115, 101]
def namedP (l : List Tok) : Bool := (hd l).kind == 1 && !keptP (hd l).text
def longP (l : List Tok) : Bool := decide (10 < (hd l).text.length)
def nameP : Pa (List UInt8) := pif namedP (pif longP (pfail 4) (pb peek fun t => pb popP fun _ => pr t.text)) (pfail 3)
def binP : Pa Nat := pif (seeP [124]) (pb popP fun _ => pr 3) (pif (seeP [38]) (pb popP fun _ => pr 4) (pif (seeP [45]) (pb popP fun _ => pr 5) (pr 0)))
def kindLoop (one : Pa KindP) (pos : Nat) : Nat → KindP → Pa KindP
 | 0, k => pfail 0
 | n + 1, k => pb binP fun c => if c = 0 then pr k else pb one fun r => kindLoop one pos n (.bin c pos k r)
def kindW (one : Pa KindP) : Pa KindP := pb peek fun t => pb one fun k => kindLoop one t.pos 1000 k
def litP : Pa KindP := pb peek fun t => match setP t.text with
 | none => pfail 3
 | some s => pb popP fun _ => pr (.lit t.pos s)
def oneP : Nat → Pa KindP
 | 0 => pfail 4
 | d + 1 => pif (isKind 3) litP (pif (seeP [126]) (pb peek fun t => pb popP fun _ => pb (oneP d) fun k => pr (.not t.pos k))
  (pif (seeP [40]) (pb popP fun _ => pb (kindW (oneP d)) fun k => pb (mustP [41]) fun _ => pr k)
   (pb peek fun t => pb nameP fun n => pr (.ref t.pos n))))
def kindP (d : Nat) : Pa KindP := kindW (oneP d)

def decV (s : List UInt8) : Nat := s.foldl (fun m b => 10 * m + (b.toNat - 48)) 0
def timesP : Pa Nat := pif (isKind 2) (pb peek fun t => if 12 < decV t.text then pfail 4 else pb popP fun _ => pr (decV t.text)) (pfail 3)
def bracesP : Pa (Int × Int) := pb timesP fun lo => pif (seeP [44])
 (pb popP fun _ => pif (isKind 2)
  (pb timesP fun hi => if hi < lo then pfail 2 else pb (mustP [125]) fun _ => pr ((lo : Int), (hi : Int)))
  (pb (mustP [125]) fun _ => pr ((lo : Int), -1)))
 (pb (mustP [125]) fun _ => pr ((lo : Int), (lo : Int)))
def suffixP : Pa (Option (Int × Int)) :=
 pif (seeP [42]) (pb popP fun _ => pr (some (0, -1)))
 (pif (seeP [43]) (pb popP fun _ => pr (some (1, -1)))
 (pif (seeP [63]) (pb popP fun _ => pr (some (0, 1)))
 (pif (seeP [123]) (pb popP fun _ => pb bracesP fun r => pr (some r)) (pr none))))
def againLoop (d : Nat) : Nat → Nat → PatP → Pa PatP
 | 0, c, x => pfail 0
 | n + 1, c, x => pb suffixP fun r => match r with
  | none => pr x
  | some q => if d ≤ c + 1 then pfail 4 else againLoop d n (c + 1) (.many x q.1 q.2)
def againW (d : Nat) (unit : Pa PatP) : Pa PatP := pb unit fun x => againLoop d 1000 0 x
def startP (l : List Tok) : Bool := isKind 3 l || namedP l || seeP [46] l || seeP [36] l || seeP [40] l
def rowLoop (again : Pa PatP) : Nat → List PatP → Pa (List PatP)
 | 0, acc => pfail 0
 | n + 1, acc => pif startP (pb again fun x => rowLoop again n (acc ++ [x])) (pr acc)
def rowOf : List PatP → PatP
 | [x] => x
 | l => .cat l
def altOf : List PatP → PatP
 | [x] => x
 | l => .alt l
def rowW (again : Pa PatP) : Pa PatP := pb (rowLoop again 1000 []) fun ps => pr (rowOf ps)
def altLoop (row : Pa PatP) : Nat → List PatP → Pa (List PatP)
 | 0, acc => pfail 0
 | n + 1, acc => pif (seeP [124]) (pb popP fun _ => pb row fun x => altLoop row n (acc ++ [x])) (pr acc)
def altW (row : Pa PatP) : Pa PatP := pb row fun x => pb (altLoop row 1000 [x]) fun ps => pr (altOf ps)
def patW (d : Nat) (unit : Pa PatP) : Pa PatP := if d = 0 then pfail 4 else altW (rowW (againW d unit))
def unitStart (l : List Tok) : Bool := isKind 3 l || namedP l
def unitP : Nat → Pa PatP
 | 0 => pfail 4
 | d + 1 => pif (seeP [46]) (pb popP fun _ => pr .any)
  (pif (seeP [36]) (pb popP fun _ => pr .edge)
  (pif (seeP [40]) (pb popP fun _ => pb (patW d (unitP d)) fun x => pb (mustP [41]) fun _ => pr x)
  (pif unitStart (pb (oneP (d + 1)) fun k => pr (.one k)) (pfail 3))))
def patP (d : Nat) : Pa PatP := patW d (unitP d)

def classP : Pa ClassP := pb peek fun t => pb (mustP [99, 108, 97, 115, 115]) fun _ => pb nameP fun n => pb (mustP [61]) fun _ => pb (kindP 9) fun k => pb (mustP [59]) fun _ => pr ⟨n, t.pos, k⟩
def classLoop : Nat → List ClassP → Pa (List ClassP)
 | 0, acc => pfail 0
 | n + 1, acc => pif (seeP [99, 108, 97, 115, 115]) (if acc.length = 20 then pfail 4 else pb classP fun c => classLoop n (acc ++ [c])) (pr acc)
def saysP : Pa Bool := pif (seeP [98, 114, 101, 97, 107]) (pb popP fun _ => pr true) (pb (mustP [107, 101, 101, 112]) fun _ => pr false)
def ruleP : Pa RuleP := pb peek fun t => pb saysP fun b => pb (patP 9) fun x => pb (mustP [58]) fun _ => pb (patP 9) fun y => pb (mustP [59]) fun _ => pr ⟨t.pos, b, x, y⟩
def ruleStart (l : List Tok) : Bool := seeP [98, 114, 101, 97, 107] l || seeP [107, 101, 101, 112] l
def ruleLoop : Nat → List RuleP → Pa (List RuleP)
 | 0, acc => pfail 0
 | n + 1, acc => pif ruleStart (if acc.length = 20 then pfail 4 else pb ruleP fun r => ruleLoop n (acc ++ [r])) (pr acc)
def elseP : Pa Bool := pif (seeP [101, 108, 115, 101]) (pb popP fun _ => pb saysP fun b => pb (mustP [59]) fun _ => pr b) (pr true)
def fileP : Pa FileP := pb (classLoop 1000 []) fun cs => pb (ruleLoop 1000 []) fun rs => pb elseP fun b => pr ⟨cs, rs, b⟩
def parseR (s : List UInt8) : Except (Nat × Nat) FileP := match tokP s with
 | .error e => .error e
 | .ok l => match fileP l with
  | .error e => .error e
  | .ok (f, l') => if isKind 5 l' then .ok f else .error (3, (hd l').pos)

/-! How a file is written. -/
def kindText : KindP → Bool → List UInt8
 | .lit _ s, _ => printP s
 | .ref _ n, _ => n
 | .not _ l, _ => 126 :: kindText l true
 | .bin c _ l r, alone =>
  let m : List UInt8 := if c = 3 then [32, 124, 32] else if c = 4 then [32, 38, 32] else [32, 45, 32]
  let s := kindText l false ++ m ++ kindText r true
  if alone then 40 :: (s ++ [41]) else s
def decP (n : Nat) : List UInt8 := if n < 10 then [dig n] else if n < 100 then [dig (n / 10), dig (n % 10)] else []
def timesText (lo hi : Int) : List UInt8 :=
 if lo = 0 ∧ hi < 0 then [42] else if lo = 1 ∧ hi < 0 then [43] else if lo = 0 ∧ hi = 1 then [63]
 else if hi < 0 then 123 :: (decP lo.toNat ++ [44, 125])
 else if hi = lo then 123 :: (decP lo.toNat ++ [125])
 else 123 :: (decP lo.toNat ++ 44 :: (decP hi.toNat ++ [125]))
def inPar (b : Bool) (s : List UInt8) : List UInt8 := if b then 40 :: (s ++ [41]) else s
mutual
def patText : PatP → Nat → List UInt8
 | .one k, _ => kindText k true
 | .any, _ => [46]
 | .edge, _ => [36]
 | .cat l, least => inPar (decide (1 < least)) (Go.Lib.join (patTexts l 2) [32])
 | .alt l, least => inPar (decide (0 < least)) (Go.Lib.join (patTexts l 1) [32, 124, 32])
 | .many x lo hi, _ => patText x 2 ++ timesText lo hi
def patTexts : List PatP → Nat → List (List UInt8)
 | [], _ => []
 | x :: l, least => patText x least :: patTexts l least
end
def classText (c : ClassP) : List UInt8 := [99, 108, 97, 115, 115, 32] ++ c.name ++ [32, 61, 32] ++ kindText c.kind false ++ [59, 10]
def ruleText (r : RuleP) : List UInt8 :=
 (if r.brk then [98, 114, 101, 97, 107, 32] else [107, 101, 101, 112, 32])
  ++ (if patText r.before 0 = [] then [] else patText r.before 0 ++ [32]) ++ [58] ++ (if patText r.after 0 = [] then [] else 32 :: patText r.after 0) ++ [59, 10]
def elseText (b : Bool) : List UInt8 := if b then [] else [101, 108, 115, 101, 32, 107, 101, 101, 112, 59, 10]
def fileText (f : FileP) : List UInt8 := (f.classes.flatMap classText) ++ (f.rules.flatMap ruleText) ++ elseText f.els

end Cae
end
section
set_option linter.unusedSimpArgs false
set_option linter.unusedVariables false
namespace Cae

/-! Rules as they are meant: where patterns lead. -/
def stepM (pts : List Int) (back : Bool) (i : Nat) : Option (Nat × Int) :=
 if back then (if i = 0 then none else (pts[i - 1]?).map fun p => (i - 1, p)) else (pts[i]?).map fun p => (i + 1, p)
def iterM (R : Nat → Nat → Prop) : Nat → Nat → Nat → Prop
 | 0, i, j => i = j
 | n + 1, i, j => ∃ m, R i m ∧ iterM R n m j
section
variable (has : KindP → Int → Prop) (pts : List Int) (back : Bool)
mutual
def Rch : PatP → Nat → Nat → Prop
 | .one k, i, j => ∃ p, stepM pts back i = some (j, p) ∧ has k p
 | .any, i, j => ∃ p, stepM pts back i = some (j, p)
 | .edge, i, j => i = j ∧ stepM pts back i = none
 | .cat l, i, j => if back then RchB l i j else RchF l i j
 | .alt l, i, j => RchA l i j
 | .many x lo hi, i, j => ∃ n : Nat, lo ≤ n ∧ (hi < 0 ∨ (n : Int) ≤ hi) ∧ iterM (fun a b => Rch x a b) n i j
def RchF : List PatP → Nat → Nat → Prop
 | [], i, j => i = j
 | x :: l, i, j => ∃ m, Rch x i m ∧ RchF l m j
def RchB : List PatP → Nat → Nat → Prop
 | [], i, j => i = j
 | x :: l, i, j => ∃ m, RchB l i m ∧ Rch x m j
def RchA : List PatP → Nat → Nat → Prop
 | [], _, _ => False
 | x :: l, i, j => Rch x i j ∨ RchA l i j
end
end
section
variable {has : KindP → Int → Prop} {pts : List Int} {back : Bool}
theorem rch_cat {l : List PatP} {i j : Nat} : Rch has pts back (.cat l) i j ↔ (if back then RchB has pts back l i j else RchF has pts back l i j) := by simp only [Rch]
theorem rch_many {x : PatP} {lo hi : Int} {i j : Nat} : Rch has pts back (.many x lo hi) i j ↔ ∃ n : Nat, lo ≤ n ∧ (hi < 0 ∨ (n : Int) ≤ hi) ∧ iterM (Rch has pts back x) n i j := by simp only [Rch]
theorem rchF_app {l m : List PatP} {i j : Nat} : RchF has pts back (l ++ m) i j ↔ ∃ k, RchF has pts back l i k ∧ RchF has pts back m k j := by
 induction l generalizing i with
 | nil => simp [RchF]
 | cons x l ih =>
  simp only [List.cons_append, RchF]
  constructor
  ·rintro ⟨a, h1, h2⟩
   obtain ⟨k, h3, h4⟩ := ih.1 h2
   exact ⟨k, ⟨a, h1, h3⟩, h4⟩
  ·rintro ⟨k, ⟨a, h1, h3⟩, h4⟩
   exact ⟨a, h1, ih.2 ⟨k, h3, h4⟩⟩
theorem rchB_app {l m : List PatP} {i j : Nat} : RchB has pts back (l ++ m) i j ↔ ∃ k, RchB has pts back m i k ∧ RchB has pts back l k j := by
 induction l generalizing j with
 | nil => simp [RchB]
 | cons x l ih =>
  simp only [List.cons_append, RchB]
  constructor
  ·rintro ⟨a, h1, h2⟩
   obtain ⟨k, h3, h4⟩ := ih.1 h1
   exact ⟨k, h3, a, h4, h2⟩
  ·rintro ⟨k, h3, a, h4, h2⟩
   exact ⟨a, ih.2 ⟨k, h3, h4⟩, h2⟩
theorem rchA_mem {l : List PatP} {i j : Nat} : RchA has pts back l i j ↔ ∃ x ∈ l, Rch has pts back x i j := by
 induction l with
 | nil => simp [RchA]
 | cons x l ih => simp [RchA, ih]
theorem iterM_snoc {R : Nat → Nat → Prop} : ∀ {n i j : Nat}, iterM R (n + 1) i j ↔ ∃ m, iterM R n i m ∧ R m j
 | 0, i, j => by simp [iterM]
 | n + 1, i, j => by
  constructor
  ·rintro ⟨a, h1, h2⟩
   obtain ⟨b, h3, h4⟩ := iterM_snoc.1 h2
   exact ⟨b, ⟨a, h1, h3⟩, h4⟩
  ·rintro ⟨b, ⟨a, h1, h3⟩, h4⟩
   exact ⟨a, h1, iterM_snoc.2 ⟨b, h3, h4⟩⟩
theorem iterM_mono {R S : Nat → Nat → Prop} (h : ∀ i j, R i j → S i j) : ∀ {n i j : Nat}, iterM R n i j → iterM S n i j
 | 0, _, _, e => e
 | n + 1, _, _, ⟨m, h1, h2⟩ => ⟨m, h _ _ h1, iterM_mono h h2⟩
theorem stepM_le {i j : Nat} {p : Int} (h : stepM pts back i = some (j, p)) (hi : i ≤ pts.length) : j ≤ pts.length := by
 unfold stepM at h
 split at h
 ·split at h
  ·cases h
  ·cases hp : pts[i - 1]? with
   | none => rw [hp] at h; cases h
   | some q => rw [hp] at h; cases h; omega
 ·cases hp : pts[i]? with
  | none => rw [hp] at h; cases h
  | some q =>
   rw [hp] at h
   cases h
   have := (List.getElem?_eq_some_iff.1 hp).1
   omega
theorem iterM_le {R : Nat → Nat → Prop} {N : Nat} (h : ∀ i j, i ≤ N → R i j → j ≤ N) : ∀ {n i j : Nat}, i ≤ N → iterM R n i j → j ≤ N
 | 0, _, _, hi, e => by cases e; exact hi
 | n + 1, _, _, hi, ⟨m, h1, h2⟩ => iterM_le h (h _ _ hi h1) h2
mutual
theorem rch_le : ∀ (x : PatP) {i j : Nat}, i ≤ pts.length → Rch has pts back x i j → j ≤ pts.length
 | .one k, i, j, hi, h => by simp only [Rch] at h; obtain ⟨p, h, _⟩ := h; exact stepM_le h hi
 | .any, i, j, hi, h => by simp only [Rch] at h; obtain ⟨p, h⟩ := h; exact stepM_le h hi
 | .edge, i, j, hi, h => by simp only [Rch] at h; omega
 | .cat l, i, j, hi, h => by
  simp only [Rch] at h
  split at h
  ·exact rchB_le l hi h
  ·exact rchF_le l hi h
 | .alt l, i, j, hi, h => by simp only [Rch] at h; exact rchA_le l hi h
 | .many x lo hi', i, j, hi, h => by
  simp only [Rch] at h
  obtain ⟨n, _, _, h⟩ := h
  exact iterM_le (fun a b ha hr => rch_le x ha hr) hi h
theorem rchF_le : ∀ (l : List PatP) {i j : Nat}, i ≤ pts.length → RchF has pts back l i j → j ≤ pts.length
 | [], i, j, hi, h => by simp only [RchF] at h; omega
 | x :: l, i, j, hi, h => by simp only [RchF] at h; obtain ⟨m, h1, h2⟩ := h; exact rchF_le l (rch_le x hi h1) h2
theorem rchB_le : ∀ (l : List PatP) {i j : Nat}, i ≤ pts.length → RchB has pts back l i j → j ≤ pts.length
 | [], i, j, hi, h => by simp only [RchB] at h; omega
 | x :: l, i, j, hi, h => by simp only [RchB] at h; obtain ⟨m, h1, h2⟩ := h; exact rch_le x (rchB_le l hi h1) h2
theorem rchA_le : ∀ (l : List PatP) {i j : Nat}, i ≤ pts.length → RchA has pts back l i j → j ≤ pts.length
 | [], i, j, hi, h => by simp only [RchA] at h
 | x :: l, i, j, hi, h => by
  simp only [RchA] at h
  rcases h with h | h
  ·exact rch_le x hi h
  ·exact rchA_le l hi h
end
end

/-! In the mirror. -/
mutual
def mirP : PatP → PatP
 | .one k => .one k
 | .any => .any
 | .edge => .edge
 | .cat l => .cat (mirPs l).reverse
 | .alt l => .alt (mirPs l)
 | .many x lo hi => .many (mirP x) lo hi
def mirPs : List PatP → List PatP
 | [] => []
 | x :: l => mirP x :: mirPs l
end
section
variable {has : KindP → Int → Prop} {pts : List Int} {back : Bool}
theorem step_mir {i j : Nat} {p : Int} (hi : i ≤ pts.length) (hj : j ≤ pts.length) : stepM pts.reverse (!back) (pts.length - i) = some (pts.length - j, p) ↔ stepM pts back i = some (j, p) := by
 unfold stepM
 cases back with
 | true =>
  simp only [Bool.not_true, Bool.false_eq_true, if_false, if_true]
  by_cases h0 : i = 0
  ·subst h0
   rw [if_pos rfl, List.getElem?_eq_none (by simp)]
   simp
  ·rw [if_neg h0]
   have h1 : pts.reverse[pts.length - i]? = pts[i - 1]? := by
    rw [List.getElem?_reverse (by omega)]
    congr 1
    omega
   rw [h1]
   cases pts[i - 1]? with
   | none => simp
   | some q => simp; intro _; omega
 | false =>
  simp only [Bool.not_false, Bool.false_eq_true, if_false, if_true]
  by_cases h0 : i = pts.length
  ·subst h0
   rw [if_pos (by omega), List.getElem?_eq_none (by omega)]
   simp
  ·rw [if_neg (by omega)]
   have h1 : pts.reverse[pts.length - i - 1]? = pts[i]? := by
    rw [List.getElem?_reverse (by omega)]
    congr 1
    omega
   rw [h1]
   cases pts[i]? with
   | none => simp
   | some q => simp; intro _; omega
theorem step_none {i : Nat} (hi : i ≤ pts.length) : stepM pts.reverse (!back) (pts.length - i) = none ↔ stepM pts back i = none := by
 constructor
 ·intro h
  cases h2 : stepM pts back i with
  | none => rfl
  | some q =>
   obtain ⟨j, p⟩ := q
   have := (step_mir hi (stepM_le h2 hi)).2 h2
   rw [h] at this; cases this
 ·intro h
  cases h2 : stepM pts.reverse (!back) (pts.length - i) with
  | none => rfl
  | some q =>
   obtain ⟨j, p⟩ := q
   have hj : j ≤ pts.length := by have := stepM_le h2 (by simp); simpa using this
   have e : j = pts.length - (pts.length - j) := by omega
   rw [e] at h2
   have := (step_mir hi (by omega)).1 h2
   rw [h] at this; cases this
theorem iter_mir {R S : Nat → Nat → Prop} {N : Nat} (hR : ∀ i j, i ≤ N → R i j → j ≤ N) (hS : ∀ i j, i ≤ N → S i j → j ≤ N) (h : ∀ i j, i ≤ N → j ≤ N → (S (N - i) (N - j) ↔ R i j)) : ∀ {n i j : Nat}, i ≤ N → j ≤ N → (iterM S n (N - i) (N - j) ↔ iterM R n i j)
 | 0, i, j, hi, hj => by simp only [iterM]; omega
 | n + 1, i, j, hi, hj => by
  constructor
  ·rintro ⟨m, h1, h2⟩
   have hm : m ≤ N := hS _ _ (by omega) h1
   have e : m = N - (N - m) := by omega
   rw [e] at h1 h2
   exact ⟨N - m, (h i (N - m) hi (by omega)).1 h1, (iter_mir hR hS h (by omega) hj).1 h2⟩
  ·rintro ⟨m, h1, h2⟩
   have hm : m ≤ N := hR _ _ hi h1
   exact ⟨N - m, (h i m hi hm).2 h1, (iter_mir hR hS h hm hj).2 h2⟩
mutual
theorem rch_mir : ∀ (back : Bool) (x : PatP) {i j : Nat}, i ≤ pts.length → j ≤ pts.length → (Rch has pts.reverse (!back) (mirP x) (pts.length - i) (pts.length - j) ↔ Rch has pts back x i j)
 | back, .one k, i, j, hi, hj => by
  simp only [mirP, Rch]
  exact exists_congr fun p => and_congr (step_mir hi hj) Iff.rfl
 | back, .any, i, j, hi, hj => by
  simp only [mirP, Rch]
  exact exists_congr fun p => step_mir hi hj
 | back, .edge, i, j, hi, hj => by
  simp only [mirP, Rch]
  exact and_congr (by omega) (step_none hi)
 | back, .cat l, i, j, hi, hj => by
  simp only [mirP, Rch]
  cases back with
  | true =>
   simp only [Bool.not_true, Bool.false_eq_true, if_false, if_true]
   exact rchF_mir l hi hj
  | false =>
   simp only [Bool.not_false, Bool.false_eq_true, if_false, if_true]
   exact rchB_mir l hi hj
 | back, .alt l, i, j, hi, hj => by
  simp only [mirP, Rch]
  exact rchA_mir back l hi hj
 | back, .many x lo hi', i, j, hi, hj => by
  simp only [mirP, Rch]
  refine exists_congr fun n => and_congr Iff.rfl (and_congr Iff.rfl ?_)
  exact iter_mir (fun a b ha hr => rch_le x ha hr) (fun a b ha hr => by have := rch_le (mirP x) (pts := pts.reverse) (by simpa using ha) hr; simpa using this) (fun a b ha hb => rch_mir back x ha hb) hi hj
theorem rchF_mir : ∀ (l : List PatP) {i j : Nat}, i ≤ pts.length → j ≤ pts.length → (RchF has pts.reverse (!true) (mirPs l).reverse (pts.length - i) (pts.length - j) ↔ RchB has pts true l i j)
 | [], i, j, hi, hj => by simp only [mirPs, List.reverse_nil, RchF, RchB]; omega
 | x :: l, i, j, hi, hj => by
  simp only [mirPs, List.reverse_cons, RchB]
  rw [rchF_app]
  simp only [RchF]
  constructor
  ·rintro ⟨k, h1, m, h2, h3⟩
   subst h3
   have hk : k ≤ pts.length := by have := rchF_le (pts := pts.reverse) _ (by simp) h1; simpa using this
   have e : k = pts.length - (pts.length - k) := by omega
   rw [e] at h1 h2
   exact ⟨pts.length - k, (rchF_mir l hi (by omega)).1 h1, (rch_mir true x (by omega) hj).1 h2⟩
  ·rintro ⟨m, h1, h2⟩
   have hm : m ≤ pts.length := rchB_le l hi h1
   exact ⟨pts.length - m, (rchF_mir l hi hm).2 h1, _, (rch_mir true x hm hj).2 h2, rfl⟩
theorem rchB_mir : ∀ (l : List PatP) {i j : Nat}, i ≤ pts.length → j ≤ pts.length → (RchB has pts.reverse (!false) (mirPs l).reverse (pts.length - i) (pts.length - j) ↔ RchF has pts false l i j)
 | [], i, j, hi, hj => by simp only [mirPs, List.reverse_nil, RchF, RchB]; omega
 | x :: l, i, j, hi, hj => by
  simp only [mirPs, List.reverse_cons, RchF]
  rw [rchB_app]
  simp only [RchB]
  constructor
  ·rintro ⟨k, ⟨m, h3, h1⟩, h2⟩
   subst h3
   have hk : k ≤ pts.length := by have := rch_le (pts := pts.reverse) _ (by simp) h1; simpa using this
   have e : k = pts.length - (pts.length - k) := by omega
   rw [e] at h1 h2
   exact ⟨pts.length - k, (rch_mir false x hi (by omega)).1 h1, (rchB_mir l (by omega) hj).1 h2⟩
  ·rintro ⟨m, h1, h2⟩
   have hm : m ≤ pts.length := rch_le x hi h1
   exact ⟨pts.length - m, ⟨_, rfl, (rch_mir false x hi hm).2 h1⟩, (rchB_mir l hm hj).2 h2⟩
theorem rchA_mir : ∀ (back : Bool) (l : List PatP) {i j : Nat}, i ≤ pts.length → j ≤ pts.length → (RchA has pts.reverse (!back) (mirPs l) (pts.length - i) (pts.length - j) ↔ RchA has pts back l i j)
 | back, [], i, j, hi, hj => by simp only [mirPs, RchA]
 | back, x :: l, i, j, hi, hj => by
  simp only [mirPs, RchA]
  exact or_congr (rch_mir back x hi hj) (rchA_mir back l hi hj)
end
end
end Cae
end
section
set_option linter.unusedSimpArgs false
set_option linter.unusedVariables false
namespace Cae
open Classical

/-! Where files break texts, as they are meant. -/
section
variable (has : KindP → Int → Prop) (pts : List Int)
def standsM (x : PatP) (i : Nat) (back : Bool) : Prop := ∃ j, Rch has pts back x i j
def metM (r : RuleP) (i : Nat) : Prop := standsM has pts r.before i true ∧ standsM has pts r.after i false
noncomputable def saysM (els : Bool) (i : Nat) : List RuleP → Bool
 | [] => els
 | r :: l => if metM has pts r i then r.brk else saysM els i l
noncomputable def isM (rules : List RuleP) (els : Bool) (i : Nat) : Bool := saysM has pts els i rules || decide (i = 0) || decide (i = pts.length)
noncomputable def breaksM (rules : List RuleP) (els : Bool) : List Nat := if pts = [] then [] else (List.range (pts.length + 1)).filter (isM has pts rules els)
end
section
variable {has : KindP → Int → Prop} {pts : List Int}
theorem breaksM_mem {rules : List RuleP} {els : Bool} (hne : pts ≠ []) {i : Nat} : i ∈ breaksM has pts rules els ↔ i ≤ pts.length ∧ isM has pts rules els i = true := by
 unfold breaksM
 rw [if_neg hne, List.mem_filter, List.mem_range, Nat.lt_succ_iff]
def alwaysM (is : Bool) : RuleP := ⟨0, is, .cat [], .cat []⟩
theorem always_met (is : Bool) (i : Nat) : metM has pts (alwaysM is) i := ⟨⟨i, by simp [alwaysM, Rch, RchB]⟩, ⟨i, by simp [alwaysM, Rch, RchF]⟩⟩
def turnR (r : RuleP) : RuleP := { r with brk := !r.brk }
theorem turned_says (els : Bool) (i : Nat) : ∀ rules : List RuleP, saysM has pts (!els) i (rules.map turnR) = !saysM has pts els i rules
 | [] => rfl
 | r :: rules => by
  rw [List.map_cons, saysM, saysM]
  have h : metM has pts (turnR r) i = metM has pts r i := rfl
  rw [h]
  split
  ·rfl
  ·exact turned_says els i rules
theorem turned_in (rules : List RuleP) (els : Bool) {i : Nat} (h1 : 1 ≤ i) (h2 : i < pts.length) : (breaksM has pts (rules.map turnR) (!els)).contains i = !(breaksM has pts rules els).contains i := by
 have hne : pts ≠ [] := by intro e; subst e; simp at h2
 have key : ∀ (rs : List RuleP) (e : Bool), (breaksM has pts rs e).contains i = saysM has pts e i rs := by
  intro rs e
  have := breaksM_mem (has := has) (rules := rs) (els := e) hne (i := i)
  have h3 : isM has pts rs e i = saysM has pts e i rs := by unfold isM; rw [decide_eq_false (by omega), decide_eq_false (by omega), Bool.or_false, Bool.or_false]
  rw [h3] at this
  cases hs : saysM has pts e i rs with
  | true => simpa using this.2 ⟨by omega, hs⟩
  | false =>
   have : i ∉ breaksM has pts rs e := fun hm => by have := (this.1 hm).2; rw [hs] at this; cases this
   simpa using this
 rw [key, key, turned_says]
end
end Cae
end
section
set_option linter.unusedSimpArgs false
set_option linter.unusedVariables false
namespace Cae
open Classical

/-! So often is so often. -/
section
variable {has : KindP → Int → Prop} {pts : List Int} {back : Bool}
def Same (has : KindP → Int → Prop) (pts : List Int) (back : Bool) (x y : PatP) : Prop := ∀ i j, Rch has pts back x i j ↔ Rch has pts back y i j
theorem cat_two (x y : PatP) (i j : Nat) : Rch has pts back (.cat [x, y]) i j ↔ (if back then ∃ m, Rch has pts back y i m ∧ Rch has pts back x m j else ∃ m, Rch has pts back x i m ∧ Rch has pts back y m j) := by
 cases back <;> simp [Rch, RchF, RchB]
theorem Same.left {x y : PatP} (h : Same has pts back x y) (e : PatP) : Same has pts back (.cat [x, e]) (.cat [y, e]) := by
 intro i j
 rw [cat_two, cat_two]
 cases back
 ·exact exists_congr fun m => and_congr (h i m) Iff.rfl
 ·exact exists_congr fun m => and_congr Iff.rfl (h m j)
theorem Same.right {x y : PatP} (h : Same has pts back x y) (e : PatP) : Same has pts back (.cat [e, x]) (.cat [e, y]) := by
 intro i j
 rw [cat_two, cat_two]
 cases back
 ·exact exists_congr fun m => and_congr Iff.rfl (h m j)
 ·exact exists_congr fun m => and_congr (h i m) Iff.rfl
end

/-! Lists of places. -/
noncomputable def imgM (N : Nat) (R : Nat → Nat → Prop) (from_ : List Nat) : List Nat := (List.range (N + 1)).filter fun j => decide (∃ i ∈ from_, R i j)
theorem imgM_mem {N : Nat} {R : Nat → Nat → Prop} {l : List Nat} {j : Nat} : j ∈ imgM N R l ↔ j ≤ N ∧ ∃ i ∈ l, R i j := by
 unfold imgM
 rw [List.mem_filter, List.mem_range, Nat.lt_succ_iff, decide_eq_true_iff]
theorem imgM_rise (N : Nat) (R : Nat → Nat → Prop) (l : List Nat) : (imgM N R l).Pairwise (· < ·) := List.Pairwise.filter _ List.pairwise_lt_range
theorem rise_eq {l m : List Nat} (hl : l.Pairwise (· < ·)) (hm : m.Pairwise (· < ·)) (h : ∀ i, i ∈ l ↔ i ∈ m) : l = m :=
 List.Perm.eq_of_pairwise (fun a b _ _ h1 h2 => by omega) hl hm ((List.perm_ext_iff_of_nodup (hl.imp fun h => Nat.ne_of_lt h) (hm.imp fun h => Nat.ne_of_lt h)).2 h)
theorem rise_len {N : Nat} {l : List Nat} (hl : l.Pairwise (· < ·)) (h : ∀ i ∈ l, i ≤ N) : l.length ≤ N + 1 := by
 have e : l = (List.range (N + 1)).filter fun i => decide (i ∈ l) := rise_eq hl (List.Pairwise.filter _ List.pairwise_lt_range) fun i => by
  rw [List.mem_filter, List.mem_range, Nat.lt_succ_iff, decide_eq_true_iff]
  exact ⟨fun hi => ⟨h i hi, hi⟩, fun hi => hi.2⟩
 rw [e]
 exact Nat.le_trans (List.length_filter_le _ _) (by simp)
section
variable {R : Nat → Nat → Prop} {N : Nat}
def stM (R : Nat → Nat → Prop) (l : List Nat) (n : Nat) (j : Nat) : Prop := ∃ i ∈ l, iterM R n i j
theorem stM_succ {l : List Nat} {n j : Nat} : stM R l (n + 1) j ↔ ∃ m, stM R l n m ∧ R m j := by
 constructor
 ·rintro ⟨i, hi, h⟩
  obtain ⟨m, h1, h2⟩ := iterM_snoc.1 h
  exact ⟨m, ⟨i, hi, h1⟩, h2⟩
 ·rintro ⟨m, ⟨i, hi, h1⟩, h2⟩
  exact ⟨i, hi, iterM_snoc.2 ⟨m, h1, h2⟩⟩
theorem stM_fix {l : List Nat} {k : Nat} (h : ∀ j, stM R l (k + 1) j ↔ stM R l k j) : ∀ t j, stM R l (k + t) j ↔ stM R l k j
 | 0, j => Iff.rfl
 | t + 1, j => by
  rw [show k + (t + 1) = (k + t) + 1 by omega, stM_succ]
  constructor
  ·rintro ⟨m, h1, h2⟩
   exact (h j).1 (stM_succ.2 ⟨m, (stM_fix h t m).1 h1, h2⟩)
  ·intro hj
   obtain ⟨m, h1, h2⟩ := stM_succ.1 ((h j).2 hj)
   exact ⟨m, (stM_fix h t m).2 h1, h2⟩
theorem stM_done {l : List Nat} {a k : Nat} (h : ∀ j, stM R l (a + k + 1) j → ∃ s, s ≤ k ∧ stM R l (a + s) j) : ∀ t j, stM R l (a + t) j → ∃ s, s ≤ k ∧ stM R l (a + s) j
 | 0, j, hj => ⟨0, by omega, hj⟩
 | t + 1, j, hj => by
  obtain ⟨m, h1, h2⟩ := stM_succ.1 (show stM R l (a + t + 1) j from hj)
  obtain ⟨s, hs, h3⟩ := stM_done h t m h1
  have h4 : stM R l (a + s + 1) j := stM_succ.2 ⟨m, h3, h2⟩
  by_cases he : s = k
  ·subst he; exact h j h4
  ·exact ⟨s + 1, by omega, h4⟩
theorem stM_none {l : List Nat} {a : Nat} (h : ∀ j, ¬ stM R l a j) : ∀ t j, ¬ stM R l (a + t) j
 | 0, j => h j
 | t + 1, j => fun hj => by
  obtain ⟨m, h1, _⟩ := stM_succ.1 (show stM R l (a + t + 1) j from hj)
  exact stM_none h t m h1
end
end Cae
end
section
set_option linter.unusedSimpArgs false
set_option linter.unusedVariables false
namespace Cae
inductive All2 {α β : Type} (R : α → β → Prop) : List α → List β → Prop
 | nil : All2 R [] []
 | cons {x y l m} : R x y → All2 R l m → All2 R (x :: l) (y :: m)
theorem All2.snoc {α β : Type} {R : α → β → Prop} {l : List α} {m : List β} {x : α} {y : β} (h : All2 R l m) (hr : R x y) : All2 R (l ++ [x]) (m ++ [y]) := by
 induction h with
 | nil => exact .cons hr .nil
 | cons h1 _ ih => exact .cons h1 ih
theorem All2.len {α β : Type} {R : α → β → Prop} {l : List α} {m : List β} (h : All2 R l m) : l.length = m.length := by
 induction h with
 | nil => rfl
 | cons _ _ ih => simp [ih]
end Cae
end
section
set_option linter.unusedSimpArgs false
set_option linter.unusedVariables false
namespace Cae

/-! What is read hangs on what is taken alone, and on what kind and text the next token has. -/
def key (t : Tok) : Nat × List UInt8 := (t.kind, t.text)
def EqT (a b : List Tok) : Prop := a.map key = b.map key
def EqH (a b : List Tok) : Prop := key (hd a) = key (hd b)
def NoEnd (a : List Tok) : Prop := ∀ t ∈ a, t.kind ≠ 5
theorem EqT.refl (a : List Tok) : EqT a a := rfl
theorem EqT.len {a b : List Tok} (h : EqT a b) : a.length = b.length := by simpa [EqT] using congrArg List.length h
theorem EqT.split {a b c : List Tok} (h : EqT (a ++ b) c) : ∃ x y, c = x ++ y ∧ EqT a x ∧ EqT b y := by
 have h' : a.map key ++ b.map key = c.map key := by simpa [EqT] using h
 refine ⟨c.take a.length, c.drop a.length, (List.take_append_drop _ _).symm, ?_, ?_⟩
 ·have := congrArg (List.take a.length) h'
  simpa [EqT, List.take_append, List.map_take] using this
 ·have := congrArg (List.drop a.length) h'
  simpa [EqT, List.drop_append, List.map_drop] using this
theorem EqH.app {a b c d : List Tok} (h : EqT a b) (h' : EqH c d) : EqH (a ++ c) (b ++ d) := by
 cases a with
 | nil => cases b with
  | nil => exact h'
  | cons y b => simp [EqT] at h
 | cons x a => cases b with
  | nil => simp [EqT] at h
  | cons y b => simp only [EqT, List.map_cons, List.cons.injEq] at h; exact h.1
theorem EqH.apps {a b : List Tok} (h : EqT a b) (hne : a ≠ []) (c d : List Tok) : EqH (a ++ c) (b ++ d) := by
 cases a with
 | nil => exact absurd rfl hne
 | cons x a => cases b with
  | nil => simp [EqT] at h
  | cons y b => simp only [EqT, List.map_cons, List.cons.injEq] at h; exact h.1

def Lo {α β : Type} (R : α → β → Prop) (p : Pa α) (p' : Pa β) : Prop := ∀ l x l', p l = .ok (x, l') → ∃ pre, NoEnd pre ∧ l = pre ++ l' ∧ ∀ pre2 l2, EqT pre pre2 → EqH l' l2 → ∃ x2, R x x2 ∧ p' (pre2 ++ l2) = .ok (x2, l2)
def LoS {α β : Type} (R : α → β → Prop) (p : Pa α) (p' : Pa β) : Prop := ∀ l x l', p l = .ok (x, l') → ∃ pre, pre ≠ [] ∧ NoEnd pre ∧ l = pre ++ l' ∧ ∀ pre2 l2, EqT pre pre2 → ∃ x2, R x x2 ∧ p' (pre2 ++ l2) = .ok (x2, l2)
section
variable {α β γ δ : Type} {R : α → β → Prop} {S : γ → δ → Prop} {p : Pa α} {p' : Pa β} {q : α → Pa γ} {q' : β → Pa δ}
theorem LoS.lo (h : LoS R p p') : Lo R p p' := fun l x l' e => by
 obtain ⟨pre, _, h1, h2, h3⟩ := h l x l' e
 exact ⟨pre, h1, h2, fun a b ha _ => h3 a b ha⟩
theorem Lo.pr {x : α} {y : β} (h : R x y) : Lo R (pr x) (pr y) := fun l x' l' e => by
 cases e
 refine ⟨[], by simp [NoEnd], rfl, fun pre2 l2 hp _ => ?_⟩
 have : pre2 = [] := List.length_eq_zero_iff.1 hp.len.symm
 subst this
 exact ⟨y, h, rfl⟩
theorem Lo.fail {e : Nat} : Lo R (pfail e) p' := fun l x l' h => by cases h
theorem LoS.fail {e : Nat} : LoS R (pfail e) p' := fun l x l' h => by cases h
theorem pb_ok {p : Pa α} {q : α → Pa γ} {l l' : List Tok} {y : γ} (h : pb p q l = .ok (y, l')) : ∃ x l1, p l = .ok (x, l1) ∧ q x l1 = .ok (y, l') := by
 unfold pb at h
 split at h
 ·cases h
 ·rename_i x l1 e; exact ⟨x, l1, e, h⟩
theorem pb_of {p : Pa α} {q : α → Pa γ} {l l1 : List Tok} {x : α} (h : p l = .ok (x, l1)) : pb p q l = q x l1 := by
 unfold pb; rw [h]
theorem Lo.pb (h : Lo R p p') (k : ∀ x y, R x y → Lo S (q x) (q' y)) : Lo S (pb p q) (pb p' q') := fun l z l' e => by
 obtain ⟨x, l1, e1, e2⟩ := pb_ok e
 obtain ⟨a, na, rfl, ha⟩ := h l x l1 e1
 obtain ⟨y0, hy0, _⟩ := ha a l1 (EqT.refl _) rfl
 obtain ⟨b, nb, rfl, _⟩ := k x y0 hy0 _ z l' e2
 refine ⟨a ++ b, fun t ht => (List.mem_append.1 ht).elim (na t) (nb t), by rw [List.append_assoc], fun pre2 l2 hp hh => ?_⟩
 obtain ⟨u, v, rfl, hu, hv⟩ := hp.split
 rw [List.append_assoc]
 obtain ⟨y, hy, ey⟩ := ha u (v ++ l2) hu (EqH.app hv hh)
 obtain ⟨b', nb', eb, hb⟩ := k x y hy _ z l' e2
 obtain rfl := List.append_cancel_right eb
 obtain ⟨z2, hz, ez⟩ := hb v l2 hv hh
 exact ⟨z2, hz, by rw [pb_of ey]; exact ez⟩
theorem LoS.pb (h : Lo R p p') (k : ∀ x y, R x y → LoS S (q x) (q' y)) : LoS S (pb p q) (pb p' q') := fun l z l' e => by
 obtain ⟨x, l1, e1, e2⟩ := pb_ok e
 obtain ⟨a, na, rfl, ha⟩ := h l x l1 e1
 obtain ⟨y0, hy0, _⟩ := ha a l1 (EqT.refl _) rfl
 obtain ⟨b, bne, nb, rfl, _⟩ := k x y0 hy0 _ z l' e2
 refine ⟨a ++ b, by simp [bne], fun t ht => (List.mem_append.1 ht).elim (na t) (nb t), by rw [List.append_assoc], fun pre2 l2 hp => ?_⟩
 obtain ⟨u, v, rfl, hu, hv⟩ := hp.split
 rw [List.append_assoc]
 obtain ⟨y, hy, ey⟩ := ha u (v ++ l2) hu (EqH.apps hv bne _ _)
 obtain ⟨b', _, nb', eb, hb⟩ := k x y hy _ z l' e2
 obtain rfl := List.append_cancel_right eb
 obtain ⟨z2, hz, ez⟩ := hb v l2 hv
 exact ⟨z2, hz, by rw [pb_of ey]; exact ez⟩
theorem LoS.map {f : α → γ} {f' : β → δ} (h : LoS R p p') (k : ∀ x y, R x y → S (f x) (f' y)) : LoS S (Cae.pb p fun x => Cae.pr (f x)) (Cae.pb p' fun y => Cae.pr (f' y)) := fun l z l' e => by
 obtain ⟨x, l1, e1, e2⟩ := pb_ok e
 cases e2
 obtain ⟨a, ane, na, rfl, ha⟩ := h l x l' e1
 refine ⟨a, ane, na, rfl, fun pre2 l2 hp => ?_⟩
 obtain ⟨y, hy, ey⟩ := ha pre2 l2 hp
 exact ⟨f' y, k x y hy, by rw [pb_of ey]; rfl⟩
theorem Lo.pif {c c' : List Tok → Bool} {p1 p2 : Pa α} {p1' p2' : Pa β} (hc : ∀ a b, EqH a b → c a = c' b) (h1 : Lo R p1 p1') (h2 : Lo R p2 p2') : Lo R (pif c p1 p2) (pif c' p1' p2') := fun l x l' e => by
 unfold Cae.pif at e
 cases hcl : c l with
 | true =>
  rw [hcl] at e
  obtain ⟨a, na, rfl, ha⟩ := h1 l x l' e
  refine ⟨a, na, rfl, fun pre2 l2 hp hh => ?_⟩
  obtain ⟨y, hy, ey⟩ := ha pre2 l2 hp hh
  refine ⟨y, hy, ?_⟩
  unfold Cae.pif
  rw [← hc _ _ (EqH.app hp hh), hcl]
  exact ey
 | false =>
  rw [hcl] at e
  obtain ⟨a, na, rfl, ha⟩ := h2 l x l' e
  refine ⟨a, na, rfl, fun pre2 l2 hp hh => ?_⟩
  obtain ⟨y, hy, ey⟩ := ha pre2 l2 hp hh
  refine ⟨y, hy, ?_⟩
  unfold Cae.pif
  rw [← hc _ _ (EqH.app hp hh), hcl]
  exact ey
theorem LoS.pif {c c' : List Tok → Bool} {p1 p2 : Pa α} {p1' p2' : Pa β} (hc : ∀ a b, EqH a b → c a = c' b) (h1 : LoS R p1 p1') (h2 : LoS R p2 p2') : LoS R (pif c p1 p2) (pif c' p1' p2') := fun l x l' e => by
 unfold Cae.pif at e
 cases hcl : c l with
 | true =>
  rw [hcl] at e
  obtain ⟨a, ane, na, rfl, ha⟩ := h1 l x l' e
  refine ⟨a, ane, na, rfl, fun pre2 l2 hp => ?_⟩
  obtain ⟨y, hy, ey⟩ := ha pre2 l2 hp
  refine ⟨y, hy, ?_⟩
  unfold Cae.pif
  rw [← hc _ _ (EqH.apps hp ane _ _), hcl]
  exact ey
 | false =>
  rw [hcl] at e
  obtain ⟨a, ane, na, rfl, ha⟩ := h2 l x l' e
  refine ⟨a, ane, na, rfl, fun pre2 l2 hp => ?_⟩
  obtain ⟨y, hy, ey⟩ := ha pre2 l2 hp
  refine ⟨y, hy, ?_⟩
  unfold Cae.pif
  rw [← hc _ _ (EqH.apps hp ane _ _), hcl]
  exact ey
theorem Lo.peek : Lo (fun t u => key t = key u) peek peek := fun l x l' e => by
 cases e
 refine ⟨[], by simp [NoEnd], rfl, fun pre2 l2 hp hh => ?_⟩
 have : pre2 = [] := List.length_eq_zero_iff.1 hp.len.symm
 subst this
 exact ⟨hd l2, hh, rfl⟩
theorem LoS.pop : LoS (fun _ _ => True) popP popP := fun l x l' e => by
 cases l with
 | nil => cases e
 | cons t r =>
  by_cases h5 : t.kind = 5
  ·simp [popP, h5] at e
  ·have e' : popP (t :: r) = .ok ((), r) := by simp [popP, h5]
   rw [e'] at e
   cases e
   refine ⟨[t], by simp, by simpa [NoEnd] using h5, rfl, fun pre2 l2 hp => ⟨(), trivial, ?_⟩⟩
   cases pre2 with
   | nil => simp [EqT] at hp
   | cons u v =>
    have hv : v = [] := by
     have := hp.len
     simpa using this.symm
    subst hv
    have hk : t.kind = u.kind := by
     simp only [EqT, List.map_cons, List.map_nil, List.cons.injEq, key, Prod.mk.injEq] at hp
     exact hp.1.1
    show popP (u :: l2) = _
    have h5' : ¬ u.kind = 5 := by rw [← hk]; exact h5
    simp [popP, h5']
end
/-! conditions -/
theorem EqH.kind {a b : List Tok} (h : EqH a b) : (hd a).kind = (hd b).kind := (Prod.mk.inj h).1
theorem EqH.text {a b : List Tok} (h : EqH a b) : (hd a).text = (hd b).text := (Prod.mk.inj h).2
theorem c_kind (k : Nat) (a b : List Tok) (h : EqH a b) : isKind k a = isKind k b := by unfold isKind; rw [h.kind]
theorem c_see (s : List UInt8) (a b : List Tok) (h : EqH a b) : seeP s a = seeP s b := by unfold seeP; rw [h.kind, h.text]
theorem c_named (a b : List Tok) (h : EqH a b) : namedP a = namedP b := by unfold namedP; rw [h.kind, h.text]
theorem c_long (a b : List Tok) (h : EqH a b) : longP a = longP b := by unfold longP; rw [h.text]
theorem c_start (a b : List Tok) (h : EqH a b) : startP a = startP b := by unfold startP; rw [c_kind 3 a b h, c_named a b h, c_see _ a b h, c_see _ a b h, c_see _ a b h]
theorem c_unit (a b : List Tok) (h : EqH a b) : unitStart a = unitStart b := by unfold unitStart; rw [c_kind 3 a b h, c_named a b h]
/-! what is written is alike -/
def KE (k k2 : KindP) : Prop := ∀ a, kindText k a = kindText k2 a
def PE (x x2 : PatP) : Prop := ∀ n, patText x n = patText x2 n
theorem KE.not {p p2 : Nat} {k k2 : KindP} (h : KE k k2) : KE (.not p k) (.not p2 k2) := fun a => by simp only [kindText]; rw [h]
theorem KE.bin {c p p2 : Nat} {k k2 r r2 : KindP} (h : KE k k2) (h' : KE r r2) : KE (.bin c p k r) (.bin c p2 k2 r2) := fun a => by simp only [kindText]; rw [h, h']
theorem pts_eq {l m : List PatP} (h : All2 PE l m) (n : Nat) : patTexts l n = patTexts m n := by
 induction h with
 | nil => rfl
 | cons h1 _ ih => simp only [patTexts]; rw [h1, ih]
theorem PE.cat {l m : List PatP} (h : All2 PE l m) : PE (.cat l) (.cat m) := fun n => by simp only [patText]; rw [pts_eq h]
theorem PE.alt {l m : List PatP} (h : All2 PE l m) : PE (.alt l) (.alt m) := fun n => by simp only [patText]; rw [pts_eq h]
theorem PE.many {x x2 : PatP} {lo hi : Int} (h : PE x x2) : PE (.many x lo hi) (.many x2 lo hi) := fun n => by simp only [patText]; rw [h]
theorem PE.one {k k2 : KindP} (h : KE k k2) : PE (.one k) (.one k2) := fun n => by simp only [patText]; rw [h]
theorem PE.row {l m : List PatP} (h : All2 PE l m) : PE (rowOf l) (rowOf m) := by
 cases h with
 | nil => exact PE.cat .nil
 | cons h1 h2 => cases h2 with
  | nil => exact h1
  | cons h3 h4 => exact PE.cat (.cons h1 (.cons h3 h4))
theorem PE.altOf {l m : List PatP} (h : All2 PE l m) : PE (altOf l) (altOf m) := by
 cases h with
 | nil => exact PE.alt .nil
 | cons h1 h2 => cases h2 with
  | nil => exact h1
  | cons h3 h4 => exact PE.alt (.cons h1 (.cons h3 h4))
def TT {α β : Type} : α → β → Prop := fun _ _ => True
theorem lo_pop : LoS TT popP popP := LoS.pop
theorem lo_must (s : List UInt8) : LoS TT (mustP s) (mustP s) := LoS.pif (c_see s) lo_pop LoS.fail
theorem lo_name : LoS Eq nameP nameP := LoS.pif c_named (LoS.pif c_long LoS.fail (LoS.pb Lo.peek fun t u h => LoS.map lo_pop fun _ _ _ => (Prod.mk.inj h).2)) LoS.fail
theorem lo_bin : Lo Eq binP binP := Lo.pif (c_see _) (LoS.map lo_pop fun _ _ _ => rfl).lo (Lo.pif (c_see _) (LoS.map lo_pop fun _ _ _ => rfl).lo (Lo.pif (c_see _) (LoS.map lo_pop fun _ _ _ => rfl).lo (Lo.pr rfl)))
theorem lo_kindLoop {one one2 : Pa KindP} (h : Lo KE one one2) (a b : Nat) : ∀ (n : Nat) (k k2 : KindP), KE k k2 → Lo KE (kindLoop one a n k) (kindLoop one2 b n k2)
 | 0, _, _, _ => Lo.fail
 | n + 1, k, k2, hk => Lo.pb lo_bin fun c c2 e => by
   subst e
   by_cases h0 : c = 0
   ·rw [if_pos h0, if_pos h0]; exact Lo.pr hk
   ·rw [if_neg h0, if_neg h0]
    exact Lo.pb h fun r r2 hr => lo_kindLoop h a b n _ _ (KE.bin hk hr)
theorem lo_kindW {one one2 : Pa KindP} (h : Lo KE one one2) : Lo KE (kindW one) (kindW one2) := Lo.pb Lo.peek fun _ _ _ => Lo.pb h fun k k2 hk => lo_kindLoop h _ _ _ _ _ hk
theorem lo_lit : LoS KE litP litP := LoS.pb Lo.peek fun t u h => by
 have ht : t.text = u.text := (Prod.mk.inj h).2
 rw [ht]
 cases setP u.text with
 | none => exact LoS.fail
 | some s => exact LoS.map lo_pop fun _ _ _ a => rfl
theorem lo_one : ∀ d, Lo KE (oneP d) (oneP d)
 | 0 => Lo.fail
 | d + 1 => Lo.pif (c_kind 3) lo_lit.lo (Lo.pif (c_see _) (Lo.pb Lo.peek fun _ _ _ => Lo.pb lo_pop.lo fun _ _ _ => Lo.pb (lo_one d) fun k k2 h => Lo.pr (KE.not h))
   (Lo.pif (c_see _) (Lo.pb lo_pop.lo fun _ _ _ => Lo.pb (lo_kindW (lo_one d)) fun k k2 h => (LoS.map (lo_must _) fun _ _ _ => h).lo)
    (Lo.pb Lo.peek fun _ _ _ => (LoS.map lo_name fun n n2 e a => by simp only [kindText]; exact e).lo)))
theorem lo_times : LoS Eq timesP timesP := LoS.pif (c_kind 2) (LoS.pb Lo.peek fun t u h => by
 have ht : t.text = u.text := (Prod.mk.inj h).2
 rw [ht]
 by_cases h0 : 12 < decV u.text
 ·rw [if_pos h0]; exact LoS.fail
 ·rw [if_neg h0]; exact LoS.map lo_pop fun _ _ _ => rfl) LoS.fail
theorem lo_braces : Lo Eq bracesP bracesP := Lo.pb lo_times.lo fun lo lo2 e => by
 subst e
 refine Lo.pif (c_see _) (Lo.pb lo_pop.lo fun _ _ _ => Lo.pif (c_kind 2) (Lo.pb lo_times.lo fun hi hi2 e => ?_) (LoS.map (lo_must _) fun _ _ _ => rfl).lo) (LoS.map (lo_must _) fun _ _ _ => rfl).lo
 subst e
 by_cases h0 : hi < lo
 ·rw [if_pos h0]; exact Lo.fail
 ·rw [if_neg h0]; exact (LoS.map (lo_must _) fun _ _ _ => rfl).lo
theorem lo_suffix : Lo Eq suffixP suffixP := Lo.pif (c_see _) (LoS.map lo_pop fun _ _ _ => rfl).lo (Lo.pif (c_see _) (LoS.map lo_pop fun _ _ _ => rfl).lo (Lo.pif (c_see _) (LoS.map lo_pop fun _ _ _ => rfl).lo
 (Lo.pif (c_see _) (Lo.pb lo_pop.lo fun _ _ _ => Lo.pb lo_braces fun r r2 e => Lo.pr (by rw [e])) (Lo.pr rfl))))
theorem lo_againLoop (d : Nat) : ∀ (n c : Nat) (x x2 : PatP), PE x x2 → Lo PE (againLoop d n c x) (againLoop d n c x2)
 | 0, _, _, _, _ => Lo.fail
 | n + 1, c, x, x2, h => Lo.pb lo_suffix fun r r2 e => by
   subst e
   cases r with
   | none => exact Lo.pr h
   | some q =>
    show Lo PE (if d ≤ c + 1 then _ else _) (if d ≤ c + 1 then _ else _)
    by_cases h0 : d ≤ c + 1
    ·rw [if_pos h0, if_pos h0]; exact Lo.fail
    ·rw [if_neg h0, if_neg h0]; exact lo_againLoop d n (c + 1) _ _ (PE.many h)
theorem lo_againW {d : Nat} {unit unit2 : Pa PatP} (h : Lo PE unit unit2) : Lo PE (againW d unit) (againW d unit2) := Lo.pb h fun x x2 hx => lo_againLoop d _ _ _ _ hx
theorem lo_rowLoop {again again2 : Pa PatP} (h : Lo PE again again2) : ∀ (n : Nat) (a b : List PatP), All2 PE a b → Lo (All2 PE) (rowLoop again n a) (rowLoop again2 n b)
 | 0, _, _, _ => Lo.fail
 | n + 1, a, b, hab => Lo.pif c_start (Lo.pb h fun x x2 hx => lo_rowLoop h n _ _ (hab.snoc hx)) (Lo.pr hab)
theorem lo_rowW {again again2 : Pa PatP} (h : Lo PE again again2) : Lo PE (rowW again) (rowW again2) := Lo.pb (lo_rowLoop h _ _ _ .nil) fun _ _ hx => Lo.pr (PE.row hx)
theorem lo_altLoop {row row2 : Pa PatP} (h : Lo PE row row2) : ∀ (n : Nat) (a b : List PatP), All2 PE a b → Lo (All2 PE) (altLoop row n a) (altLoop row2 n b)
 | 0, _, _, _ => Lo.fail
 | n + 1, a, b, hab => Lo.pif (c_see _) (Lo.pb lo_pop.lo fun _ _ _ => Lo.pb h fun x x2 hx => lo_altLoop h n _ _ (hab.snoc hx)) (Lo.pr hab)
theorem lo_altW {row row2 : Pa PatP} (h : Lo PE row row2) : Lo PE (altW row) (altW row2) := Lo.pb h fun x x2 hx => Lo.pb (lo_altLoop h _ _ _ (.cons hx .nil)) fun _ _ hx => Lo.pr (PE.altOf hx)
theorem lo_patW {d : Nat} {unit unit2 : Pa PatP} (h : Lo PE unit unit2) : Lo PE (patW d unit) (patW d unit2) := by
 unfold patW
 by_cases h0 : d = 0
 ·rw [if_pos h0, if_pos h0]; exact Lo.fail
 ·rw [if_neg h0, if_neg h0]; exact lo_altW (lo_rowW (lo_againW h))
theorem lo_unit : ∀ d, Lo PE (unitP d) (unitP d)
 | 0 => Lo.fail
 | d + 1 => Lo.pif (c_see _) (LoS.map lo_pop fun _ _ _ _ => rfl).lo (Lo.pif (c_see _) (LoS.map lo_pop fun _ _ _ _ => rfl).lo
   (Lo.pif (c_see _) (Lo.pb lo_pop.lo fun _ _ _ => Lo.pb (lo_patW (lo_unit d)) fun x x2 h => (LoS.map (lo_must _) fun _ _ _ => h).lo)
    (Lo.pif c_unit (Lo.pb (lo_one (d + 1)) fun k k2 h => Lo.pr (PE.one h)) Lo.fail)))
theorem lo_pat (d : Nat) : Lo PE (patP d) (patP d) := lo_patW (lo_unit d)
theorem lo_says : LoS Eq saysP saysP := LoS.pif (c_see _) (LoS.map lo_pop fun _ _ _ => rfl) (LoS.map (lo_must _) fun _ _ _ => rfl)
def RE (r r2 : RuleP) : Prop := ruleText r = ruleText r2
theorem lo_rule : LoS RE ruleP ruleP := LoS.pb Lo.peek fun t t2 _ => LoS.pb lo_says.lo fun b b2 e => LoS.pb (lo_pat 9) fun x x2 hx => LoS.pb (lo_must _).lo fun _ _ _ => LoS.pb (lo_pat 9) fun y y2 hy => LoS.map (lo_must _) fun _ _ _ => by
 subst e
 show ruleText _ = ruleText _
 unfold ruleText
 rw [hx 0, hy 0]
end Cae
end
section
set_option linter.unusedSimpArgs false
set_option linter.unusedVariables false
namespace Cae

/-! Tokens of two texts, one behind the other. -/
inductive Tk : Nat → List UInt8 → List Tok → Prop
 | nil (i) : Tk i [] []
 | blank {i c r l} : (c = 32 ∨ c = 10) → Tk (i + 1) r l → Tk i (c :: r) l
 | note {i c r l} : ¬ (c = 32 ∨ c = 10) → c = 35 → Tk (i + runP (· != 10) (c :: r)) ((c :: r).drop (runP (· != 10) (c :: r))) l → Tk i (c :: r) l
 | tok {i c r l} : ¬ (c = 32 ∨ c = 10) → ¬ c = 35 → (nextT (c :: r)).2 ≠ 0 → Tk (i + (nextT (c :: r)).2) ((c :: r).drop (nextT (c :: r)).2) l → Tk i (c :: r) (⟨(nextT (c :: r)).1, (c :: r).take (nextT (c :: r)).2, i⟩ :: l)

theorem runP_le (f : UInt8 → Bool) (s : List UInt8) : runP f s ≤ s.length := by
 unfold runP
 have := List.takeWhile_append_dropWhile (p := f) (l := s)
 have h := congrArg List.length this
 rw [List.length_append] at h
 omega
theorem runP_pos {f : UInt8 → Bool} {c : UInt8} {r : List UInt8} (h : f c = true) : 0 < runP f (c :: r) := by
 unfold runP; rw [List.takeWhile_cons, if_pos h, List.length_cons]; omega
theorem contains_run {s : List UInt8} {c : UInt8} (h : s.contains c = true) : runP (· != c) s < s.length := by
 induction s with
 | nil => simp at h
 | cons x s ih =>
  unfold runP at *
  by_cases hx : x = c
  ·subst hx; simp [List.takeWhile_cons]
  ·have h' : s.contains c = true := by
    rw [List.contains_cons] at h
    have : (c == x) = false := by simpa using Ne.symm hx
    rw [this] at h; simpa using h
   rw [List.takeWhile_cons, if_pos (by simpa using hx), List.length_cons, List.length_cons]
   have := ih h'
   omega
theorem nextT_cons (c : UInt8) (r : List UInt8) : nextT (c :: r) = if letterP c then (1, runP (fun c => letterP c || digitP c) (c :: r)) else if digitP c then (2, runP digitP (c :: r))
  else if c = 91 then (3, if (c :: r).contains 93 then runP (· != 93) (c :: r) + 1 else 0) else if markL.contains c then (4, 1) else (4, 0) := rfl
theorem nextT_le (c : UInt8) (r : List UInt8) : (nextT (c :: r)).2 ≤ (c :: r).length := by
 rw [nextT_cons]
 split
 ·exact runP_le _ _
 ·split
  ·exact runP_le _ _
  ·split
   ·split
    ·rename_i h; exact contains_run h
    ·simp
   ·split <;> simp
theorem tokLoop_tk : ∀ (n i : Nat) (s : List UInt8) (acc r : List Tok), acc.length ≤ 500 → tokLoop n i s acc = .ok r → ∃ l, Tk i s l ∧ r = acc ++ l ++ [⟨5, [], i + s.length⟩] ∧ acc.length + l.length ≤ 500
 | 0, _, _, _, _, _, h => by cases h
 | n + 1, i, [], acc, r, ha, h => by
   cases h
   exact ⟨[], .nil i, by simp, by simpa using ha⟩
 | n + 1, i, c :: s, acc, r, ha, h => by
   unfold tokLoop at h
   by_cases h1 : c = 32 ∨ c = 10
   ·rw [if_pos h1] at h
    obtain ⟨l, hl, e, hn⟩ := tokLoop_tk n _ _ _ _ ha h
    exact ⟨l, .blank h1 hl, by rw [e, List.length_cons, Nat.add_right_comm, Nat.add_assoc], hn⟩
   ·rw [if_neg h1] at h
    by_cases h2 : c = 35
    ·rw [if_pos h2] at h
     obtain ⟨l, hl, e, hn⟩ := tokLoop_tk n _ _ _ _ ha h
     have := runP_le (· != 10) (c :: s)
     exact ⟨l, .note h1 h2 hl, by rw [e, List.length_drop, Nat.add_assoc, Nat.add_sub_cancel' this], hn⟩
    ·rw [if_neg h2] at h
     by_cases h3 : (nextT (c :: s)).2 = 0
     ·rw [if_pos h3] at h; cases h
     ·rw [if_neg h3] at h
      by_cases h4 : acc.length = 500
      ·rw [if_pos h4] at h; cases h
      ·rw [if_neg h4] at h
       obtain ⟨l, hl, e, hn⟩ := tokLoop_tk n _ _ _ _ (by rw [List.length_append, List.length_singleton]; omega) h
       have := nextT_le c s
       exact ⟨_ :: l, .tok h1 h2 h3 hl, by rw [e, List.length_drop, Nat.add_assoc, Nat.add_sub_cancel' this]; simp, by rw [List.length_append, List.length_singleton] at hn; rw [List.length_cons]; omega⟩
theorem Tk.shift {i : Nat} {s : List UInt8} {l : List Tok} (h : Tk i s l) : ∀ j, ∃ m, Tk j s m ∧ EqT l m := by
 induction h with
 | nil i => exact fun j => ⟨[], .nil j, rfl⟩
 | @blank i c r l h1 hl ih => exact fun j => by obtain ⟨m, hm, e⟩ := ih (j + 1); exact ⟨m, .blank h1 hm, e⟩
 | @note i c r l h1 h2 hl ih => exact fun j => by obtain ⟨m, hm, e⟩ := ih (j + runP (· != 10) (c :: r)); exact ⟨m, .note h1 h2 hm, e⟩
 | @tok i c r l h1 h2 h3 hl ih =>
  intro j
  obtain ⟨m, hm, e⟩ := ih (j + (nextT (c :: r)).2)
  exact ⟨_, .tok h1 h2 h3 hm, by unfold EqT at *; rw [List.map_cons, List.map_cons, e]; rfl⟩
theorem Tk.infix {i : Nat} {s : List UInt8} {l : List Tok} (h : Tk i s l) : ∀ t ∈ l, t.text <:+: s := by
 induction h with
 | nil i => simp
 | @blank i c r l h1 hl ih => exact fun t ht => (ih t ht).trans (List.suffix_cons c r).isInfix
 | @note i c r l h1 h2 hl ih => exact fun t ht => (ih t ht).trans (List.drop_suffix _ _).isInfix
 | @tok i c r l h1 h2 h3 hl ih =>
  intro t ht
  rcases List.mem_cons.1 ht with rfl | ht
  ·exact (List.take_prefix _ _).isInfix
  ·exact (ih t ht).trans (List.drop_suffix _ _).isInfix
def sumT (l : List Tok) : Nat := (l.map fun t => t.text.length).sum
theorem Tk.sum {i : Nat} {s : List UInt8} {l : List Tok} (h : Tk i s l) : sumT l ≤ s.length ∧ ∀ t ∈ l, 0 < t.text.length := by
 induction h with
 | nil i => simp [sumT]
 | @blank i c r l h1 hl ih => exact ⟨by rw [List.length_cons]; omega, ih.2⟩
 | @note i c r l h1 h2 hl ih => exact ⟨by have := ih.1; rw [List.length_drop] at this; omega, ih.2⟩
 | @tok i c r l h1 h2 h3 hl ih =>
  have h4 := nextT_le c r
  have h5 := ih.1
  rw [List.length_drop] at h5
  have h6 : ((c :: r).take (nextT (c :: r)).2).length = (nextT (c :: r)).2 := by rw [List.length_take]; omega
  refine ⟨?_, fun t ht => ?_⟩
  ·have : sumT (⟨(nextT (c :: r)).1, (c :: r).take (nextT (c :: r)).2, i⟩ :: l) = ((c :: r).take (nextT (c :: r)).2).length + sumT l := by simp [sumT]
   rw [this, h6]; omega
  ·rcases List.mem_cons.1 ht with rfl | ht
   ·show 0 < ((c :: r).take (nextT (c :: r)).2).length
    rw [h6]; omega
   ·exact ih.2 t ht

theorem parseR_ok {s : List UInt8} {f : FileP} (h : parseR s = .ok f) : ∃ l l', Tk 0 s l ∧ l.length ≤ 500 ∧ fileP (l ++ [⟨5, [], s.length⟩]) = .ok (f, l') ∧ isKind 5 l' = true := by
 unfold parseR at h
 split at h
 ·cases h
 ·rename_i l ht
  split at h
  ·cases h
  ·rename_i g l' hf
   split at h
   ·rename_i hk
    cases h
    obtain ⟨m, hm, e, hn⟩ := tokLoop_tk _ _ _ _ _ (by simp) ht
    simp only [List.nil_append, Nat.zero_add] at e
    subst e
    exact ⟨m, l', hm, by simpa using hn, hf, hk⟩
   ·cases h
theorem fileP_ok {l l' : List Tok} {f : FileP} (h : fileP l = .ok (f, l')) : ∃ l1 l2, classLoop 1000 [] l = .ok (f.classes, l1) ∧ ruleLoop 1000 [] l1 = .ok (f.rules, l2) ∧ elseP l2 = .ok (f.els, l') := by
 obtain ⟨cs, l1, h1, h⟩ := pb_ok h
 obtain ⟨rs, l2, h2, h⟩ := pb_ok h
 obtain ⟨b, l3, h3, h⟩ := pb_ok h
 cases h
 exact ⟨l1, l2, h1, h2, h3⟩
end Cae
end
section
set_option linter.unusedSimpArgs false
set_option linter.unusedVariables false
namespace Cae
theorem setP_ok {s : List UInt8} {l : List Rg} (h : setP s = some l) : PrintOf s l := by
 have key : ∀ l' : List Rg, (if setRight (-2) l' && printP l' == s then some l' else none) = some l → PrintOf s l := fun l' h => by
  by_cases hc : (setRight (-2) l' && printP l' == s) = true
  ·rw [if_pos hc] at h
   obtain rfl := Option.some.inj h
   simp only [Bool.and_eq_true, beq_iff_eq] at hc
   exact ⟨hc.1, hc.2⟩
  ·rw [if_neg hc] at h; cases h
 exact key _ h
end Cae
end
section
set_option linter.unusedSimpArgs false
set_option linter.unusedVariables false
namespace Cae

/-! How long what is written is, at most. -/
def W (l : List Tok) : Nat := (l.map fun t => 2 * t.text.length + 9).sum
theorem W_cons (t : Tok) (l : List Tok) : W (t :: l) = 2 * t.text.length + 9 + W l := by simp [W]
def Me {α : Type} (c : Nat) (μ : α → Nat) (p : Pa α) : Prop := ∀ l x l', p l = .ok (x, l') → μ x + W l' ≤ W l + c
section
variable {α β : Type} {c d : Nat} {μ : α → Nat} {ν : β → Nat} {p : Pa α} {q : α → Pa β}
theorem Me.pr {x : α} : Me (μ x) μ (pr x) := fun l y l' h => by cases h; omega
theorem Me.fail {e : Nat} : Me c μ (pfail e) := fun l y l' h => by cases h
theorem Me.mono (h : Me c μ p) (hc : c ≤ d) : Me d μ p := fun l x l' e => by have := h l x l' e; omega
theorem Me.weak {μ' : α → Nat} (h : Me c μ p) (hm : ∀ x, μ' x ≤ μ x) : Me c μ' p := fun l x l' e => by have := h l x l' e; have := hm x; omega
theorem Me.pb {m : Nat} (h : Me c μ p) (k : ∀ x, Me (μ x + d) ν (q x)) (hm : c + d ≤ m) : Me m ν (pb p q) := fun l y l' e => by
 obtain ⟨x, l1, e1, e2⟩ := pb_ok e
 have h1 := h l x l1 e1
 have h2 := k x l1 y l' e2
 omega
theorem Me.pif {cc : List Tok → Bool} {p1 p2 : Pa α} (h1 : Me c μ p1) (h2 : Me c μ p2) : Me c μ (pif cc p1 p2) := fun l x l' e => by
 unfold Cae.pif at e
 split at e
 ·exact h1 l x l' e
 ·exact h2 l x l' e
theorem Me.peek : Me 0 (fun _ => 0) peek := fun l x l' e => by cases e; dsimp only; omega
theorem pop_ok {l l' : List Tok} {x : Unit} (h : popP l = .ok (x, l')) : ∃ t, l = t :: l' ∧ t.kind ≠ 5 := by
 cases l with
 | nil => cases h
 | cons t r =>
  by_cases h5 : t.kind = 5
  ·simp [popP, h5] at h
  ·have e' : popP (t :: r) = .ok ((), r) := by simp [popP, h5]
   rw [e'] at h
   cases h
   exact ⟨t, rfl, h5⟩
theorem Me.pop : Me 0 (fun _ => 9) popP := fun l x l' e => by
 obtain ⟨t, rfl, _⟩ := pop_ok e
 rw [W_cons]; dsimp only; omega
theorem Me.popn : Me 0 (fun _ => 0) popP := Me.pop.weak fun _ => Nat.zero_le _
end
theorem me_must (s : List UInt8) : Me 0 (fun _ => 9) (mustP s) := Me.pif Me.pop Me.fail
theorem me_name : Me 0 (fun n : List UInt8 => n.length + 8) nameP := fun l n l' e => by
 unfold nameP pif at e
 split at e
 ·split at e
  ·cases e
  ·obtain ⟨t, l1, e1, e2⟩ := pb_ok e
   cases e1
   obtain ⟨x, l2, e3, e4⟩ := pb_ok e2
   cases e4
   obtain ⟨t, rfl, _⟩ := pop_ok e3
   rw [W_cons]
   show t.text.length + 8 + W l' ≤ 2 * t.text.length + 9 + W l' + 0
   omega
 ·cases e
def kn (k : KindP) : Nat := (kindText k true).length + 3
theorem kt_le (k : KindP) (a : Bool) : (kindText k a).length + 3 ≤ kn k := by
 unfold kn
 cases a with
 | true => exact Nat.le_refl _
 | false => cases k <;> simp [kindText] <;> omega
theorem kn_bin (c p : Nat) (k r : KindP) : kn (.bin c p k r) ≤ kn k + kn r + 2 := by
 have h1 := kt_le k false
 have h2 := kt_le r true
 unfold kn at *
 simp only [kindText, if_true, List.length_cons, List.length_append, List.length_nil]
 have : (if c = 3 then [32, 124, 32] else if c = 4 then [32, 38, 32] else [32, 45, 32] : List UInt8).length = 3 := by split <;> (try split) <;> rfl
 rw [this]; omega
theorem kn_not (p : Nat) (k : KindP) : kn (.not p k) = kn k + 1 := by simp [kn, kindText]
theorem me_bin : Me 0 (fun c : Nat => if c = 0 then 0 else 8) binP := by
 have h : ∀ c : Nat, c ≠ 0 → Me 0 (fun c : Nat => if c = 0 then 0 else 8) (pb popP fun _ => pr c) := fun c hc => Me.pb (d := 0) (Me.pop.weak (μ' := fun _ => 8) fun _ => by omega) (fun _ => by have := Me.pr (μ := fun c : Nat => if c = 0 then 0 else 8) (x := c); rw [if_neg hc] at this; exact this) (by omega)
 exact Me.pif (h 3 (by decide)) (Me.pif (h 4 (by decide)) (Me.pif (h 5 (by decide)) Me.pr))
theorem me_kindLoop {one : Pa KindP} (h : Me 0 kn one) (pos : Nat) : ∀ (n : Nat) (k : KindP), Me (kn k) kn (kindLoop one pos n k)
 | 0, k => Me.fail
 | n + 1, k => Me.pb (d := kn k) me_bin (fun c => by
   by_cases h0 : c = 0
   ·rw [if_pos h0, if_pos h0]; exact Me.pr.mono (by omega)
   ·rw [if_neg h0, if_neg h0]
    refine Me.pb (d := 8 + kn k) h (fun r => (me_kindLoop h pos n _).mono ?_) (by omega)
    have := kn_bin c pos k r
    omega) (by omega)
theorem me_kindW {one : Pa KindP} (h : Me 0 kn one) : Me 0 kn (kindW one) := Me.pb (d := 0) Me.peek (fun t => Me.pb (d := 0) h (fun k => me_kindLoop h _ _ _) (by omega)) (by omega)
theorem me_lit : Me 0 kn litP := fun l k l' e => by
 obtain ⟨t, l1, e1, e2⟩ := pb_ok e
 cases e1
 cases hs : setP (hd l).text with
 | none => rw [hs] at e2; cases e2
 | some s =>
  rw [hs] at e2
  obtain ⟨x, l2, e3, e4⟩ := pb_ok e2
  cases e4
  obtain ⟨t, rfl, _⟩ := pop_ok e3
  have h1 : printP s = t.text := (setP_ok hs).2
  rw [W_cons, ← h1]
  show (printP s).length + 3 + W l' ≤ _
  omega
theorem me_one : ∀ d, Me 0 kn (oneP d)
 | 0 => Me.fail
 | d + 1 => Me.pif me_lit (Me.pif (Me.pb (d := 0) Me.peek (fun t => Me.pb (d := 0) Me.pop (fun _ => Me.pb (d := 9) (me_one d) (fun k => Me.pr.mono (by rw [kn_not]; omega)) (by omega)) (by omega)) (by omega))
   (Me.pif (Me.pb (d := 0) Me.popn (fun _ => Me.pb (d := 0) (me_kindW (me_one d)) (fun k => Me.pb (d := kn k) (me_must _) (fun _ => Me.pr.mono (by omega)) (by omega)) (by omega)) (by omega))
    (Me.pb (d := 0) Me.peek (fun t => Me.pb (d := 0) me_name (fun n => Me.pr.mono (by show n.length + 3 ≤ _; omega)) (by omega)) (by omega))))
def pn (x : PatP) : Nat := (patText x 2).length + 3
theorem inPar_len (b : Bool) (s : List UInt8) : s.length ≤ (inPar b s).length ∧ (inPar b s).length ≤ s.length + 2 := by
 cases b <;> simp [inPar] <;> omega
theorem pt_le (x : PatP) (n : Nat) : (patText x n).length + 3 ≤ pn x := by
 unfold pn
 cases x with
 | cat l =>
  simp only [patText]
  by_cases h : 1 < n
  ·simp [h, inPar]
  ·simp [h, inPar]
 | alt l =>
  simp only [patText]
  have h0 : 0 < 2 := by decide
  have h1 : (patTexts l 1) = patTexts l 1 := rfl
  by_cases h : 0 < n
  ·simp [h, inPar]
  ·simp [h, inPar]
 | _ => simp [patText]
theorem decP_len (n : Nat) : (decP n).length ≤ 2 := by unfold decP; split <;> (try split) <;> simp
theorem timesText_len (lo hi : Int) : (timesText lo hi).length ≤ 7 := by
 have h1 := decP_len lo.toNat
 have h2 := decP_len hi.toNat
 unfold timesText
 repeat' split
 all_goals simp
 all_goals omega
theorem pn_many (x : PatP) (lo hi : Int) : pn (.many x lo hi) ≤ pn x + 7 := by
 have := timesText_len lo hi
 unfold pn
 simp only [patText, List.length_append]
 omega
def tot (l : List PatP) : Nat := (l.map pn).sum
theorem tot_snoc (l : List PatP) (x : PatP) : tot (l ++ [x]) = tot l + pn x := by simp [tot]
theorem lens_le (l : List PatP) (n : Nat) : Go.Lib.lens (patTexts l n) + 3 * l.length ≤ tot l ∧ (patTexts l n).length = l.length := by
 induction l with
 | nil => simp [patTexts, Go.Lib.lens, tot]
 | cons x l ih =>
  have := pt_le x n
  simp only [patTexts, Go.Lib.lens, tot, List.map_cons, List.sum_cons, List.length_cons] at *
  omega
theorem join_le (l : List PatP) (n : Nat) (sep : List UInt8) (hs : sep.length ≤ 3) : (Go.Lib.join (patTexts l n) sep).length ≤ tot l := by
 cases l with
 | nil => simp [patTexts, Go.Lib.join_nil]
 | cons x l =>
  have h1 := lens_le (x :: l) n
  simp only [patTexts] at *
  rw [Go.Lib.join_length]
  have h2 : sep.length * (patTexts l n).length ≤ 3 * (patTexts l n).length := Nat.mul_le_mul_right _ hs
  simp only [List.length_cons] at h1
  omega
theorem pn_cat (l : List PatP) : pn (.cat l) ≤ tot l + 5 := by
 have := join_le l 2 [32] (by decide)
 have := (inPar_len (decide (1 < 2)) (Go.Lib.join (patTexts l 2) [32])).2
 unfold pn
 simp only [patText]
 omega
theorem pn_alt (l : List PatP) : pn (.alt l) ≤ tot l + 5 := by
 have := join_le l 1 [32, 124, 32] (by decide)
 have := (inPar_len (decide (0 < 2)) (Go.Lib.join (patTexts l 1) [32, 124, 32])).2
 unfold pn
 simp only [patText]
 omega
theorem pn_row (l : List PatP) : pn (rowOf l) ≤ tot l + 5 := by
 match l with
 | [] => exact pn_cat []
 | [x] => simp [rowOf, tot]
 | x :: y :: l => exact pn_cat _
theorem pn_altOf (l : List PatP) : pn (altOf l) ≤ tot l + 5 := by
 match l with
 | [] => exact pn_alt []
 | [x] => simp [altOf, tot]
 | x :: y :: l => exact pn_alt _
theorem me_times : Me 0 (fun _ => 0) timesP := Me.pif (Me.pb (d := 0) Me.peek (fun t => by
 by_cases h : 12 < decV t.text
 ·rw [if_pos h]; exact Me.fail
 ·rw [if_neg h]; exact Me.pb (d := 0) Me.popn (fun _ => Me.pr.mono (by omega)) (by omega)) (by omega)) Me.fail
theorem me_braces : Me 0 (fun _ => 0) bracesP := Me.pb (d := 0) me_times (fun lo => Me.pif (Me.pb (d := 0) Me.popn (fun _ => Me.pif (Me.pb (d := 0) me_times (fun hi => by
 by_cases h : hi < lo
 ·rw [if_pos h]; exact Me.fail
 ·rw [if_neg h]; exact Me.pb (d := 0) (me_must _) (fun _ => Me.pr.mono (by omega)) (by omega)) (by omega)) (Me.pb (d := 0) (me_must _) (fun _ => Me.pr.mono (by omega)) (by omega))) (by omega)) (Me.pb (d := 0) (me_must _) (fun _ => Me.pr.mono (by omega)) (by omega))) (by omega)
def sn : Option (Int × Int) → Nat
 | none => 0
 | some _ => 8
theorem me_suffix : Me 0 sn suffixP := by
 have h : ∀ r, Me 0 sn (pb popP fun _ => pr (some r)) := fun r => Me.pb (d := 0) (Me.pop.weak (μ' := fun _ => 8) fun _ => by omega) (fun _ => Me.pr) (by omega)
 refine Me.pif (h _) (Me.pif (h _) (Me.pif (h _) (Me.pif ?_ Me.pr)))
 exact Me.pb (d := 0) (Me.pop.weak (μ' := fun _ => 8) fun _ => by omega) (fun _ => Me.pb (d := 8) me_braces (fun r => Me.pr.mono (by show 8 ≤ _; omega)) (by omega)) (by omega)
theorem me_againLoop (d : Nat) : ∀ (n c : Nat) (x : PatP), Me (pn x) pn (againLoop d n c x)
 | 0, _, _ => Me.fail
 | n + 1, c, x => Me.pb (d := pn x) me_suffix (fun r => by
   cases r with
   | none => exact Me.pr.mono (by omega)
   | some q =>
    show Me _ pn (if d ≤ c + 1 then _ else _)
    by_cases h0 : d ≤ c + 1
    ·rw [if_pos h0]; exact Me.fail
    ·rw [if_neg h0]
     refine (me_againLoop d n (c + 1) _).mono ?_
     have := pn_many x q.1 q.2
     show _ ≤ 8 + pn x
     omega) (by omega)
theorem me_againW {d : Nat} {unit : Pa PatP} (h : Me 0 pn unit) : Me 0 pn (againW d unit) := Me.pb (d := 0) h (fun x => me_againLoop d _ _ _) (by omega)
theorem me_rowLoop {again : Pa PatP} (h : Me 0 pn again) : ∀ (n : Nat) (a : List PatP), Me (tot a) tot (rowLoop again n a)
 | 0, _ => Me.fail
 | n + 1, a => Me.pif (Me.pb (d := tot a) h (fun x => (me_rowLoop h n _).mono (by rw [tot_snoc]; omega)) (by omega)) Me.pr
theorem me_rowW {again : Pa PatP} (h : Me 0 pn again) : Me 5 pn (rowW again) := Me.pb (d := 5) (me_rowLoop h _ _) (fun ps => Me.pr.mono (by have := pn_row ps; omega)) (by simp [tot])
theorem me_altLoop {row : Pa PatP} (h : Me 5 pn row) : ∀ (n : Nat) (a : List PatP), Me (tot a) tot (altLoop row n a)
 | 0, _ => Me.fail
 | n + 1, a => Me.pif (Me.pb (d := tot a) Me.pop (fun _ => Me.pb (d := tot a) h (fun x => (me_altLoop h n _).mono (by rw [tot_snoc]; omega)) (by omega)) (by omega)) Me.pr
theorem me_altW {row : Pa PatP} (h : Me 5 pn row) : Me 10 pn (altW row) := Me.pb (d := 5) h (fun x => Me.pb (d := 5) (me_altLoop h _ _) (fun ps => Me.pr.mono (by have := pn_altOf ps; omega)) (by simp [tot])) (by omega)
theorem me_patW {d : Nat} {unit : Pa PatP} (h : Me 0 pn unit) : Me 10 pn (patW d unit) := by
 unfold patW
 by_cases h0 : d = 0
 ·rw [if_pos h0]; exact Me.fail
 ·rw [if_neg h0]; exact me_altW (me_rowW (me_againW h))
theorem me_paren {p : Pa PatP} (h : Me 10 pn p) : Me 0 pn (pb popP fun _ => pb p fun x => pb (mustP [41]) fun _ => pr x) := fun l x l' e => by
 obtain ⟨u, l1, e1, e2⟩ := pb_ok e
 obtain ⟨y, l2, e3, e4⟩ := pb_ok e2
 obtain ⟨v, l3, e5, e6⟩ := pb_ok e4
 cases e6
 have a1 := Me.pop _ _ _ e1
 have a2 := h _ _ _ e3
 have a3 := me_must _ _ _ _ e5
 dsimp only at a1 a3
 omega
theorem me_unit : ∀ d, Me 0 pn (unitP d)
 | 0 => Me.fail
 | d + 1 => Me.pif (Me.pb (d := 0) Me.pop (fun _ => Me.pr.mono (by decide)) (by omega)) (Me.pif (Me.pb (d := 0) Me.pop (fun _ => Me.pr.mono (by decide)) (by omega))
   (Me.pif (me_paren (me_patW (me_unit d)))
    (Me.pif (Me.pb (d := 0) (me_one (d + 1)) (fun k => Me.pr.mono (by show (patText (.one k) 2).length + 3 ≤ _; simp only [patText]; unfold kn; omega)) (by omega)) Me.fail)))
theorem me_pat (d : Nat) : Me 10 pn (patP d) := me_patW (me_unit d)
def rn (r : RuleP) : Nat := (ruleText r).length
theorem rn_le (r : RuleP) : rn r ≤ pn r.before + pn r.after + 5 := by
 have h1 := pt_le r.before 0
 have h2 := pt_le r.after 0
 have a : (if r.brk = true then [98, 114, 101, 97, 107, 32] else [107, 101, 101, 112, 32] : List UInt8).length ≤ 6 := by split <;> simp
 have b : (if patText r.before 0 = [] then [] else patText r.before 0 ++ [32] : List UInt8).length ≤ (patText r.before 0).length + 1 := by split <;> simp
 have c : (if patText r.after 0 = [] then [] else 32 :: patText r.after 0 : List UInt8).length ≤ (patText r.after 0).length + 1 := by split <;> simp
 have e : rn r = (if r.brk = true then [98, 114, 101, 97, 107, 32] else [107, 101, 101, 112, 32] : List UInt8).length + (if patText r.before 0 = [] then [] else patText r.before 0 ++ [32] : List UInt8).length + 1 + (if patText r.after 0 = [] then [] else 32 :: patText r.after 0 : List UInt8).length + 2 := by
  unfold rn ruleText
  rw [List.length_append, List.length_append, List.length_append, List.length_append]
  rfl
 omega
theorem me_says : Me 0 (fun _ => 9) saysP := Me.pif (Me.pb (d := 0) Me.pop (fun _ => Me.pr.mono (by omega)) (by omega)) (Me.pb (d := 0) (me_must _) (fun _ => Me.pr.mono (by omega)) (by omega))
theorem me_rule : Me 0 rn ruleP := fun l r l' e => by
 obtain ⟨t, l0, e0, e⟩ := pb_ok e
 obtain ⟨b, l1, e1, e⟩ := pb_ok e
 obtain ⟨x, l2, e2, e⟩ := pb_ok e
 obtain ⟨_, l3, e3, e⟩ := pb_ok e
 obtain ⟨y, l4, e4, e⟩ := pb_ok e
 obtain ⟨_, l5, e5, e⟩ := pb_ok e
 cases e
 cases e0
 have a1 := me_says _ _ _ e1
 have a2 := me_pat _ _ _ _ e2
 have a3 := me_must _ _ _ _ e3
 have a4 := me_pat _ _ _ _ e4
 have a5 := me_must _ _ _ _ e5
 have a6 : rn ⟨(hd l).pos, b, x, y⟩ ≤ pn x + pn y + 5 := rn_le ⟨(hd l).pos, b, x, y⟩
 simp only at a1 a3 a5
 omega
def cn (c : ClassP) : Nat := (classText c).length
theorem me_class : Me 0 cn classP := fun l r l' e => by
 obtain ⟨t, l0, e0, e⟩ := pb_ok e
 obtain ⟨_, l1, e1, e⟩ := pb_ok e
 obtain ⟨n, l2, e2, e⟩ := pb_ok e
 obtain ⟨_, l3, e3, e⟩ := pb_ok e
 obtain ⟨k, l4, e4, e⟩ := pb_ok e
 obtain ⟨_, l5, e5, e⟩ := pb_ok e
 cases e
 cases e0
 have a1 := me_must _ _ _ _ e1
 have a2 := me_name _ _ _ e2
 have a3 := me_must _ _ _ _ e3
 have a4 := me_kindW (me_one 9) _ _ _ e4
 have a5 := me_must _ _ _ _ e5
 have := kt_le k false
 dsimp only at a1 a2 a3 a5
 simp only [cn, classText, List.length_append, List.length_cons, List.length_nil]
 omega
theorem me_ruleLoop : ∀ (n : Nat) (acc : List RuleP), Me (acc.map rn).sum (fun l => (l.map rn).sum) (ruleLoop n acc)
 | 0, _ => Me.fail
 | n + 1, acc => Me.pif (by
   by_cases h : acc.length = 20
   ·rw [if_pos h]; exact Me.fail
   ·rw [if_neg h]
    intro l x l' e
    obtain ⟨r, l1, e1, e2⟩ := pb_ok e
    have a1 := me_rule _ _ _ e1
    have a2 := me_ruleLoop n _ _ _ _ e2
    simp only [List.map_append, List.sum_append, List.map_cons, List.map_nil, List.sum_cons, List.sum_nil, List.length_append, List.length_cons, List.length_nil] at a2
    dsimp only
    omega) Me.pr
theorem me_classLoop : ∀ (n : Nat) (acc : List ClassP), Me (acc.map cn).sum (fun l => (l.map cn).sum) (classLoop n acc)
 | 0, _ => Me.fail
 | n + 1, acc => Me.pif (by
   by_cases h : acc.length = 20
   ·rw [if_pos h]; exact Me.fail
   ·rw [if_neg h]
    intro l x l' e
    obtain ⟨r, l1, e1, e2⟩ := pb_ok e
    have a1 := me_class _ _ _ e1
    have a2 := me_classLoop n _ _ _ _ e2
    simp only [List.map_append, List.sum_append, List.map_cons, List.map_nil, List.sum_cons, List.sum_nil] at a2
    dsimp only
    omega) Me.pr
theorem me_else : Me 0 (fun _ => 0) elseP := Me.pif (Me.pb (d := 0) Me.popn (fun _ => Me.pb (d := 0) (me_says.weak (μ' := fun _ => 0) (fun _ => by omega)) (fun _ => Me.pb (d := 0) (me_must _) (fun _ => Me.pr.mono (by omega)) (by omega)) (by omega)) (by omega)) Me.pr
theorem flatS_len {α : Type} (f : α → List UInt8) (l : List α) : (l.flatMap f).length = (l.map fun x => (f x).length).sum := by
 rw [List.length_flatMap]
theorem text_len {s : List UInt8} {f : FileP} (h : parseR s = .ok f) : (fileText f).length ≤ 11 * s.length + 60 := by
 obtain ⟨l, l', tl, hn, hf, _⟩ := parseR_ok h
 obtain ⟨l1, l2, h1, h2, h3⟩ := fileP_ok hf
 have a1 := me_classLoop _ _ _ _ _ h1
 have a2 := me_ruleLoop _ _ _ _ _ h2
 have a3 := me_else _ _ _ h3
 simp only [List.map_nil, List.sum_nil, List.length_nil] at a1 a2
 have hW : W (l ++ [⟨5, [], s.length⟩]) ≤ 11 * s.length + 9 := by
  obtain ⟨s1, s2⟩ := tl.sum
  have : ∀ l : List Tok, (∀ t ∈ l, 0 < t.text.length) → W (l ++ [⟨5, [], s.length⟩]) ≤ 11 * sumT l + 9 := by
   intro l hl
   induction l with
   | nil => simp [W, sumT]
   | cons t l ih =>
    have h1 := ih (fun t ht => hl t (List.mem_cons_of_mem _ ht))
    have h2 := hl t (by simp)
    rw [List.cons_append, W_cons]
    have : sumT (t :: l) = t.text.length + sumT l := by simp [sumT]
    omega
  have := this l s2
  omega
 have e : (fileText f).length = (f.classes.map cn).sum + (f.rules.map rn).sum + (elseText f.els).length := by
  unfold fileText
  rw [List.length_append, List.length_append, flatS_len, flatS_len]
  rfl
 have e2 : (elseText f.els).length ≤ 11 := by unfold elseText; split <;> simp
 omega
end Cae
end
section
set_option linter.unusedSimpArgs false
set_option linter.unusedVariables false
namespace Cae
def KindOk : KindP → Prop
 | .lit _ s => setRight (-2) s = true ∧ s.length < 10000000
 | .ref _ _ => True
 | .not _ k => KindOk k
 | .bin c _ k r => KindOk k ∧ KindOk r ∧ (c = 3 ∨ c = 4 ∨ c = 5)
mutual
def PatOk : PatP → Prop
 | .one k => KindOk k
 | .any => True
 | .edge => True
 | .cat l => PatsOk l
 | .alt l => PatsOk l
 | .many x lo hi => PatOk x ∧ 0 ≤ lo ∧ lo < 100 ∧ hi < 100 ∧ (hi < 0 ∨ lo ≤ hi)
def PatsOk : List PatP → Prop
 | [] => True
 | x :: l => PatOk x ∧ PatsOk l
end
end Cae
namespace Cae
theorem texts_map (l : List PatP) (n : Nat) : patTexts l n = l.map (patText · n) := by
 induction l with
 | nil => rfl
 | cons x l ih => rw [patTexts, ih]; rfl
theorem lens_mem : ∀ {l : List (List UInt8)} {x : List UInt8}, x ∈ l → x.length ≤ Go.Lib.lens l
 | y :: l, x, h => by
  simp only [Go.Lib.lens, List.map_cons, List.sum_cons]
  rcases List.mem_cons.1 h with rfl | h
  ·omega
  ·have := lens_mem h
   simp only [Go.Lib.lens] at this
   omega
theorem join_bounds (l : List (List UInt8)) (sep : List UInt8) (hs : 1 ≤ sep.length) : Go.Lib.lens l ≤ (Go.Lib.join l sep).length ∧ l.length ≤ (Go.Lib.join l sep).length + 1 := by
 cases l with
 | nil => simp [Go.Lib.lens]
 | cons x l =>
  rw [Go.Lib.join_cons, List.length_append, Go.Lib.joinTail_length]
  have : 1 * l.length ≤ sep.length * l.length := Nat.mul_le_mul_right _ hs
  simp only [Go.Lib.lens, List.map_cons, List.sum_cons, List.length_cons]
  omega
theorem pt_two (x : PatP) : (patText x 2).length ≤ (patText x 1).length + 2 := by
 cases x with
 | cat l =>
  have h1 := (inPar_len (decide (1 < 2)) (Go.Lib.join (patTexts l 2) [32])).2
  have h2 := (inPar_len (decide (1 < 1)) (Go.Lib.join (patTexts l 2) [32])).1
  simp only [patText]
  omega
 | alt l =>
  have h1 := (inPar_len (decide (0 < 2)) (Go.Lib.join (patTexts l 1) [32, 124, 32])).2
  have h2 := (inPar_len (decide (0 < 1)) (Go.Lib.join (patTexts l 1) [32, 124, 32])).1
  simp only [patText]
  omega
 | _ => simp [patText]
theorem pn_in_cat {l : List PatP} : (Go.Lib.join (patTexts l 2) [32]).length + 5 = pn (.cat l) ∧ l.length ≤ pn (.cat l) ∧ ∀ x ∈ l, pn x ≤ pn (.cat l) := by
 have h0 := join_bounds (patTexts l 2) [32] (by decide)
 have h1 : (Go.Lib.join (patTexts l 2) [32]).length + 5 = pn (.cat l) := by simp [pn, patText, inPar]
 refine ⟨h1, ?_, fun x hx => ?_⟩
 ·rw [texts_map, List.length_map] at h0
  rw [texts_map] at h1
  omega
 ·have : (patText x 2).length ≤ Go.Lib.lens (patTexts l 2) := lens_mem (by rw [texts_map]; exact List.mem_map.2 ⟨x, hx, rfl⟩)
  have h2 : pn x = (patText x 2).length + 3 := rfl
  omega
theorem pn_in_alt {l : List PatP} : (Go.Lib.join (patTexts l 1) [32, 124, 32]).length + 5 = pn (.alt l) ∧ l.length ≤ pn (.alt l) ∧ ∀ x ∈ l, pn x ≤ pn (.alt l) := by
 have h0 := join_bounds (patTexts l 1) [32, 124, 32] (by decide)
 have h1 : (Go.Lib.join (patTexts l 1) [32, 124, 32]).length + 5 = pn (.alt l) := by simp [pn, patText, inPar]
 refine ⟨h1, ?_, fun x hx => ?_⟩
 ·rw [texts_map, List.length_map] at h0
  rw [texts_map] at h1
  omega
 ·have : (patText x 1).length ≤ Go.Lib.lens (patTexts l 1) := lens_mem (by rw [texts_map]; exact List.mem_map.2 ⟨x, hx, rfl⟩)
  have h2 : pn x = (patText x 2).length + 3 := rfl
  have := pt_two x
  omega
end Cae
namespace Cae
theorem All2.at {α β : Type} {R : α → β → Prop} {l : List α} {m : List β} (h : All2 R l m) : ∀ {i : Nat} {y : β}, m[i]? = some y → ∃ x, l[i]? = some x ∧ R x y := by
 induction h with
 | nil => intro i y hy; simp at hy
 | cons h1 _ ih =>
  intro i y hy
  cases i with
  | zero => cases hy; exact ⟨_, rfl, h1⟩
  | succ i =>
   obtain ⟨x, hx, hr⟩ := ih (i := i) (y := y) (by simpa using hy)
   exact ⟨x, by simpa using hx, hr⟩
theorem flatS_mem {α : Type} (f : α → List UInt8) {l : List α} {x : α} (h : x ∈ l) : (f x).length ≤ (l.flatMap f).length := by
 induction l with
 | nil => cases h
 | cons y l ih =>
  simp only [List.flatMap_cons, List.length_append]
  rcases List.mem_cons.1 h with rfl | h
  ·omega
  ·have := ih h; omega
theorem pt_zero (x : PatP) : (patText x 2).length ≤ (patText x 0).length + 2 := by
 cases x with
 | cat l =>
  have h1 := (inPar_len (decide (1 < 2)) (Go.Lib.join (patTexts l 2) [32])).2
  have h2 := (inPar_len (decide (1 < 0)) (Go.Lib.join (patTexts l 2) [32])).1
  simp only [patText]
  omega
 | alt l =>
  have h1 := (inPar_len (decide (0 < 2)) (Go.Lib.join (patTexts l 1) [32, 124, 32])).2
  have h2 := (inPar_len (decide (0 < 0)) (Go.Lib.join (patTexts l 1) [32, 124, 32])).1
  simp only [patText]
  omega
 | _ => simp [patText]
theorem rt_len (r : RuleP) : (patText r.before 0).length + (patText r.after 0).length ≤ (ruleText r).length ∧ (ruleText r).length ≤ (patText r.before 0).length + (patText r.after 0).length + 20 := by
 unfold ruleText
 split <;> split <;> split <;> simp [*] <;> omega
def FileOk (f : FileP) : Prop := (∀ c ∈ f.classes, KindOk c.kind) ∧ ∀ r ∈ f.rules, PatOk r.before ∧ PatOk r.after
end Cae
end
section
set_option linter.unusedSimpArgs false
set_option linter.unusedVariables false
namespace Cae
theorem map_same {α : Type} {f : α → α} {l : List α} (h : ∀ r ∈ l, f r = r) : l.map f = l := by
 induction l with
 | nil => rfl
 | cons x l ih => rw [List.map_cons, h x (by simp), ih (fun r hr => h r (by simp [hr]))]
theorem setP_of {s : List UInt8} {l : List Rg} (h : PrintOf s l) : setP s = some l := by
 obtain ⟨hr, rfl⟩ := h
 have hb : ((printP l).drop 1).dropLast = bodyP l := by
  unfold printP bodyP
  simp
 have hmap : (if ((printP l).drop 1).dropLast = [] then ([] : List Rg) else (splitB 32 ((printP l).drop 1).dropLast).map fun p => (((hexV (cutP 45 p).1 : Nat) : Int), if (cutP 45 p).2.2 then ((hexV (cutP 45 p).2.1 : Nat) : Int) else ((hexV (cutP 45 p).1 : Nat) : Int))) = l := by
  rw [hb]
  by_cases h0 : bodyP l = []
  ·rw [if_pos h0, bodyP_nil h0]
  ·rw [if_neg h0, split_body hr h0, List.map_map]
   refine map_same fun r hrm => ?_
   obtain ⟨h1, h2, h3⟩ := mem_right (by omega) hr r hrm
   simp only [Function.comp]
   by_cases hlt : r.1 < r.2
   ·rw [cut_rg h1 (by omega) (by omega) hlt]
    simp only [if_true]
    rw [hexP_val (by omega), hexP_val (by omega)]
    ext <;> simp <;> omega
   ·rw [cut_rg1 h1 (by omega) hlt]
    simp only [Bool.false_eq_true, if_false]
    rw [hexP_val (by omega)]
    ext <;> simp <;> omega
 unfold setP
 simp only
 rw [hmap, hr]
 simp
theorem setP_no {s : List UInt8} (h : ∀ l, ¬ PrintOf s l) : setP s = none := by
 cases hs : setP s with
 | none => rfl
 | some l => exact absurd (setP_ok hs) (h l)
theorem right_few : ∀ {s : List Rg} {a : Int}, setRight a s = true → 2 * (s.length : Int) ≤ max 0 (1114113 - a)
 | [], a, _ => by simp; omega
 | r :: s, a, h => by
  rw [setRight_con] at h
  have := right_few h.2
  have h1 := h.1
  simp only [List.length_cons]
  omega
theorem right_len {s : List Rg} (h : setRight (-2) s = true) : s.length ≤ 557057 := by
 have := right_few h
 omega
end Cae
end
