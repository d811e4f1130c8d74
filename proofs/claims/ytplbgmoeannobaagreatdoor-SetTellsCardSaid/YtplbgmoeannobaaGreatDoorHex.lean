import Derived.Test.YtplbgmoeannobaaGreatDoorSo0
namespace Cae
/-- The sign of a digit. -/
def dig (n : Nat) : UInt8 := if n < 10 then UInt8.ofNat (48 + n) else UInt8.ofNat (87 + n)
def hexF : Nat → Nat → List UInt8 → List UInt8
  | 0, n, acc => dig n :: acc
  | f + 1, n, acc => if n < 16 then dig n :: acc else hexF f (n / 16) (dig (n % 16) :: acc)
/-- A number, in hexadecimal digits. -/
def hexP (n : Nat) : List UInt8 := hexF 8 n []
theorem hexF_len : ∀ (f n : Nat) (acc : List UInt8), (hexF f n acc).length ≤ f + 1 + acc.length
  | 0, n, acc => by rw [hexF]; simp; omega
  | f + 1, n, acc => by
    rw [hexF]
    split
    · simp; omega
    · have := hexF_len f (n / 16) (dig (n % 16) :: acc)
      rw [List.length_cons] at this
      omega
theorem hexP_len (n : Nat) : (hexP n).length ≤ 9 := hexF_len 8 n []
end Cae
namespace Go.Vc
open Go.RowKit
/-- A slice over the end of a block that is told. -/
theorem slBlkAt {α : Type} {f : α → Value} {w : World} {b c j n : Nat} {e : TypeId} {l : List α} {cs : List Value} (hB : Blk w b e cs) (hd : cs.drop j = l.map f) (hn : n = l.length) (hc : l.length ≤ c) : Sl (fun _ => False) 1 (En (fun x => [f x])) w (.slice (some ⟨b, j, none⟩) n c) l := by
  subst hn
  refine ⟨_, _, rfl, hc, fun i x hx => ⟨b, j, [f x], rfl, id, rfl, fun k u hu => ?_, rfl⟩⟩
  cases k with
  | zero =>
    simp at hu; subst hu
    rw [Nat.mul_one, Nat.add_zero]
    refine hB.cell ?_
    have h1 : (cs.drop j)[i]? = some (f x) := by rw [hd, List.getElem?_map, hx]; rfl
    rwa [List.getElem?_drop] at h1
  | succ k => simp at hu
end Go.Vc
namespace Go.Proofs.YtplbgmoeannobaaGreatDoor
open Go.Vc Go.Proofs Go.RowKit Cae
set_option maxRecDepth 100000
set_option linter.unusedSimpArgs false
set_option linter.unusedVariables false
attribute [local irreducible] wpL callK valK unitK runK Fun Sl Own vc vcOps opK pureK
set_option maxHeartbeats 4000000

/-- The one place of the table of trailing zeros that is asked. -/
def Db (w : World) : Prop := w.cell? ⟨10, 15, none⟩ = some (.int .u8 4)
theorem Db.below {w w' : World} {B : Nat} (h : Db w) (hb : Below B w w') (hB : 10 < B) : Db w' := (hb.cell hB).trans h
theorem Db.lt {w : World} (h : Db w) : 10 < w.heap.size := World.block_lt_of_cell? w _ h

theorem bits_and_u64 {x y : Nat} (hx : x < 18446744073709551616) (hy : y < 18446744073709551616) : bitop .and .u64 x y = ((x &&& y : Nat) : Int) := by
  simp only [bitop, ofInt_nat, BitVec.toNat_and, BitVec.toNat_ofNat]
  rw [Nat.mod_eq_of_lt (show x < 2 ^ IntKind.u64.bits by show x < 2 ^ 64; omega), Nat.mod_eq_of_lt (show y < 2 ^ IntKind.u64.bits by show y < 2 ^ 64; omega), wrap_u64_nat, Nat.mod_eq_of_lt (and_lt (n := 64) hx)]
theorem digTab : ∀ d : Nat, d < 16 → ([48, 49, 50, 51, 52, 53, 54, 55, 56, 57, 97, 98, 99, 100, 101, 102, 103, 104, 105, 106, 107, 108, 109, 110, 111, 112, 113, 114, 115, 116, 117, 118, 119, 120, 121, 122] : List UInt8).getD d 0 = dig d := by decide
theorem pow2_c (w : World) : Fun Tryz.prog 139 [.int .i64 16] w fun r w' => r = .bool true ∧ w' = w := by
  refine fun_of_vc Tryz.func139 rfl (by kernel_rfl) [2] rfl ?_
  simp -dsimp (maxSteps := 4000000) only [push_cast, fr0, Tryz.ntmps139, List.length_cons, List.length_nil, Nat.reduceAdd, Nat.reduceSub, Nat.reduceBEq, List.replicate_succ, List.replicate_zero]
  have e1 : bitop .and .i64 16 (16 - 1) = 0 := by decide +kernel
  rw [e1]
  exact ⟨by omega, rfl⟩
theorem tz64_c (w : World) (h : Db w) : Fun Tryz.prog 161 [.int .u64 16] w fun r w' => r = .int .i64 4 ∧ w' = w := by
  refine fun_of_vc Tryz.func161 rfl (by kernel_rfl) [2] rfl ?_
  simp -dsimp (maxSteps := 4000000) only [push_cast, fr0, Tryz.ntmps161, List.length_cons, List.length_nil, Nat.reduceAdd, Nat.reduceSub, Nat.reduceBEq, List.replicate_succ, List.replicate_zero]
  simp -dsimp only [push_cast, Nat.reduceAdd, Nat.reduceLeDiff, Nat.reduceBEq, Int.reduceNe, Int.reduceEq, Int.reduceLT, Int.reduceLE]
  have e1 : (IntKind.u64.wrap (bitop .and .u64 16 (IntKind.u64.wrap (0 - 16)) * 285870213051353865)).fdiv (2 ^ min (Int.toNat 58) IntKind.u64.bits) = 15 := by decide +kernel
  rw [e1]
  have h' : w.cell? ⟨10, Int.toNat 15, none⟩ = some (.int .u8 4) := h
  simp -dsimp only [push_cast, Nat.reduceAdd, Nat.reduceLeDiff, Nat.reduceBEq, Int.reduceNe, Int.reduceEq, Int.reduceLT, Int.reduceLE, h']
  exact ⟨by omega, by rfl⟩
theorem tz_c (w : World) (h : Db w) : Fun Tryz.prog 140 [.int .u64 16] w fun r w' => r = .int .i64 4 ∧ w' = w := by
  refine fun_of_vc Tryz.func140 rfl (by kernel_rfl) [2] rfl ?_
  simp -dsimp (maxSteps := 4000000) only [push_cast, fr0, Tryz.ntmps140, List.length_cons, List.length_nil, Nat.reduceAdd, Nat.reduceSub, Nat.reduceBEq, List.replicate_succ, List.replicate_zero]
  refine callK_of (tz64_c w h) ?_
  rintro _ w1 ⟨rfl, rfl⟩
  simp -dsimp only [push_cast, Nat.reduceAdd, Nat.reduceLeDiff, Nat.reduceBEq, Int.reduceNe, Int.reduceEq, Int.reduceLT, Int.reduceLE]
theorem sliceArrK {P : Program} {xt : TypeId} {n s : Nat} {e : TypeId} {E : Option (TypeId × Nat)} {a : Addr} {j : Nat} {L : VP} {o : Oper} {t : Fr} {w : World} {K : VK} {Q : EP} {p} (hu : P.underlying xt = some (.array n e)) (hn : P.arrayLen xt = n) (he : P.elem xt = e)
    (hs : (sizeOf e).run P w = .ok s w) (ho : execOp (ev t) o = (do pure (.value (← Instr.sliceAt xt (.pointer (some a)) (some (.int .i64 (j : Int))) none none)))) (hj : j < n)
    (k : K (.slice (some (a.add (j * s))) (n - j) (n - j)) w) : sliceK (P.underlying xt) E (.pointer (some a)) (some (.int .i64 (j : Int))) none none L (runK P o t w K Q .mk) p := by
  rw [hu]
  show runK P o t w K Q .mk
  refine runK_val ho (valK_of ?_ k)
  rw [run_sliceAt_array_l w xt a (by rw [hu, hn, he]) .i64 (j : Int) (by omega) (by rw [hn]; omega), he, hs]
  rw [hn]
  unfold slicedAt
  rw [Int.toNat_natCast]
  show Result.ok (Value.slice (some (if n = j then a else a.add (j * s))) (n - j) (n - j)) w = _
  rw [if_neg (by omega)]
theorem formatBits_c (n : Nat) (hn : n < 4294967296) (w : World) (h : Db w) :
    Fun Tryz.prog 111 [.slice none 0 0, .int .u64 (n : Int), .int .i64 16, .bool false, .bool false] w fun r w' => r = .tuple #[.slice none 0 0, str (hexP n)] ∧ Below w.heap.size w w' := by
  refine fun_of_vc Tryz.func111 rfl (by kernel_rfl) [10, 11] rfl ?_
  simp -dsimp (maxSteps := 4000000) only [push_cast, fr0, Tryz.ntmps111, List.length_cons, List.length_nil, Nat.reduceAdd, Nat.reduceSub, Nat.reduceBEq, List.replicate_succ, List.replicate_zero]
  simp -dsimp only [push_cast, Nat.reduceAdd, Nat.reduceLeDiff, Nat.reduceBEq, Int.reduceNe, Int.reduceEq, Int.reduceLT, Int.reduceLE]
  refine allocK (z := List.replicate 65 (.int .u8 0)) (by kernel_rfl) ?_
  intro w1 hw1
  have sz1 := hw1.size
  have hb1 := hw1.below
  simp -dsimp only [push_cast, Nat.reduceAdd, Nat.reduceLeDiff, Nat.reduceBEq, Int.reduceNe, Int.reduceEq, Int.reduceLT, Int.reduceLE]
  refine callK_of (pow2_c w1) ?_
  rintro _ w2 ⟨rfl, rfl⟩
  simp -dsimp only [push_cast, Nat.reduceAdd, Nat.reduceLeDiff, Nat.reduceBEq, Int.reduceNe, Int.reduceEq, Int.reduceLT, Int.reduceLE]
  have e4 : IntKind.u64.wrap 4 = 4 := by decide
  have e16 : IntKind.u64.wrap 16 = 16 := by decide
  have e15 : IntKind.u64.wrap (16 - 1) = 15 := by decide
  refine callK_of (tz_c w2 (h.below hb1 h.lt)) ?_
  rintro _ w3 ⟨rfl, rfl⟩
  simp -dsimp only [push_cast, Nat.reduceAdd, Nat.reduceLeDiff, Nat.reduceBEq, Int.reduceNe, Int.reduceEq, Int.reduceLT, Int.reduceLE, e4, e16, e15]
  refine wpL_loop [1, 13, 44, 45, 46, 47, 48, 49, 50, 51, 52, 53, 54, 55, 56, 57] (fun z wx => ∃ (f m i : Nat) (acc : List UInt8) (cs : List Value), z 1 = .int .u64 (m : Int) ∧ z 13 = .int .i64 (i : Int) ∧ i = 57 + f ∧ f ≤ 8 ∧ m < 16 ^ (f + 1) ∧ hexF f m acc = hexP n ∧ cs.length = 65 ∧ cs.drop i = acc.map (fun b => .int .u8 (b.toNat : Int)) ∧ Blk wx w.heap.size 181 cs ∧ Below w.heap.size w wx) (fun z _ => (intOf (z 13)).toNat) ?_ ?_
  · refine ⟨8, n, 65, [], _, rfl, rfl, rfl, Nat.le_refl _, by omega, rfl, List.length_replicate .., ?_, hw1.blk, hb1⟩
    rfl
  · intro z wx hI
    obtain ⟨f, m, i, acc, cs, h1, h13, hif, hf, hm, hh, hcl, hcd, hB, hbx⟩ := hI
    have szx := hbx.size
    have hm64 : m < 18446744073709551616 := Nat.lt_of_lt_of_le hm (Nat.le_trans (Nat.pow_le_pow_right (by omega) (show f + 1 ≤ 9 by omega)) (by decide))
    have hgd : ∃ d, m % 16 = d := ⟨_, rfl⟩
    obtain ⟨d, hd⟩ := hgd
    have hd16 : d < 16 := by omega
    have ea : bitop .and .u64 (m : Int) 15 = (d : Int) := by
      rw [show (15 : Int) = ((2 ^ 4 - 1 : Nat) : Int) from rfl, bits_and_u64 hm64 (by omega), and_mask, ← hd]
    have hq : ∃ q, m / 16 = q := ⟨_, rfl⟩
    obtain ⟨q, hq⟩ := hq
    have es : (m : Int).fdiv (2 ^ min (Int.toNat 4) IntKind.u64.bits) = (q : Int) := by
      rw [shr_nat (k := 4) rfl (by decide), ← hq]
    have hi1 : ∃ j, i = j + 1 := ⟨i - 1, by omega⟩
    obtain ⟨j, rfl⟩ := hi1
    have ej : ((j : Nat) : Int) + 1 - 1 = (j : Int) := by omega
    simp -dsimp only [push_cast, Nat.reduceAdd, Nat.reduceLeDiff, Nat.reduceBEq, Int.reduceNe, Int.reduceEq, Int.reduceLT, Int.reduceLE, h1, h13, ea, es, ej]
    refine ⟨fun hge => ?_, fun hlt => ?_⟩
    · refine ⟨⟨by omega, by omega⟩, ⟨by omega, by omega⟩, ⟨by omega, by omega⟩, ?_⟩
      rw [digTab d hd16]
      refine storeK_of hB (by omega) rfl ?_
      intro w5 hw5
      have sz5 : w5.heap.size = wx.heap.size := hw5.size
      simp -dsimp only [push_cast, Nat.reduceAdd, Nat.reduceLeDiff, Nat.reduceBEq, Int.reduceNe, Int.reduceEq, Int.reduceLT, Int.reduceLE, es]
      cases f with
      | zero => exact absurd hm (by omega)
      | succ f =>
        rw [hexF, if_neg (by omega), hq, hd] at hh
        refine ⟨⟨f, q, j, dig d :: acc, _, rfl, rfl, by omega, by omega, ?_, hh, by rw [List.length_set]; exact hcl, ?_, hw5.blk, hbx.trans (hw5.kept.below szx (fun g hg => Nat.le_of_eq (Eq.symm hg)))⟩, by rw [h13]; simp only [intOf]; omega⟩
        · rw [← hq]
          refine Nat.div_lt_of_lt_mul ?_
          rw [Nat.mul_comm, ← Nat.pow_succ]; exact hm
        · rw [List.drop_set, if_neg (by omega), Nat.sub_self, List.drop_eq_getElem_cons (by omega), List.set_cons_zero, hcd, List.map_cons]
    · have hh' : dig m :: acc = hexP n := by
        rw [← hh]
        cases f with
        | zero => rfl
        | succ f => rw [hexF, if_pos (by omega)]
      have hm36 : m < 16 := by omega
      refine ⟨⟨by omega, by omega⟩, ⟨by omega, by omega⟩, ⟨by omega, by omega⟩, ?_⟩
      rw [digTab m hm36]
      refine storeK_of hB (by omega) rfl ?_
      intro w5 hw5
      have sz5 : w5.heap.size = wx.heap.size := hw5.size
      simp -dsimp only [push_cast, Nat.reduceAdd, Nat.reduceLeDiff, Nat.reduceBEq, Int.reduceNe, Int.reduceEq, Int.reduceLT, Int.reduceLE]
      refine sliceArrK (n := 65) (s := 1) (e := 5) (by kernel_rfl) (by kernel_rfl) (by kernel_rfl) (by rfl) rfl (by omega) ?_
      simp -dsimp only [push_cast, Nat.reduceAdd, Nat.reduceLeDiff, Nat.reduceBEq, Int.reduceNe, Int.reduceEq, Int.reduceLT, Int.reduceLE]
      have hsl : Sl (fun _ => False) 1 (En encB) w5 (.slice (some ⟨w.heap.size, j, none⟩) (65 - j) (65 - j)) (dig m :: acc) := by
        refine slBlkAt (f := fun b : UInt8 => .int .u8 (b.toNat : Int)) hw5.blk ?_ ?_ ?_
        · rw [List.drop_set, if_neg (by omega), Nat.sub_self, List.drop_eq_getElem_cons (by omega), List.set_cons_zero, hcd, List.map_cons]
        · have := congrArg List.length hcd
          rw [List.length_drop, List.length_map, hcl] at this
          rw [List.length_cons]; omega
        · have := congrArg List.length hcd
          rw [List.length_drop, List.length_map, hcl] at this
          rw [List.length_cons]; omega
      refine strK (e := 5) (by kernel_rfl) (by kernel_rfl) (by kernel_rfl) hsl ?_
      simp -dsimp only [push_cast, Nat.reduceAdd, Nat.reduceLeDiff, Nat.reduceBEq, Int.reduceNe, Int.reduceEq, Int.reduceLT, Int.reduceLE]
      rw [hh']
      exact ⟨rfl, hbx.trans (hw5.kept.below szx (fun g hg => Nat.le_of_eq (Eq.symm hg)))⟩
theorem fmtInt_c (n : Nat) (hn : n < 4294967296) (w : World) (h : Db w) : Fun Tryz.prog 76 [.int .i64 (n : Int), .int .i64 16] w fun r w' => r = str (hexP n) ∧ Below w.heap.size w w' := by
  refine fun_of_vc Tryz.func76 rfl (by kernel_rfl) [4] rfl ?_
  simp -dsimp (maxSteps := 4000000) only [push_cast, fr0, Tryz.ntmps76, List.length_cons, List.length_nil, Nat.reduceAdd, Nat.reduceSub, Nat.reduceBEq, List.replicate_succ, List.replicate_zero]
  have e1 : IntKind.u64.wrap (n : Int) = (n : Int) := by rw [wrap_u64_nat, Nat.mod_eq_of_lt (by omega)]
  have e2 : decide ((n : Int) < 0) = false := decide_eq_false (by omega)
  simp -dsimp only [push_cast, Nat.reduceAdd, Nat.reduceLeDiff, Nat.reduceBEq, Int.reduceNe, Int.reduceEq, Int.reduceLT, Int.reduceLE, e1, e2]
  refine callK_of (formatBits_c n hn w h) ?_
  rintro _ w1 ⟨rfl, hb⟩
  simp -dsimp only [push_cast, Nat.reduceAdd, Nat.reduceLeDiff, Nat.reduceBEq, Int.reduceNe, Int.reduceEq, Int.reduceLT, Int.reduceLE]
  exact hb
theorem fmtI_c (n : Nat) (hn : n < 4294967296) (w : World) (h : Db w) : Fun Tryz.prog 50 [.int .i64 (n : Int), .int .i64 16] w fun r w' => r = str (hexP n) ∧ Below w.heap.size w w' := by
  refine fun_of_vc Tryz.func50 rfl (by kernel_rfl) [4] rfl ?_
  simp -dsimp (maxSteps := 4000000) only [push_cast, fr0, Tryz.ntmps50, List.length_cons, List.length_nil, Nat.reduceAdd, Nat.reduceSub, Nat.reduceBEq, List.replicate_succ, List.replicate_zero]
  refine callK_of (fmtInt_c n hn w h) ?_
  rintro _ w1 ⟨rfl, hb⟩
  simp -dsimp only [push_cast, Nat.reduceAdd, Nat.reduceLeDiff, Nat.reduceBEq, Int.reduceNe, Int.reduceEq, Int.reduceLT, Int.reduceLE]
  exact hb
theorem hex_c (n : Nat) (hn : n < 4294967296) (w : World) (h : Db w) : Fun Tryz.prog 48 [.int .i64 (n : Int)] w fun r w' => r = str (hexP n) ∧ Below w.heap.size w w' := by
  refine fun_of_vc Tryz.func48 rfl (by kernel_rfl) [2] rfl ?_
  simp -dsimp (maxSteps := 4000000) only [push_cast, fr0, Tryz.ntmps48, List.length_cons, List.length_nil, Nat.reduceAdd, Nat.reduceSub, Nat.reduceBEq, List.replicate_succ, List.replicate_zero]
  refine callK_of (fmtI_c n hn w h) ?_
  rintro _ w1 ⟨rfl, hb⟩
  simp -dsimp only [push_cast, Nat.reduceAdd, Nat.reduceLeDiff, Nat.reduceBEq, Int.reduceNe, Int.reduceEq, Int.reduceLT, Int.reduceLE]
  exact hb
end Go.Proofs.YtplbgmoeannobaaGreatDoor
