import Derived.Test.YtimjpijbcnjaaaaDoorImr4
namespace Go.Proofs.YtimjpijbcnjaaaaDoor
open Go.Vc Go.Proofs Go.RowKit Cae
set_option maxRecDepth 100000
set_option linter.unusedSimpArgs false
set_option linter.unusedVariables false
attribute [local irreducible] wpL callK valK unitK runK Fun Sl Own vc vcOps opK pureK
set_option maxHeartbeats 4000000

theorem divK (u K : Nat) (hu : u < 4294967296) (hK : 0 < K) : IntKind.u8.wrap ((IntKind.u32.wrap ((u : Int).tdiv (K : Int))).tmod ((256 : Nat) : Int)) = (((bt (u / K % 256)).toNat : Nat) : Int) := by
  have h1 : u / K ≤ u := Nat.div_le_self _ _
  rw [Int.tdiv_eq_ediv_of_nonneg (by omega), ← Int.natCast_ediv, wrap_u32_nat, Nat.mod_eq_of_lt (by omega), tmodN, wrap_u8_nat, bt_toNat (Nat.mod_lt _ (by omega)), Nat.mod_mod]
theorem div256 (u : Nat) (hu : u < 4294967296) : IntKind.u8.wrap ((IntKind.u32.wrap ((u : Int).tdiv 256)).tmod 256) = (((bt (u / 256 % 256)).toNat : Nat) : Int) := divK u 256 hu (by omega)
theorem div65536 (u : Nat) (hu : u < 4294967296) : IntKind.u8.wrap ((IntKind.u32.wrap ((u : Int).tdiv 65536)).tmod 256) = (((bt (u / 65536 % 256)).toNat : Nat) : Int) := divK u 65536 hu (by omega)
theorem div16 (u : Nat) (hu : u < 4294967296) : IntKind.u8.wrap (IntKind.u32.wrap ((u : Int).tdiv 16777216)) = (((bt (u / 16777216 % 256)).toNat : Nat) : Int) := by
  have h1 : u / 16777216 < 256 := by omega
  have e : ((u : Int).tdiv 16777216) = ((u / 16777216 : Nat) : Int) := by rw [Int.tdiv_eq_ediv_of_nonneg (by omega)]; rfl
  rw [e, wrap_u32_nat, Nat.mod_eq_of_lt (by omega), wrap_u8_nat, Nat.mod_eq_of_lt h1, bt_toNat h1]
theorem mod256 (u : Nat) : IntKind.u8.wrap ((u : Int).tmod 256) = (((bt (u % 256)).toNat : Nat) : Int) := by
  have e : (u : Int).tmod 256 = ((u % 256 : Nat) : Int) := tmodN u 256
  rw [e, wrap_u8_nat, bt_toNat (Nat.mod_lt _ (by omega)), Nat.mod_mod]

theorem writeR_c (p : ProgP) (hl : ProgLen p) (hsz : progRight p = true → (progB p).length < 9000000000000) (X : Nat → Prop) (v : Value) (w : World) (hv : ProgV X w v p) :
    Fun Tryd.prog 32 [v] w fun r w' => r = (if progRight p = true then .tuple #[str (writeB p), .int .i64 0] else .tuple #[str [], .int .i64 1]) ∧ Below w.heap.size w w' := by
  have hv0 := hv
  obtain ⟨rv, rfl, hr⟩ := hv
  obtain ⟨a, c, rfl, hc⟩ := hr.shape
  have hpl : (progB p).length = 1 + (numB p.rules.length).length + (p.rules.flatMap pairB).length := by simp only [progB, bitB, List.length_append, List.length_cons, List.length_nil]
  refine fun_of_vc Tryd.func32 rfl (by kernel_rfl) [2, 3] rfl ?_
  simp -dsimp only [push_cast, fr0, Tryd.ntmps32, List.length_cons, List.length_nil, Nat.reduceAdd, Nat.reduceSub, Nat.reduceBEq, List.replicate_succ, List.replicate_zero]
  refine boxK_of ?_
  intro w1 hw1
  have hw1 : New w w1 43 [.slice a p.rules.length c, .bool p.els] := hw1
  have sz1 := hw1.size
  have d1 : cellsAt w1 ⟨w.heap.size, 0, none⟩ 0 2 = some [.slice a p.rules.length c, .bool p.els] := hw1.blk.cellsAt
  simp -dsimp only [push_cast, Nat.reduceAdd, Nat.reduceLeDiff, Nat.reduceBEq, decide_true, d1]
  refine callK_of (rightProgramR_c p hl X _ w1 (hv0.below hw1.below)) ?_
  rintro _ w2 ⟨rfl, hb2⟩
  have sz2 := hb2.size
  have hL2 := hw1.below.trans (hb2.mono (by omega))
  have hP2 : Blk w2 w.heap.size 43 [.slice a p.rules.length c, .bool p.els] := hw1.blk.below hb2 (by omega)
  cases hpr : progRight p with
  | false =>
    simp -dsimp only [push_cast, Nat.reduceAdd, Nat.reduceLeDiff, Nat.reduceBEq, decide_true, ne_eq, eq_self, not_true_eq_false, not_false_eq_true, true_imp_iff, false_imp_iff, Int.reduceNe, Int.reduceEq, Int.reduceLT, Int.reduceLE, Bool.not_true, Bool.not_false, strlit]
    exact ⟨rfl, hL2⟩
  | true =>
    have hsz := hsz hpr
    simp -dsimp only [push_cast, Nat.reduceAdd, Nat.reduceLeDiff, Nat.reduceBEq, decide_true, ne_eq, eq_self, not_true_eq_false, not_false_eq_true, true_imp_iff, false_imp_iff, Int.reduceNe, Int.reduceEq, Int.reduceLT, Int.reduceLE, Bool.not_true, Bool.not_false]
    obtain ⟨hpr1, hpr2⟩ := progRight_spec hpr
    refine wpL_draw (fun w' => Blk w' w.heap.size 43 [.slice a p.rules.length c, .bool p.els]) mixed (by kernel_rfl) hP2.drew ?_
    have f1 : w2.drew.cell? ⟨w.heap.size, 1, none⟩ = some (.bool p.els) := hP2.drew.cell rfl
    simp -dsimp only [push_cast, Nat.reduceAdd, Nat.reduceLeDiff, Nat.reduceBEq, decide_true, f1]
    refine ⟨fun w'' hC => by rw [hC.cell (o := 1) rfl]; exact rfl, ?_⟩
    refine callK_of (bitR_c p.els w2.drew) ?_
    rintro _ w3 ⟨rfl, rfl⟩
    refine ⟨hP2.drew, ?_⟩
    have f3 : w2.drew.cell? ⟨w.heap.size, 0, none⟩ = some (.slice a p.rules.length c) := hP2.drew.cell rfl
    simp -dsimp only [push_cast, Nat.reduceAdd, Nat.reduceLeDiff, Nat.reduceBEq, decide_true, f3]
    refine ⟨fun w'' hC => by rw [hC.cell (o := 0) rfl]; exact rfl, ?_⟩
    refine callK_of (numberR_c p.rules.length (by omega) w2.drew) ?_
    rintro _ w4 ⟨rfl, hb4⟩
    have hP4 := hP2.drew.below hb4 (by show w.heap.size < w2.heap.size; omega)
    have sz4 : w2.heap.size ≤ w4.heap.size := hb4.size
    have hL4 : Below w.heap.size w w4 := hL2.drew.trans (hb4.mono (by show w.heap.size ≤ w2.heap.size; omega))
    refine ⟨hP4, ?_⟩
    have f4 : w4.cell? ⟨w.heap.size, 0, none⟩ = some (.slice a p.rules.length c) := hP4.cell rfl
    have hbl : (bitB p.els).length = 1 := by simp only [bitB, List.length_cons, List.length_nil]
    simp -dsimp only [push_cast, Nat.reduceAdd, Nat.reduceLeDiff, Nat.reduceBEq, decide_true, f4]
    refine ⟨by first | omega | (simp only [List.length_append]; omega), ?_⟩
    refine wpL_loop [4, 6, 22, 23, 24, 25, 26, 27, 28, 29, 30, 31, 32, 33, 34, 35, 36, 37, 38, 39] (fun z wx => ∃ (i : Nat), z 22 = .int .i64 i ∧ i ≤ p.rules.length ∧ z 4 = str (bitB p.els ++ numB p.rules.length ++ (p.rules.take i).flatMap pairB) ∧ Below w4.heap.size w4 wx) (fun z _ => p.rules.length - (intOf (z 22)).toNat) ?_ ?_
    · exact ⟨0, rfl, Nat.zero_le _, (by simp : str (bitB p.els ++ numB p.rules.length) = str (bitB p.els ++ numB p.rules.length ++ (p.rules.take 0).flatMap pairB)), Below.refl _ _⟩
    · intro z wx hI
      obtain ⟨i, h22, hi, h4, hbx⟩ := hI
      have szx := hbx.size
      have hLx : Below w.heap.size w wx := hL4.trans (hbx.mono (by omega))
      simp -dsimp only [push_cast, Nat.reduceAdd, Nat.reduceLeDiff, Nat.reduceBEq, decide_true, h22, h4]
      refine ⟨fun hlt => ?_, fun hge => ?_⟩
      · have hex := lt_get (l := p.rules) (i := i) (by omega)
        obtain ⟨r, hex⟩ := hex
        have hrr := hex.1
        have hrm := hex.2.1
        have hrt := hex.2.2.2
        have hfl := flat_len (f := pairB) hrr
        have hget := Sl.getR (PairsV.below hr hLx) hrr
        obtain ⟨b, o, cs, rfl, hX, hk, hcell, s1, i1, s2, i2, rfl, hc1, hc2⟩ := hget
        have ce : cellsAt wx ⟨b, o + i * 5, none⟩ 0 5 = some [.bool r.brk, s1, i1, s2, i2] := cellsAt_of [.bool r.brk, s1, i1, s2, i2] 0 (fun j u hu => by simpa using hcell j u hu)
        simp -dsimp only [push_cast, Nat.reduceAdd, Nat.reduceLeDiff, Nat.reduceBEq, decide_true, ce]
        have hrl : (pairB r).length = 1 + (codeB r.before).length + (codeB r.after).length := by simp only [pairB, bitB, List.length_append, List.length_cons, List.length_nil]
        have hbl2 : (bitB r.brk).length = 1 := by simp only [bitB, List.length_cons, List.length_nil]
        refine ⟨⟨by omega, by omega⟩, ?_⟩
        refine allocK (z := [.bool false, .slice none 0 0, .slice none 0 0, .slice none 0 0, .slice none 0 0]) (by kernel_rfl) ?_
        intro w5 hw5
        simp -dsimp only [push_cast, Nat.reduceAdd, Nat.reduceLeDiff, Nat.reduceBEq, decide_true]
        refine storeAgg (n := 5) (by kernel_rfl) hw5.blk rfl (by simp) (by
          obtain ⟨_, _, e1, g1, g2⟩ := hc1; cases e1; obtain ⟨_, _, rfl, _⟩ := g1.shape; obtain ⟨_, _, rfl, _⟩ := g2.shape
          obtain ⟨_, _, e2, g3, g4⟩ := hc2; cases e2; obtain ⟨_, _, rfl, _⟩ := g3.shape; obtain ⟨_, _, rfl, _⟩ := g4.shape
          simp [Value.oneCell']) ?_
        intro w6 hw6
        have sz5 := hw5.size
        have sz6 := hw6.size
        have hB6 : Blk w6 wx.heap.size 61 [.bool r.brk, s1, i1, s2, i2] := hw6.blk
        have hb6 : Below wx.heap.size wx w6 := hw5.below.trans (hw6.kept.below (by omega) (fun _ h => by omega))
        simp -dsimp only [push_cast, Nat.reduceAdd, Nat.reduceLeDiff, Nat.reduceBEq, decide_true]
        refine wpL_draw (fun w' => Blk w' wx.heap.size 61 [.bool r.brk, s1, i1, s2, i2]) mixed (by kernel_rfl) hB6.drew ?_
        have f0 : w6.drew.cell? ⟨wx.heap.size, 0, none⟩ = some (.bool r.brk) := hB6.drew.cell rfl
        simp -dsimp only [push_cast, Nat.reduceAdd, Nat.reduceLeDiff, Nat.reduceBEq, decide_true, f0]
        refine ⟨fun w'' hC => by rw [hC.cell (o := 0) rfl]; exact rfl, ?_⟩
        refine callK_of (bitR_c r.brk w6.drew) ?_
        rintro _ w7 ⟨rfl, rfl⟩
        refine ⟨hB6.drew, ?_⟩
        have f1 : cellsAt w6.drew ⟨wx.heap.size, 1, none⟩ 0 2 = some [s1, i1] := blkSome (n := 2) (xs := [s1, i1]) hB6.drew 1 rfl rfl
        have hb6d : Below wx.heap.size wx w6.drew := hb6.drew
        simp -dsimp only [push_cast, Nat.reduceAdd, Nat.reduceLeDiff, Nat.reduceBEq, decide_true, f1]
        refine ⟨fun w'' hC => by rw [blkSome (n := 2) (xs := [s1, i1]) hC 1 rfl rfl]; exact rfl, ?_⟩
        refine callK_of (codeBytes_c r.before (hpr2 r hrm).1 (hl.2 r hrm).1.1 (by omega) X _ w6.drew (hc1.below hb6d)) ?_
        rintro _ w8 ⟨rfl, hb8⟩
        have sz8 : w6.heap.size ≤ w8.heap.size := hb8.size
        have hB8 := hB6.drew.below hb8 (by show wx.heap.size < w6.heap.size; omega)
        have hbx8 : Below wx.heap.size wx w8 := hb6d.trans (hb8.mono (by show wx.heap.size ≤ w6.heap.size; omega))
        refine ⟨hB8, ?_⟩
        have f3 : cellsAt w8 ⟨wx.heap.size, 3, none⟩ 0 2 = some [s2, i2] := blkSome (n := 2) (xs := [s2, i2]) hB8 3 rfl rfl
        simp -dsimp only [push_cast, Nat.reduceAdd, Nat.reduceLeDiff, Nat.reduceBEq, decide_true, f3]
        refine ⟨by first | omega | (simp only [List.length_append]; omega), fun w'' hC => by rw [blkSome (n := 2) (xs := [s2, i2]) hC 3 rfl rfl]; exact rfl, ?_⟩
        refine callK_of (codeBytes_c r.after (hpr2 r hrm).2 (hl.2 r hrm).2.1 (by omega) X _ w8 (hc2.below hbx8)) ?_
        rintro _ w9 ⟨rfl, hb9⟩
        refine ⟨hB8.below hb9 (by omega), ?_⟩
        simp -dsimp only [push_cast, Nat.reduceAdd, Nat.reduceLeDiff, Nat.reduceBEq, decide_true]
        refine ⟨by first | omega | (simp only [List.length_append]; omega), by first | omega | (simp only [List.length_append]; omega), ⟨by omega, by omega⟩, ⟨i + 1, rfl, by omega, ?_, hbx.trans ((hbx8.trans (hb9.mono hbx8.size)).mono szx)⟩, by rw [h22]; simp only [intOf]; omega⟩
        rw [flat_take hrt]
        simp only [pairB, List.append_assoc]
      · have hi2 : p.rules.take i = p.rules := List.take_of_length_le (by omega)
        rw [hi2]
        have hprog : bitB p.els ++ numB p.rules.length ++ p.rules.flatMap pairB = progB p := rfl
        rw [hprog]
        refine callK_of (sumR_c (progB p) (by omega) wx) ?_
        rintro _ w5 ⟨rfl, rfl⟩
        have hu := sumP_lt (progB p)
        simp -dsimp only [push_cast, Nat.reduceAdd, Nat.reduceLeDiff, Nat.reduceBEq, decide_true]
        refine ⟨by omega, by omega, by omega, by omega, by omega, by omega, ?_⟩
        refine rowK elI_107 rfl rfl (by omega) ?_
        intro w6 hw6
        have hrow : New w5 w6 5 ((sumB (sumP (progB p))).flatMap encB) := by
          rw [mod256, div256 _ hu, div65536 _ hu, div16 _ hu] at hw6
          exact hw6
        simp -dsimp only [push_cast, Nat.reduceAdd, Nat.reduceLeDiff, Nat.reduceBEq, decide_true]
        refine rowStr (e := 5) (by kernel_rfl) (by kernel_rfl) (by kernel_rfl) hrow rfl (by omega) ?_
        simp -dsimp only [push_cast, Nat.reduceAdd, Nat.reduceLeDiff, Nat.reduceBEq, decide_true, ne_eq, eq_self, not_true_eq_false, not_false_eq_true, true_imp_iff, false_imp_iff, Int.reduceNe, Int.reduceEq, Int.reduceLT, Int.reduceLE, Bool.not_true, Bool.not_false]
        have h4l := sumB_len (sumP (progB p))
        exact ⟨by omega, rfl, hLx.trans (hw6.below.mono hLx.size)⟩
end Go.Proofs.YtimjpijbcnjaaaaDoor
