import Derived.Test.YtimjpijbcnjaaaaDoorImg5
namespace Go.Proofs.YtimjpijbcnjaaaaDoor
open Go.Vc Go.Proofs Go.RowKit Cae
set_option maxRecDepth 100000
set_option linter.unusedSimpArgs false
set_option linter.unusedVariables false
attribute [local irreducible] wpL callK valK unitK runK Fun Sl Own vc vcOps opK pureK
set_option maxHeartbeats 8000000

theorem rlist_all {α : Type} {f : St → α × St} (hf : Shr f) : ∀ (n : Nat) (x : St) (v : α), v ∈ (rlist f n x).1 → ∃ y : St, y.s.length ≤ x.s.length ∧ v = (f y).1
  | 0, x, v, h => by simp [rlist] at h
  | n + 1, x, v, h => by
    simp only [rlist, List.mem_cons] at h
    rcases h with h | h
    · exact ⟨x, Nat.le_refl _, h⟩
    · obtain ⟨y, h1, h2⟩ := rlist_all hf n _ v h
      exact ⟨y, Nat.le_trans h1 (hf x), h2⟩
theorem many_len {α : Type} {f : St → α × St} (x : St) (h : x.s.length < 1000000000) : (rlist f (rmany x).1 (rmany x).2).1.length < 1000000000 := by
  rw [rlist_len]
  have := rmany_val x; have := rmany_len x; omega
theorem rcode_lens (x : St) (h : x.s.length < 1000000000) : CodeLen (rcode x).1 := by
  have h1 := shr_sets x
  refine ⟨fun s hs => ?_, many_len (f := rins) (rsets x).2 (by omega), many_len (f := rset) x h⟩
  obtain ⟨y, hy, rfl⟩ := rlist_all shr_set _ _ s hs
  have := rmany_len x
  exact many_len (f := rrange) y (by omega)
theorem shr_bit : Shr rbit := rbit_len
theorem shr_pair : Shr rpair := fun x => by
  have h1 := shr_bit x
  have h2 := shr_code (rbit x).2
  have h3 := shr_code (rcode (rbit x).2).2
  unfold rpair
  generalize rbit x = y at h1 h2 h3 ⊢
  generalize rcode y.2 = y2 at h2 h3 ⊢
  exact Nat.le_trans h3 (Nat.le_trans h2 h1)
theorem shr_rules : Shr rrules := fun x => Nat.le_trans (shr_list shr_pair _ _) (shr_many x)
theorem rprog_lens (x : St) (h : x.s.length < 1000000000) : ProgLen (rprog x).1 := by
  have h1 := rbit_len x
  refine ⟨many_len (f := rpair) (rbit x).2 (by omega), fun r hr => ?_⟩
  obtain ⟨y, hy, rfl⟩ := rlist_all shr_pair _ _ r hr
  have h2 := rmany_len (rbit x).2
  have h3 := rbit_len y
  have h4 := shr_code (rbit y).2
  exact ⟨rcode_lens _ (by omega), rcode_lens _ (by omega)⟩

structure PV where
  b : Bool
  s1 : SV
  i1 : SV
  s2 : SV
  i2 : SV
def encPV (u : PV) : List Value := [.bool u.b, u.s1.v, u.i1.v, u.s2.v, u.i2.v]
theorem encPV_one : ∀ x, ∀ u ∈ encPV x, u.oneCell' = true := by simp [encPV, SV.v, Value.oneCell']

theorem sum4 {a b c d : Nat} (ha : a < 256) (hb : b < 256) (hc : c < 256) (hd : d < 256) :
    bitop .or .u32 (bitop .or .u32 (bitop .or .u32 (a : Int) (IntKind.u32.wrap ((b : Int) * 2 ^ min (Int.toNat 8) IntKind.u32.bits))) (IntKind.u32.wrap ((c : Int) * 2 ^ min (Int.toNat 16) IntKind.u32.bits))) (IntKind.u32.wrap ((d : Int) * 2 ^ min (Int.toNat 24) IntKind.u32.bits)) = ((a + b * 256 + c * 65536 + d * 16777216 : Nat) : Int) := by
  rw [show ((b : Int) * 2 ^ min (Int.toNat 8) IntKind.u32.bits) = ((b * 2 ^ 8 : Nat) : Int) by rw [show min (Int.toNat 8) IntKind.u32.bits = 8 from rfl]; simp,
    show ((c : Int) * 2 ^ min (Int.toNat 16) IntKind.u32.bits) = ((c * 2 ^ 16 : Nat) : Int) by rw [show min (Int.toNat 16) IntKind.u32.bits = 16 from rfl]; simp,
    show ((d : Int) * 2 ^ min (Int.toNat 24) IntKind.u32.bits) = ((d * 2 ^ 24 : Nat) : Int) by rw [show min (Int.toNat 24) IntKind.u32.bits = 24 from rfl]; simp]
  rw [wrap_u32_nat, wrap_u32_nat, wrap_u32_nat, Nat.mod_eq_of_lt (show b * 2 ^ 8 < 4294967296 by omega), Nat.mod_eq_of_lt (show c * 2 ^ 16 < 4294967296 by omega), Nat.mod_eq_of_lt (show d * 2 ^ 24 < 4294967296 by omega)]
  rw [bits_or_u32 (by omega) (by omega), Nat.or_comm, or_low (k := 8) (by omega), bits_or_u32 (by omega) (by omega), Nat.or_comm, or_low (k := 16) (by omega), bits_or_u32 (by omega) (by omega), Nat.or_comm, or_low (k := 24) (by omega)]
  congr 1; omega

theorem sum_end (s : List UInt8) (h : 4 ≤ s.length) :
    bitop .or .u32 (bitop .or .u32 (bitop .or .u32 (IntKind.u32.wrap ((s.getD ((s.length : Int) - 4).toNat 0).toNat : Int)) (IntKind.u32.wrap (IntKind.u32.wrap ((s.getD ((s.length : Int) - 4 + 1).toNat 0).toNat : Int) * 2 ^ min (Int.toNat 8) IntKind.u32.bits)))
      (IntKind.u32.wrap (IntKind.u32.wrap ((s.getD ((s.length : Int) - 4 + 2).toNat 0).toNat : Int) * 2 ^ min (Int.toNat 16) IntKind.u32.bits))) (IntKind.u32.wrap (IntKind.u32.wrap ((s.getD ((s.length : Int) - 4 + 3).toNat 0).toNat : Int) * 2 ^ min (Int.toNat 24) IntKind.u32.bits)) = ((sumOf (s.drop (s.length - 4)) : Nat) : Int) := by
  have hw : ∀ c : UInt8, IntKind.u32.wrap (c.toNat : Int) = (c.toNat : Int) := fun c => by have : c.toNat < 256 := c.toNat_lt; rw [wrap_u32_nat, Nat.mod_eq_of_lt (by omega)]
  simp only [hw]
  rw [sum4 (s.getD _ 0).toNat_lt (s.getD _ 0).toNat_lt (s.getD _ 0).toNat_lt (s.getD _ 0).toNat_lt]
  have hg : ∀ (k : Nat), (s.drop (s.length - 4)).getD k 0 = s.getD (s.length - 4 + k) 0 := fun k => by rw [List.getD_eq_getElem?_getD, List.getD_eq_getElem?_getD, List.getElem?_drop]
  unfold sumOf
  rw [hg, hg, hg, hg, show ((s.length : Int) - 4).toNat = s.length - 4 + 0 by omega, show ((s.length : Int) - 4 + 1).toNat = s.length - 4 + 1 by omega, show ((s.length : Int) - 4 + 2).toNat = s.length - 4 + 2 by omega, show ((s.length : Int) - 4 + 3).toNat = s.length - 4 + 3 by omega]

/-- What Parse gives. -/
def Parsed (base : Nat) (s : List UInt8) (r : Value) (w : World) : Prop := match parseP s with
  | some q => ∃ v, r = .tuple #[v, .nilIface] ∧ ProgV (fun j => j < base) w v q
  | none => r = .tuple #[.agg #[.slice none 0 0, .bool false], .iface 33 (.int .i64 3)]

attribute [local irreducible] rcode rbit rmany rnum
theorem parse_c (s : List UInt8) (hs : s.length < 1000000000) (w : World) :
    Fun Tryd.prog 37 [str s] w fun r w' => Parsed w.heap.size s r w' ∧ Below w.heap.size w w' := by
  refine fun_of_vcC Tryd.func37 rfl (by kernel_rfl) [.cell 2 43, .tmp 3] rfl ?_
  simp -dsimp only [push_cast, fr0, Tryd.ntmps37, List.length_cons, List.length_nil, Nat.reduceAdd, Nat.reduceSub, Nat.reduceBEq, List.replicate_succ, List.replicate_zero]
  refine allocK (z := [.slice none 0 0, .bool false]) (by kernel_rfl) ?_
  intro w1 hw1
  have sz1 := hw1.size
  have hnone : ∀ w', Blk w' w.heap.size 43 [.slice none 0 0, .bool false] → parseP s = none → Below w.heap.size w w' → Parsed w.heap.size s (.tuple #[.agg #[.slice none 0 0, .bool false], .iface 33 (.int .i64 3)]) w' ∧ Below w.heap.size w w' := fun w' _ hn hb => by
    unfold Parsed
    rw [hn]
    exact ⟨rfl, hb⟩
  simp -dsimp only [push_cast, Nat.reduceAdd, Nat.reduceLeDiff, Nat.reduceBEq, decide_true]
  refine ⟨⟨by omega, by omega⟩, fun hshort => ?_, fun hlong => ?_⟩
  · refine storeAgg (n := 2) (by kernel_rfl) hw1.blk rfl (by simp) (by simp [Value.oneCell']) ?_
    intro w2 hw2
    have c2 : cellsAt w2 ⟨w.heap.size, 0, none⟩ 0 2 = some [.slice none 0 0, .bool false] := hw2.blk.cellsAt
    simp -dsimp only [push_cast, Nat.reduceAdd, Nat.reduceLeDiff, Nat.reduceBEq, decide_true, c2]
    exact hnone w2 hw2.blk (by unfold parseP; rw [if_pos (by omega)]) (hw1.below.trans (hw2.kept.below (by omega) (fun _ h => by omega)))
  · refine wpL_draw (fun _ => True) mixed (by kernel_rfl) trivial ?_
    simp -dsimp only [push_cast, Nat.reduceAdd, Nat.reduceLeDiff, Nat.reduceBEq, decide_true]
    refine ⟨⟨by omega, by omega⟩, ⟨by omega, by omega⟩, ⟨by omega, by omega⟩, by omega, ⟨by omega, by omega⟩, ⟨by omega, by omega⟩, by omega, ⟨by omega, by omega⟩, ⟨by omega, by omega⟩, by omega, ⟨by omega, by omega⟩, ?_⟩
    have etk : List.take ((s.length : Int) - 4).toNat s = s.take (s.length - 4) := by rw [show ((s.length : Int) - 4).toNat = s.length - 4 by omega]
    rw [etk]
    refine callK_of (sum_c (s.take (s.length - 4)) (by rw [List.length_take]; omega) w1.drew) ?_
    rintro _ w2 ⟨rfl, rfl⟩
    simp -dsimp only [push_cast, Nat.reduceAdd, Nat.reduceLeDiff, Nat.reduceBEq, decide_true]
    rw [sum_end s (by omega)]
    refine ⟨fun hne => ?_, fun heq => ?_⟩
    · refine storeAgg (n := 2) (by kernel_rfl) hw1.blk.drew rfl (by simp) (by simp [Value.oneCell']) ?_
      intro w2 hw2
      have c2 : cellsAt w2 ⟨w.heap.size, 0, none⟩ 0 2 = some [.slice none 0 0, .bool false] := hw2.blk.cellsAt
      simp -dsimp only [push_cast, Nat.reduceAdd, Nat.reduceLeDiff, Nat.reduceBEq, decide_true, c2]
      exact hnone w2 hw2.blk (by unfold parseP; rw [if_neg (by omega), if_pos (by omega)]) (hw1.below.drew.trans (hw2.kept.below (by show w.heap.size ≤ w1.heap.size; omega) (fun _ h => by omega)))
    · rw [etk]
      refine ⟨⟨by omega, by omega⟩, ?_⟩
      have hsumok : sumP (s.take (s.length - 4)) = sumOf (s.drop (s.length - 4)) := by omega
      have hxl : (s.take (s.length - 4)).length < 1000000000 := by rw [List.length_take]; omega
      generalize hx : (⟨s.take (s.length - 4), false⟩ : St) = x
      have hxs : s.take (s.length - 4) = x.s := by rw [← hx]
      have hxb : false = x.bad := by rw [← hx]
      have hparse : parseP s = if (rprog x).2.bad = true ∨ (rprog x).2.s ≠ [] ∨ progRight (rprog x).1 = false then none else some (rprog x).1 := by
        unfold parseP
        rw [if_neg (by omega), if_neg (by rw [hsumok]; simp), ← hx]
      rw [hxs] at hxl ⊢
      refine boxK_of ?_
      intro w2 hw2
      have hw2 : New w1.drew w2 119 [str x.s, .bool x.bad] := by rw [← hxb]; exact hw2
      have sz2 : w2.heap.size = w1.heap.size + 1 := hw2.size
      have hB2 : rdB w2 w1.heap.size x := hw2.blk
      have hR2 : Blk w2 w.heap.size 43 [.slice none 0 0, .bool false] := hw1.blk.drew.kept (Kept.new hw2 (X := fun _ => False)) id
      have hL2 : Below w.heap.size w w2 := hw1.below.drew.trans (hw2.below.mono (by show w.heap.size ≤ w1.heap.size; omega))
      simp -dsimp only [push_cast, Nat.reduceAdd, Nat.reduceLeDiff, Nat.reduceBEq, decide_true]
      refine callK_of (rbit_c x w1.heap.size w2 hxl hB2) ?_
      rintro _ w3 ⟨rfl, hw3⟩
      have sz3 := hw3.size
      simp -dsimp only [push_cast, Nat.reduceAdd, Nat.reduceLeDiff, Nat.reduceBEq, decide_true]
      refine allocK (z := [.slice none 0 0, .bool false]) (by kernel_rfl) ?_
      intro w4 hw4
      have sz4 := hw4.size
      simp -dsimp only [push_cast, Nat.reduceAdd, Nat.reduceLeDiff, Nat.reduceBEq, decide_true]
      refine storeAgg (n := 2) (by kernel_rfl) hw4.blk rfl (by simp) (by simp [Value.oneCell']) ?_
      intro w5 hw5
      have sz5 := hw5.size
      have hB5 : rdB w5 w1.heap.size (rbit x).2 := (hw3.blk.kept (Kept.new hw4 (X := fun _ => False)) id).kept hw5.kept (by show ¬ w1.heap.size = w3.heap.size; omega)
      have hlb := rbit_len x
      simp -dsimp only [push_cast, Nat.reduceAdd, Nat.reduceLeDiff, Nat.reduceBEq, decide_true]
      refine callK_of (rmany_c (rbit x).2 w1.heap.size w5 (by omega) hB5) ?_
      rintro _ w6 ⟨rfl, hw6⟩
      have sz6 := hw6.size
      have hP6 : Blk w6 w3.heap.size 43 [.slice none 0 0, .bool (rbit x).1] := hw5.blk.kept hw6.kept (by show ¬ w3.heap.size = w1.heap.size; omega)
      have hR6 : Blk w6 w.heap.size 43 [.slice none 0 0, .bool false] := (((hR2.kept hw3.kept (by show ¬ w.heap.size = w1.heap.size; omega)).kept (Kept.new hw4 (X := fun _ => False)) id).kept hw5.kept (by show ¬ w.heap.size = w3.heap.size; omega)).kept hw6.kept (by show ¬ w.heap.size = w1.heap.size; omega)
      have hL6 : Below w.heap.size w w6 := hL2.trans ((hw3.kept.below (by omega) (fun _ h => by omega)).trans ((hw4.below.mono (by omega)).trans ((hw5.kept.below (by omega) (fun _ h => by omega)).trans (hw6.kept.below (by omega) (fun _ h => by omega)))))
      have hmv := rmany_val (rbit x).2
      have hml := rmany_len (rbit x).2
      simp -dsimp only [push_cast, Nat.reduceAdd, Nat.reduceLeDiff, Nat.reduceBEq, decide_true]
      refine wpL_loop [8, 59, 60, 61, 62, 63, 64, 65, 66, 67, 68, 69, 70, 71, 72, 73, 74, 75, 76] (fun z wx => ∃ (i : Nat) (y : St) (rules : List PairP) (pvs : List PV) (rv : SV), z 59 = .int .i64 i ∧ i ≤ (rmany (rbit x).2).1 ∧ y.s.length ≤ x.s.length ∧ rules ++ (rlist rpair ((rmany (rbit x).2).1 - i) y).1 = (rrules (rbit x).2).1 ∧ (rlist rpair ((rmany (rbit x).2).1 - i) y).2 = (rrules (rbit x).2).2 ∧
        rdB wx w1.heap.size y ∧ Blk wx w3.heap.size 43 [rv.v, .bool (rbit x).1] ∧ Blk wx w.heap.size 43 [.slice none 0 0, .bool false] ∧ Own w6.heap.size 61 5 encPV wx rv.v pvs ∧ pvs.length = rules.length ∧ rules.length = i ∧
        (∀ (j : Nat) (r : PairP), rules[j]? = some r → ∃ u, pvs[j]? = some u ∧ PairR (fun j => j < w6.heap.size ∨ rv.v.ownBlock = some j) wx (encPV u) r) ∧ Below w.heap.size w wx ∧ w6.heap.size ≤ wx.heap.size) (fun z _ => (rmany (rbit x).2).1 - (intOf (z 59)).toNat) ?_ ?_
      · exact ⟨0, (rmany (rbit x).2).2, [], [], ⟨none, 0, 0⟩, rfl, Nat.zero_le _, by omega, rfl, rfl, hw6.blk, hP6, hR6, Own.nil (enc := encPV) _ _ (fun _ => rfl) _, rfl, rfl, by simp, hL6, Nat.le_refl _⟩
      · intro z wx hI
        obtain ⟨i, y, rules, pvs, rv, h59, hi, hy, hr1, hr2, hBx, hPx, hRx, hox, hlen, hrl, hel, hLx, hszx⟩ := hI
        simp -dsimp only [push_cast, Nat.reduceAdd, Nat.reduceLeDiff, Nat.reduceBEq, decide_true, h59]
        refine ⟨fun hlt => ?_, fun hge => ?_⟩
        · refine callK_of (rbit_c y w1.heap.size wx (by omega) hBx) ?_
          rintro _ wa ⟨rfl, hwa⟩
          have sza := hwa.size
          have hya := rbit_len y
          simp -dsimp only [push_cast, Nat.reduceAdd, Nat.reduceLeDiff, Nat.reduceBEq, decide_true]
          refine allocK (z := [.bool false, .slice none 0 0, .slice none 0 0, .slice none 0 0, .slice none 0 0]) (by kernel_rfl) ?_
          intro wb hwb
          have szb := hwb.size
          simp -dsimp only [push_cast, Nat.reduceAdd, Nat.reduceLeDiff, Nat.reduceBEq, decide_true]
          refine storeAgg (n := 5) (by kernel_rfl) hwb.blk rfl (by simp) (by simp [Value.oneCell']) ?_
          intro wc hwc
          have szc := hwc.size
          have hBc : rdB wc w1.heap.size (rbit y).2 := (hwa.blk.kept (Kept.new hwb (X := fun _ => False)) id).kept hwc.kept (by omega)
          simp -dsimp only [push_cast, Nat.reduceAdd, Nat.reduceLeDiff, Nat.reduceBEq, decide_true]
          refine callK_of (rcode_c (rbit y).2 w1.heap.size wc (by omega) hBc) ?_
          rintro cv1 wd ⟨hcv1, hBd, hkd⟩
          have szd := hkd.size
          have hyd := shr_code (rbit y).2
          have hcv1' := hcv1
          obtain ⟨sv1, iv1, rfl, hs1, hi1⟩ := hcv1
          have hsh1 := hs1.shape
          obtain ⟨sa1, sc1, rfl, _⟩ := hsh1
          have hsh2 := hi1.shape
          obtain ⟨ia1, ic1, rfl, _⟩ := hsh2
          have hqd : Blk wd wa.heap.size 61 [.bool (rbit y).1, .slice none 0 0, .slice none 0 0, .slice none 0 0, .slice none 0 0] := Blk.kept hwc.blk hkd (by omega)
          simp -dsimp only [push_cast, Nat.reduceAdd, Nat.reduceLeDiff, Nat.reduceBEq, decide_true]
          refine storeAgg (n := 2) (by kernel_rfl) hqd rfl (by simp) (by simp [Value.oneCell']) ?_
          intro we hwe
          have sze := hwe.size
          have hBe : rdB we w1.heap.size (rcode (rbit y).2).2 := Blk.kept (e := 119) hBd hwe.kept (by omega)
          simp -dsimp only [push_cast, Nat.reduceAdd, Nat.reduceLeDiff, Nat.reduceBEq, decide_true]
          refine callK_of (rcode_c (rcode (rbit y).2).2 w1.heap.size we (by omega) hBe) ?_
          rintro cv2 wf ⟨hcv2, hBf, hkf⟩
          have szf := hkf.size
          have hyf := shr_code (rcode (rbit y).2).2
          have hcv2' := hcv2
          obtain ⟨sv2, iv2, rfl, hs2, hi2⟩ := hcv2
          have hsh3 := hs2.shape
          obtain ⟨sa2, sc2, rfl, _⟩ := hsh3
          have hsh4 := hi2.shape
          obtain ⟨ia2, ic2, rfl, _⟩ := hsh4
          have hqf := hwe.blk.kept hkf (by show ¬ wa.heap.size = w1.heap.size; omega)
          simp -dsimp only [push_cast, Nat.reduceAdd, Nat.reduceLeDiff, Nat.reduceBEq, decide_true]
          refine storeAgg (n := 2) (by kernel_rfl) hqf rfl (by simp) (by simp [Value.oneCell']) ?_
          intro wg hwg
          have szg := hwg.size
          have hexu : ∃ u : PV, u = (⟨(rbit y).1, ⟨sa1, (rcode (rbit y).2).1.sets.length, sc1⟩, ⟨ia1, (rcode (rbit y).2).1.ins.length, ic1⟩, ⟨sa2, (rcode (rcode (rbit y).2).2).1.sets.length, sc2⟩, ⟨ia2, (rcode (rcode (rbit y).2).2).1.ins.length, ic2⟩⟩ : PV) := ⟨_, rfl⟩
          obtain ⟨u, hu⟩ := hexu
          have hqg : Blk wg wa.heap.size 61 (encPV u) := by
            have h := hwg.blk
            simp only [List.take_succ_cons, List.take_zero, List.drop_succ_cons, List.drop_zero, List.cons_append, List.nil_append, Nat.reduceAdd] at h
            rw [hu]
            exact h
          have k1 : Kept (fun k => k = w1.heap.size ∨ wx.heap.size ≤ k) wx wa := hwa.kept.weaken (fun _ _ h => .inl h)
          have k2 : Kept (fun k => k = w1.heap.size ∨ wx.heap.size ≤ k) wa wb := Kept.new hwb
          have k3 : Kept (fun k => k = w1.heap.size ∨ wx.heap.size ≤ k) wb wc := hwc.kept.weaken (fun _ _ h => .inr (by omega))
          have k4 : Kept (fun k => k = w1.heap.size ∨ wx.heap.size ≤ k) wc wd := hkd.weaken (fun _ _ h => .inl h)
          have k5 : Kept (fun k => k = w1.heap.size ∨ wx.heap.size ≤ k) wd we := hwe.kept.weaken (fun _ _ h => .inr (by omega))
          have k6 : Kept (fun k => k = w1.heap.size ∨ wx.heap.size ≤ k) we wf := hkf.weaken (fun _ _ h => .inl h)
          have k7 : Kept (fun k => k = w1.heap.size ∨ wx.heap.size ≤ k) wf wg := hwg.kept.weaken (fun _ _ h => .inr (by omega))
          have kx : Kept (fun k => k = w1.heap.size ∨ wx.heap.size ≤ k) wx wg := (((((k1.trans k2 (fun _ _ h => h)).trans k3 (fun _ _ h => h)).trans k4 (fun _ _ h => h)).trans k5 (fun _ _ h => h)).trans k6 (fun _ _ h => h)).trans k7 (fun _ _ h => h)
          have hPg := hPx.kept kx (by show ¬ (w3.heap.size = w1.heap.size ∨ wx.heap.size ≤ w3.heap.size); omega)
          have hRg := hRx.kept kx (by show ¬ (w.heap.size = w1.heap.size ∨ wx.heap.size ≤ w.heap.size); omega)
          have hog := hox.keptX kx (fun g hg h => by have := hox.block g hg; omega)
          have hBg : rdB wg w1.heap.size (rpair y).2 := Blk.kept (e := 119) hBf hwg.kept (by omega)
          have helg : ∀ (j : Nat) (r : PairP), rules[j]? = some r → ∃ u, pvs[j]? = some u ∧ PairR (fun j => j < w6.heap.size ∨ rv.v.ownBlock = some j) wg (encPV u) r := fun j r hj => by
            obtain ⟨u, h1, h2⟩ := hel j r hj
            exact ⟨u, h1, h2.mono (fun b hb hlt => kx.block b hlt (fun hh => by
              rcases hh with hh | hh
              · exact hb (.inl (by omega))
              · omega)) (fun _ h => h)⟩
          have hXn : ∀ b, (b < w6.heap.size ∨ rv.v.ownBlock = some b) → b < wx.heap.size := fun b hb => by
            rcases hb with hb | hb
            · omega
            · exact (hox.block b hb).2
          have hnew : PairR (fun j => j < w6.heap.size ∨ rv.v.ownBlock = some j) wg (encPV u) (rpair y).1 := by
            subst hu
            refine ⟨_, _, _, _, rfl, ?_, ?_⟩
            · have kd : Kept (fun k => k = w1.heap.size ∨ k = wa.heap.size) wd wg := ((hwe.kept.weaken (fun _ _ h => .inr h)).trans (hkf.weaken (fun _ _ h => .inl h)) (fun _ _ h => h)).trans (hwg.kept.weaken (fun _ _ h => .inr h)) (fun _ _ h => h)
              exact (CodeV.kept hcv1' kd (fun k hk => by omega)).narrow (fun b _ hb => by have := hXn b hb; omega)
            · exact (CodeV.kept hcv2' hwg.kept (fun k hk => by omega)).narrow (fun b _ hb => by have := hXn b hb; omega)
          have hel2 := append_get (Pr := fun _ (u : PV) r => PairR (fun j => j < w6.heap.size ∨ rv.v.ownBlock = some j) wg (encPV u) r) hlen helg hnew
          have f0 : wg.cell? ⟨w3.heap.size, 0, none⟩ = some rv.v := hPg.cell rfl
          have f1 : cellsAt wg ⟨wa.heap.size, 0, none⟩ 0 5 = some (encPV u) := hqg.cellsAt
          have f2 : Value.agg (encPV u).toArray = .agg #[.bool u.b, u.s1.v, u.i1.v, u.s2.v, u.i2.v] := rfl
          simp -dsimp only [push_cast, Nat.reduceAdd, Nat.reduceLeDiff, Nat.reduceBEq, decide_true, f0, f1, f2]
          refine rowK elI_41 rfl rfl (by omega) ?_
          intro wh hwh
          have szh := hwh.size
          simp -dsimp only [push_cast, Nat.reduceAdd, Nat.reduceLeDiff, Nat.reduceBEq, decide_true]
          refine appendK2 (base := w6.heap.size) [u] (enc := encPV) elI_41 (hog.new hwh) rfl (fun j u hu => by simpa using hwh.cell hu) encPV_one (by simp only [List.length_cons, List.length_nil]; omega) (by omega) ?_
          intro v' wi hoi hgrow hne
          have hki : Kept (fun k => rv.v.ownBlock = some k) wh wi := Kept.grown hgrow (fun _ h => h)
          have hsh5 := hoi.slice
          obtain ⟨a', c', rfl⟩ := hsh5
          have hto : ∀ g, rv.v.ownBlock = some g → w6.heap.size ≤ g := fun g hg => (hox.block g hg).1
          have hPi := (hPg.kept (Kept.new hwh (X := fun _ => False)) id).kept hki (fun h => by have := hto _ h; omega)
          have hRi := (hRg.kept (Kept.new hwh (X := fun _ => False)) id).kept hki (fun h => by have := hto _ h; omega)
          have hBi : rdB wi w1.heap.size (rpair y).2 := (Blk.kept (e := 119) hBg (Kept.new hwh (X := fun _ => False)) id).kept hki (fun h => by have := hto _ h; omega)
          simp -dsimp only [push_cast, Nat.reduceAdd, Nat.reduceLeDiff, Nat.reduceBEq, decide_true]
          refine storeK_of hPi (by simp) rfl ?_
          intro wj hwj
          have szi := hki.size
          have szj := hwj.size
          simp -dsimp only [push_cast, Nat.reduceAdd, Nat.reduceLeDiff, Nat.reduceBEq, decide_true]
          have hst := rlist_step (f := rpair) (i := i) (by omega) hr1 hr2
          refine ⟨⟨by omega, by omega⟩, ⟨i + 1, (rpair y).2, rules ++ [(rpair y).1], pvs ++ [u], ⟨a', (pvs ++ [u]).length, c'⟩, rfl, by omega, ?_, hst.1, hst.2, Blk.kept (e := 119) hBi hwj.kept (by omega), hwj.blk, hRi.kept hwj.kept (by show ¬ w.heap.size = w3.heap.size; omega), hoi.keptX hwj.kept (fun g hg h => ?_), by simp [hlen], by simp [hrl], ?_, ?_, by omega⟩, by rw [h59]; simp only [intOf]; omega⟩
          · have := shr_pair y; omega
          · rcases hne g hg with h' | h'
            · have := hto g h'; omega
            · omega
          · intro j r hj
            obtain ⟨u', h1, h2⟩ := hel2 j r hj
            refine ⟨u', h1, ?_⟩
            have h3 : PairR (fun j => (j < w6.heap.size ∨ rv.v.ownBlock = some j) ∨ (Value.slice a' (pvs ++ [u]).length c').ownBlock = some j) wh (encPV u') r :=
              (h2.mono (fun b _ hlt => (Kept.new hwh (X := fun _ => False)).block b hlt id) (fun _ h => h)).narrow (fun b hb hh => by
                rcases hh with hh | hh
                · exact hh
                · rcases hne b hh with h' | h'
                  · exact .inr h'
                  · omega)
            have h4 := h3.mono (fun b hb hlt => hki.block b hlt (fun hh => hb (.inl (.inr hh)))) (fun _ h => h)
            have h5 := h4.mono (fun b hb hlt => hwj.kept.block b hlt (fun hh => hb (.inl (.inl (by omega))))) (fun _ h => h)
            exact h5.mono (fun _ _ _ => rfl) (fun b hb => by
              rcases hb with hb | hb
              · exact .inl (.inl hb)
              · exact .inr hb)
          · refine hLx.trans ((kx.below (by omega) (fun k hk => by omega)).trans ((hwh.below.mono (by omega)).trans ((hki.below (by omega) (fun k hk => by have := hto k hk; omega)).trans (hwj.kept.below (by omega) (fun k hk => by omega)))))
        · have hdone := rlist_done (f := rpair) (i := i) (by omega) hr1 hr2
          have hrs := hdone.1
          have hye := hdone.2
          subst hrs
          subst hye
          have hBx' : Blk wx w1.heap.size 119 [str (rprog x).2.s, .bool (rprog x).2.bad] := hBx
          have f1 : wx.cell? ⟨w1.drew.heap.size, 1, none⟩ = some (.bool (rprog x).2.bad) := hBx'.cell rfl
          have f0 : wx.cell? ⟨w1.drew.heap.size, 0, none⟩ = some (str (rprog x).2.s) := hBx'.cell rfl
          have f2 : cellsAt wx ⟨w3.heap.size, 0, none⟩ 0 2 = some [rv.v, .bool (rprog x).1.els] := hPx.cellsAt
          have hv : ProgV (fun j => j < w6.heap.size) wx (.agg #[rv.v, .bool (rprog x).1.els]) (rprog x).1 := by
            refine ⟨rv.v, rfl, ?_⟩
            refine Sl.narrow (ownRead (R := PairR (fun j => j < w6.heap.size ∨ rv.v.ownBlock = some j) wx) hox hlen hel) (by omega) (fun cs r h => ?_) (fun b _ hb => by omega)
            exact h.mono (fun _ _ _ => rfl) (fun b hb => .inl hb)
          have hlens := rprog_lens x hxl
          have hbad : ∀ w', Blk w' w.heap.size 43 [.slice none 0 0, .bool false] → ((rprog x).2.bad = true ∨ (rprog x).2.s ≠ [] ∨ progRight (rprog x).1 = false) → Below w.heap.size w w' → Parsed w.heap.size s (.tuple #[.agg #[.slice none 0 0, .bool false], .iface 33 (.int .i64 3)]) w' ∧ Below w.heap.size w w' := fun w' hb hc hbl => hnone w' hb (by rw [hparse, if_pos hc]) hbl
          cases hbd : (rprog x).2.bad with
          | true =>
            rw [hbd] at f1
            simp -dsimp only [push_cast, Nat.reduceAdd, Nat.reduceLeDiff, Nat.reduceBEq, decide_true, ne_eq, eq_self, not_true_eq_false, not_false_eq_true, true_imp_iff, false_imp_iff, Int.reduceNe, Int.reduceEq, Int.reduceLT, Int.reduceLE, Bool.not_true, Bool.not_false, f1]
            refine storeAgg (n := 2) (by kernel_rfl) hRx rfl (by simp) (by simp [Value.oneCell']) ?_
            intro w7 hw7
            have c2 : cellsAt w7 ⟨w.heap.size, 0, none⟩ 0 2 = some [.slice none 0 0, .bool false] := hw7.blk.cellsAt
            simp -dsimp only [push_cast, Nat.reduceAdd, Nat.reduceLeDiff, Nat.reduceBEq, decide_true, c2]
            exact hbad w7 hw7.blk (.inl hbd) (hLx.trans (hw7.kept.below (by omega) (fun _ h => by omega)))
          | false =>
            rw [hbd] at f1
            simp -dsimp only [push_cast, Nat.reduceAdd, Nat.reduceLeDiff, Nat.reduceBEq, decide_true, ne_eq, eq_self, not_true_eq_false, not_false_eq_true, true_imp_iff, false_imp_iff, Int.reduceNe, Int.reduceEq, Int.reduceLT, Int.reduceLE, Bool.not_true, Bool.not_false, f1, f0]
            refine ⟨fun hs0 => ?_, fun hs1 => ?_⟩
            · have hs0 : (rprog x).2.s = [] := Classical.byContradiction hs0
              simp -dsimp only [push_cast, Nat.reduceAdd, Nat.reduceLeDiff, Nat.reduceBEq, decide_true, ne_eq, eq_self, not_true_eq_false, not_false_eq_true, true_imp_iff, false_imp_iff, Int.reduceNe, Int.reduceEq, Int.reduceLT, Int.reduceLE, Bool.not_true, Bool.not_false, f2]
              refine callK_of (rightProgram_c (rprog x).1 hlens (fun j => j < w6.heap.size) _ wx hv) ?_
              rintro _ w7 ⟨rfl, hb7⟩
              have sz7 := hb7.size
              have hL7 := hLx.trans (hb7.mono (by omega))
              have hR7 := hRx.below hb7 (by omega)
              cases hpr : progRight (rprog x).1 with
              | true =>
                have f7 : cellsAt w7 ⟨w3.heap.size, 0, none⟩ 0 2 = some [rv.v, .bool (rprog x).1.els] := (hPx.below hb7 (by omega)).cellsAt
                simp -dsimp only [push_cast, Nat.reduceAdd, Nat.reduceLeDiff, Nat.reduceBEq, decide_true, ne_eq, eq_self, not_true_eq_false, not_false_eq_true, true_imp_iff, false_imp_iff, Int.reduceNe, Int.reduceEq, Int.reduceLT, Int.reduceLE, Bool.not_true, Bool.not_false, f7]
                refine storeAgg (n := 2) (by kernel_rfl) hR7 rfl (by simp) (by simp [SV.v, Value.oneCell']) ?_
                intro w8 hw8
                have c8 : cellsAt w8 ⟨w.heap.size, 0, none⟩ 0 2 = some [rv.v, .bool (rprog x).1.els] := hw8.blk.cellsAt
                simp -dsimp only [push_cast, Nat.reduceAdd, Nat.reduceLeDiff, Nat.reduceBEq, decide_true, ne_eq, eq_self, not_true_eq_false, not_false_eq_true, true_imp_iff, false_imp_iff, Int.reduceNe, Int.reduceEq, Int.reduceLT, Int.reduceLE, Bool.not_true, Bool.not_false, c8]
                refine ⟨?_, hL7.trans (hw8.kept.below (by omega) (fun _ h => by omega))⟩
                unfold Parsed
                rw [hparse, if_neg (by rw [hbd, hs0, hpr]; simp)]
                exact ⟨_, rfl, (hv.below hb7).mono (fun b hb hlt => hw8.kept.block b hlt (fun hh => hb (by omega))) (fun b hb => by omega)⟩
              | false =>
                simp -dsimp only [push_cast, Nat.reduceAdd, Nat.reduceLeDiff, Nat.reduceBEq, decide_true, ne_eq, eq_self, not_true_eq_false, not_false_eq_true, true_imp_iff, false_imp_iff, Int.reduceNe, Int.reduceEq, Int.reduceLT, Int.reduceLE, Bool.not_true, Bool.not_false]
                refine storeAgg (n := 2) (by kernel_rfl) hR7 rfl (by simp) (by simp [Value.oneCell']) ?_
                intro w8 hw8
                have c2 : cellsAt w8 ⟨w.heap.size, 0, none⟩ 0 2 = some [.slice none 0 0, .bool false] := hw8.blk.cellsAt
                simp -dsimp only [push_cast, Nat.reduceAdd, Nat.reduceLeDiff, Nat.reduceBEq, decide_true, c2]
                exact hbad w8 hw8.blk (.inr (.inr hpr)) (hL7.trans (hw8.kept.below (by omega) (fun _ h => by omega)))
            · have hs1 : (rprog x).2.s ≠ [] := hs1
              refine storeAgg (n := 2) (by kernel_rfl) hRx rfl (by simp) (by simp [Value.oneCell']) ?_
              intro w7 hw7
              have c2 : cellsAt w7 ⟨w.heap.size, 0, none⟩ 0 2 = some [.slice none 0 0, .bool false] := hw7.blk.cellsAt
              simp -dsimp only [push_cast, Nat.reduceAdd, Nat.reduceLeDiff, Nat.reduceBEq, decide_true, c2]
              exact hbad w7 hw7.blk (.inr (.inl hs1)) (hLx.trans (hw7.kept.below (by omega) (fun _ h => by omega)))
end Go.Proofs.YtimjpijbcnjaaaaDoor
