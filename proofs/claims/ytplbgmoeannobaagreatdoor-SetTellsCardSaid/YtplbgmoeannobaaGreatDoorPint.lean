import Derived.Test.YtplbgmoeannobaaGreatDoorByt
import Derived.Test.YtplbgmoeannobaaGreatDoorHex
import Derived.Lib.IfaceEq
import Derived.Lib.IfaceNeq
namespace Cae
/-- What a hexadecimal digit is worth. -/
def dv (b : UInt8) : Nat := if b.toNat ≤ 57 then b.toNat - 48 else b.toNat - 87
def isHex (b : UInt8) : Bool := (decide (48 ≤ b.toNat) && decide (b.toNat ≤ 57)) || (decide (97 ≤ b.toNat) && decide (b.toNat ≤ 102))
def hexV (l : List UInt8) : Nat := l.foldl (fun m b => 16 * m + dv b) 0
theorem dig_hex : ∀ d : Nat, d < 16 → isHex (dig d) = true ∧ dv (dig d) = d := by decide
theorem hexF_all : ∀ (f n : Nat) (acc : List UInt8), n < 16 ^ (f + 1) → (∀ b ∈ acc, isHex b = true) → ∀ b ∈ hexF f n acc, isHex b = true
  | 0, n, acc, hn, h => by
    rw [hexF]
    intro b hb
    rcases List.mem_cons.1 hb with rfl | hb
    · exact (dig_hex n (by omega)).1
    · exact h b hb
  | f + 1, n, acc, hn, h => by
    rw [hexF]
    split
    · intro b hb
      rcases List.mem_cons.1 hb with rfl | hb
      · exact (dig_hex n (by omega)).1
      · exact h b hb
    · refine hexF_all f (n / 16) _ (Nat.div_lt_of_lt_mul (by rw [Nat.mul_comm, ← Nat.pow_succ]; exact hn)) ?_
      intro b hb
      rcases List.mem_cons.1 hb with rfl | hb
      · exact (dig_hex (n % 16) (by omega)).1
      · exact h b hb
theorem foldl_hex (l : List UInt8) : ∀ m : Nat, l.foldl (fun m b => 16 * m + dv b) m = 16 ^ l.length * m + hexV l := by
  unfold hexV
  induction l with
  | nil => intro m; simp
  | cons b l ih =>
    intro m
    rw [List.foldl_cons, List.foldl_cons, ih, ih (16 * 0 + dv b), List.length_cons, Nat.pow_succ, Nat.mul_add]
    have : 16 ^ l.length * (16 * m) = 16 ^ l.length * 16 * m := by rw [Nat.mul_assoc]
    rw [this]
    simp
    omega
theorem hexV_cons (b : UInt8) (l : List UInt8) : hexV (b :: l) = 16 ^ l.length * dv b + hexV l := by
  have := foldl_hex l (16 * 0 + dv b)
  unfold hexV at this ⊢
  rw [List.foldl_cons, this]
  simp
theorem hexF_val : ∀ (f n : Nat) (acc : List UInt8), n < 16 ^ (f + 1) → hexV (hexF f n acc) = 16 ^ acc.length * n + hexV acc
  | 0, n, acc, hn => by rw [hexF, hexV_cons, (dig_hex n (by omega)).2]
  | f + 1, n, acc, hn => by
    rw [hexF]
    split
    · rw [hexV_cons, (dig_hex n (by omega)).2]
    · rw [hexF_val f (n / 16) _ (Nat.div_lt_of_lt_mul (by rw [Nat.mul_comm, ← Nat.pow_succ]; exact hn)), hexV_cons, (dig_hex (n % 16) (by omega)).2, List.length_cons, Nat.pow_succ]
      have h1 := Nat.div_add_mod n 16
      have h2 : 16 ^ acc.length * n = 16 ^ acc.length * 16 * (n / 16) + 16 ^ acc.length * (n % 16) := by
        rw [Nat.mul_assoc, ← Nat.mul_add, h1]
      rw [h2]; omega
theorem hexP_all {n : Nat} (hn : n < 4294967296) : ∀ b ∈ hexP n, isHex b = true := hexF_all 8 n [] (by omega) (fun b h => by cases h)
theorem hexP_val {n : Nat} (hn : n < 4294967296) : hexV (hexP n) = n := by
  unfold hexP
  rw [hexF_val 8 n [] (by omega)]
  simp [hexV]
theorem hexF_ne : ∀ (f n : Nat) (acc : List UInt8), hexF f n acc ≠ []
  | 0, n, acc => by rw [hexF]; simp
  | f + 1, n, acc => by
    rw [hexF]; split
    · simp
    · exact hexF_ne f _ _
theorem hexP_ne (n : Nat) : hexP n ≠ [] := hexF_ne 8 n []
theorem hexV_snoc (l : List UInt8) (b : UInt8) : hexV (l ++ [b]) = 16 * hexV l + dv b := by
  unfold hexV; rw [List.foldl_append]; rfl
theorem hexV_take (l : List UInt8) (i : Nat) : hexV (l.take i) ≤ hexV l := by
  have e := foldl_hex (l.drop i) (hexV (l.take i))
  have h0 : hexV l = 16 ^ (l.drop i).length * hexV (l.take i) + hexV (l.drop i) := by
    rw [← e]
    conv => lhs; rw [← List.take_append_drop i l]
    unfold hexV
    rw [List.foldl_append]
  have h1 : 1 ≤ 16 ^ (l.drop i).length := Nat.pos_of_ne_zero (by simp)
  rw [h0]
  exact Nat.le_trans (Nat.le_mul_of_pos_left (hexV (l.take i)) h1) (Nat.le_add_right _ _)
theorem hexP_inj {m n : Nat} (hm : m < 4294967296) (hn : n < 4294967296) (h : hexP m = hexP n) : m = n := by
  have := hexP_val hm; rw [h, hexP_val hn] at this; exact this.symm
end Cae
namespace Go.Vc
open Go.RowKit
theorem eq_1ii {L : VP} {other : Prop} (ty v ty' v' c) (p) : eqNilK 1 c .eql (.iface ty v) (.iface ty' v') L other p = other := (rfl)
theorem neq_1ii {L : VP} {other : Prop} (ty v ty' v' c) (p) : eqNilK 1 c .neq (.iface ty v) (.iface ty' v') L other p = other := (rfl)
attribute [push_cast] eq_1ii neq_1ii
theorem neqIfaceK {P : Program} {o : Oper} {t : Fr} {w : World} {K : VK} {Q : EP} {ty : TypeId} {x y : Operand} {z : TypeId} {te : TypeId} {k q : IntKind} {a b : Int} {ms : Array (String × TypeId)} (ho : o.op = .binOp .neq ty x y z) (hx : ev t x = .iface te (.int k a)) (hy : ev t y = .iface te (.int k b))
    (ht : P.underlying ty = some (.interface ms)) (hc : (P.info? te).map (·.comparable) = some true) (he : P.underlying te = some (.int q)) (kk : K (.bool (!(a == b))) w) : runK P o t w K Q .mk := by
  refine runK_val (s := do eqGuard .neq ty x y (ev t x) (ev t y); binOp .neq ty (ev t x) (ev t y)) (by unfold execOp; simp only [ho]) (valK_of (w' := w) ?_ kk)
  rw [Sem.run_bind, eqGuard_plain (.inl (by rw [hx]; simp)) (by intro c; rw [hx]; simp)]
  show (binOp .neq ty (ev t x) (ev t y)).run P w = _
  rw [hx, hy]
  exact Lib.run_neq_iface_int w a b ht hc he
end Go.Vc
namespace Go.Proofs.YtplbgmoeannobaaGreatDoor
open Go.Vc Go.Proofs Go.RowKit Cae
set_option maxRecDepth 100000
set_option linter.unusedSimpArgs false
set_option linter.unusedVariables false
attribute [local irreducible] wpL callK valK unitK runK Fun Sl Own vc vcOps opK pureK
set_option maxHeartbeats 8000000

theorem low_b : ∀ b : Nat, b < 256 → 0 ≤ bitop .or .u8 (b : Int) 32 ∧ bitop .or .u8 (b : Int) 32 ≤ 255 ∧ (97 ≤ b → b ≤ 102 → bitop .or .u8 (b : Int) 32 = b) ∧ (b < 48 → bitop .or .u8 (b : Int) 32 < 97) ∧ (b = 95 → bitop .or .u8 (b : Int) 32 = 127) := by decide +kernel
theorem lower_c (b : Int) (w : World) : Fun Tryz.prog 125 [.int .u8 b] w fun r w' => r = .int .u8 (bitop .or .u8 b 32) ∧ w' = w := by
  refine fun_of_vc Tryz.func125 rfl (by kernel_rfl) [2] rfl ?_
  push_cast -dsimp (maxSteps := 4000000) [Tryz.ntmps125]
/-- The error that a number is read with: none, or one of two. -/
def PErr (e : Value) : Prop := e = .nilIface ∨ e = .iface 127 (.int .i64 1) ∨ e = .iface 127 (.int .i64 2)
theorem parseUint_c (bits : Int) (hbits : bits = 32 ∨ bits = 40) (s : List UInt8) (hs : s.length ≤ 1000000000) (w : World) : Fun Tryz.prog 96 [str s, .int .i64 16, .int .i64 bits] w fun r w' => (∃ (v : Nat) (e : Value), r = .tuple #[.int .u64 (v : Int), e] ∧ v < 1099511627776 ∧ PErr e ∧ (∀ n < 4294967296, s = hexP n → v = n ∧ e = .nilIface)) ∧ Below w.heap.size w w' := by
  refine fun_of_vc Tryz.func96 rfl (by kernel_rfl) [6, 7] rfl ?_
  push_cast -dsimp (maxSteps := 4000000) [Tryz.ntmps96]
  by_cases hne : s = []
  · subst hne
    have e0 : decide (([] : List UInt8) = []) = true := rfl
    simp -dsimp (maxSteps := 4000000) only [push_cast, Nat.reduceAdd, Nat.reduceLeDiff, Nat.reduceBEq, Int.reduceNe, Int.reduceEq, Int.reduceLT, Int.reduceLE, e0]
    refine ⟨⟨0, _, rfl, by omega, .inr (.inr rfl), fun n _ h => absurd h.symm (hexP_ne n)⟩, Below.refl _ _⟩
  have ef : decide False = false := rfl
  have emx : ∃ mx : Nat, IntKind.u64.wrap (IntKind.u64.wrap (1 * 2 ^ min (IntKind.u64.wrap bits).toNat IntKind.u64.bits) - 1) = (mx : Int) ∧ 4294967295 ≤ mx ∧ mx < 1099511627776 := by
    rcases hbits with rfl | rfl
    · exact ⟨4294967295, by decide, by omega, by omega⟩
    · exact ⟨1099511627775, by decide, by omega, by omega⟩
  obtain ⟨mx, emx, hmx1, hmx2⟩ := emx
  simp -dsimp (maxSteps := 4000000) only [push_cast, Nat.reduceAdd, Nat.reduceLeDiff, Nat.reduceBEq, Int.reduceNe, Int.reduceEq, Int.reduceLT, Int.reduceLE, ef]
  refine ⟨fun h => absurd h hne, fun _ => ⟨fun h => by omega, fun _ => ⟨fun _ => ⟨fun h => by omega, fun _ => ⟨by rcases hbits with rfl | rfl <;> decide, ?_⟩⟩, fun h => by omega⟩⟩⟩
  rw [emx]
  refine bytesK (e := 5) (by kernel_rfl) (by kernel_rfl) (by kernel_rfl) ?_
  intro cap w1 hcap hB1 hb1
  have sz1 := hb1.size
  simp -dsimp (maxSteps := 4000000) only [push_cast, Nat.reduceAdd, Nat.reduceLeDiff, Nat.reduceBEq, Int.reduceNe, Int.reduceEq, Int.reduceLT, Int.reduceLE, ef]
  refine wpL_loop [6, 7, 12, 13, 15, 16, 17, 101, 102, 103, 104, 105, 106, 107, 108, 109, 110, 111, 112, 113, 114, 115, 116, 117, 118, 119, 120, 121, 122, 123, 124, 125, 126, 127, 128, 129, 130, 131, 132, 133, 134, 135, 136, 137, 138, 139, 140, 141, 142, 143, 144, 145, 146, 147, 148, 149, 150, 151, 152, 153, 154, 155, 156, 157, 158, 159, 160, 161, 162, 163] (fun z wx => ∃ (i m : Nat), z 101 = .int .i64 (i : Int) ∧ z 13 = .int .u64 (m : Int) ∧ z 12 = .bool false ∧ i ≤ s.length ∧ m ≤ mx ∧ ((∀ b ∈ s, isHex b = true) → hexV s < 4294967296 → m = hexV (s.take i)) ∧ Below w.heap.size w wx ∧ Byt wx w.heap.size 5 s) (fun z _ => s.length - (intOf (z 101)).toNat) ?_ ?_
  · exact ⟨0, 0, rfl, rfl, rfl, Nat.zero_le _, by omega, fun _ _ => rfl, hb1, hB1⟩
  · intro z wx hI
    obtain ⟨i, m, h101, h13, h12, hi, hm, hv, hbx, hBx⟩ := hI
    simp -dsimp (maxSteps := 4000000) only [push_cast, Nat.reduceAdd, Nat.reduceLeDiff, Nat.reduceBEq, Int.reduceNe, Int.reduceEq, Int.reduceLT, Int.reduceLE, h101, h13, h12, ef]
    refine ⟨fun hlt => ?_, fun hge => ?_⟩
    · have hg := lt_get (l := s) (i := i) (by omega)
      obtain ⟨x, hx, hxm, hxd, hxt⟩ := hg
      have cx := hBx.cell hx
      have hb8 : x.toNat < 256 := x.toNat_lt
      have hlow := low_b x.toNat hb8
      have hhex : (∀ b ∈ s, isHex b = true) → isHex x = true := fun h => h x hxm
      have hdvx : dv x = if x.toNat ≤ 57 then x.toNat - 48 else x.toNat - 87 := rfl
      have hisx : isHex x = ((decide (48 ≤ x.toNat) && decide (x.toNat ≤ 57)) || (decide (97 ≤ x.toNat) && decide (x.toNat ≤ 102))) := rfl
      have hgb : ∃ b, x.toNat = b := ⟨_, rfl⟩
      obtain ⟨b, hb⟩ := hgb
      rw [hb] at cx hb8 hlow hdvx hisx
      have hgl : ∃ l, bitop .or .u8 (b : Int) 32 = l := ⟨_, rfl⟩
      obtain ⟨l, hl⟩ := hgl
      rw [hl] at hlow
      have hgl : ∃ lo : Nat, l = (lo : Int) := ⟨l.toNat, by omega⟩
      obtain ⟨lo, hlo⟩ := hgl
      subst hlo
      have ecut : decide ((m : Int) ≥ 1152921504606846976) = false := decide_eq_false (by omega)
      have e16 : IntKind.u8.wrap 16 = 16 := by decide
      have e16' : IntKind.u64.wrap 16 = 16 := by decide
      have hgk : ∃ k, 16 * m = k := ⟨_, rfl⟩
      obtain ⟨k, hk⟩ := hgk
      have ek : IntKind.u64.wrap ((m : Int) * 16) = (k : Int) := by
        rw [show (m : Int) * 16 = (k : Int) by omega, wrap_u64_nat, Nat.mod_eq_of_lt (by omega)]
      refine ⟨by omega, ?_⟩
      obtain ⟨hl0, hl1, hl2, hl3, hl4⟩ := hlow
      by_cases hA : 48 ≤ b ∧ b ≤ 57
      · have e95 : decide ((b : Int) = 95) = false := decide_eq_false (by omega)
        have e1 : decide (48 ≤ (b : Int)) = true := decide_eq_true (by omega)
        have e2 : decide ((b : Int) ≤ 57) = true := decide_eq_true (by omega)
        have hgd : ∃ dn : Nat, b - 48 = dn := ⟨_, rfl⟩
        obtain ⟨dn, hdn0⟩ := hgd
        have edn : IntKind.u8.wrap ((b : Int) - 48) = (dn : Int) := by
          rw [show (b : Int) - 48 = (dn : Int) by omega, wrap_u8_nat, Nat.mod_eq_of_lt (by omega)]
        have hdn : isHex x = true → dn = dv x := fun _ => by rw [hdvx, if_pos hA.2]; exact hdn0.symm
        by_cases hd : dn < 16
        · have ed : decide ((dn : Int) ≥ 16) = false := decide_eq_false (by omega)
          have ed64 : IntKind.u64.wrap (dn : Int) = (dn : Int) := by rw [wrap_u64_nat, Nat.mod_eq_of_lt (by omega)]
          have hgq : ∃ q, k + dn = q := ⟨_, rfl⟩
          obtain ⟨q, hq⟩ := hgq
          have eq : IntKind.u64.wrap ((k : Int) + (dn : Int)) = (q : Int) := by
            rw [show (k : Int) + (dn : Int) = (q : Int) by omega, wrap_u64_nat, Nat.mod_eq_of_lt (by omega)]
          have elt : decide ((q : Int) < (k : Int)) = false := decide_eq_false (by omega)
          have hm' : (∀ b ∈ s, isHex b = true) → hexV s < 4294967296 → q = hexV (s.take (i + 1)) := fun h1 h2 => by
            have := hv h1 h2
            have h3 := hdn (hhex h1)
            rw [hxt, hexV_snoc, ← this, ← h3]
            omega
          by_cases hr : q ≤ mx
          · have emax : decide ((q : Int) > (mx : Int)) = false := decide_eq_false (by omega)
            simp -dsimp (maxSteps := 4000000) only [push_cast, Nat.reduceAdd, Nat.reduceLeDiff, Nat.reduceBEq, Int.reduceNe, Int.reduceEq, Int.reduceLT, Int.reduceLE, cx, ed, ecut, e16, e16', ek, ed64, eq, elt, emax, ef, e95, e1, e2, edn]
            exact ⟨⟨by omega, by omega⟩, ⟨i + 1, q, rfl, rfl, by omega, hr, hm', hbx, hBx⟩, by rw [h101]; simp only [intOf]; omega⟩
          · have emax : decide ((q : Int) > (mx : Int)) = true := decide_eq_true (by omega)
            simp -dsimp (maxSteps := 4000000) only [push_cast, Nat.reduceAdd, Nat.reduceLeDiff, Nat.reduceBEq, Int.reduceNe, Int.reduceEq, Int.reduceLT, Int.reduceLE, cx, ed, ecut, e16, e16', ek, ed64, eq, elt, emax, ef, e95, e1, e2, edn]
            refine ⟨⟨mx, _, rfl, by omega, .inr (.inl rfl), fun n hn h => ?_⟩, hbx⟩
            have h1 := hm' (by rw [h]; exact hexP_all hn) (by rw [h, hexP_val hn]; exact hn)
            have h2 := hexV_take s (i + 1)
            have h3 := hexP_val hn
            rw [← h] at h3
            omega
        · have ed : decide ((dn : Int) ≥ 16) = true := decide_eq_true (by omega)
          simp -dsimp (maxSteps := 4000000) only [push_cast, Nat.reduceAdd, Nat.reduceLeDiff, Nat.reduceBEq, Int.reduceNe, Int.reduceEq, Int.reduceLT, Int.reduceLE, cx, ed, e16, ef, e95, e1, e2, edn]
          refine ⟨⟨0, _, rfl, by omega, .inr (.inr rfl), fun n hn h => ?_⟩, hbx⟩
          have h3 := hdn (hhex (by rw [h]; exact hexP_all hn))
          have h4 := hhex (by rw [h]; exact hexP_all hn)
          rw [hisx, Bool.or_eq_true, Bool.and_eq_true, Bool.and_eq_true, decide_eq_true_eq, decide_eq_true_eq, decide_eq_true_eq, decide_eq_true_eq] at h4
          rw [hdvx] at h3
          split at h3 <;> omega
      · by_cases hB : 97 ≤ lo ∧ lo ≤ 122
        · have e95 : decide ((b : Int) = 95) = false := decide_eq_false (fun h => by have := hl4 (by omega); omega)
          have e1 : decide (48 ≤ (b : Int)) = true := decide_eq_true (Classical.byContradiction fun h => by have := hl3 (by omega); omega)
          have e2 : decide ((b : Int) ≤ 57) = false := decide_eq_false (fun h => hA ⟨Classical.byContradiction fun h => by have := hl3 (by omega); omega, by omega⟩)
          have e3 : decide (97 ≤ (lo : Int)) = true := decide_eq_true (by omega)
          have e4 : decide ((lo : Int) ≤ 122) = true := decide_eq_true (by omega)
          have hgd : ∃ dn : Nat, lo - 87 = dn := ⟨_, rfl⟩
          obtain ⟨dn, hdn0⟩ := hgd
          have hgl2 : ∃ l2 : Nat, lo - 97 = l2 := ⟨_, rfl⟩
          obtain ⟨l2, hl20⟩ := hgl2
          have edn : IntKind.u8.wrap ((lo : Int) - 97) = (l2 : Int) := by
            rw [show (lo : Int) - 97 = (l2 : Int) by omega, wrap_u8_nat, Nat.mod_eq_of_lt (by omega)]
          have edn2 : IntKind.u8.wrap ((l2 : Int) + 10) = (dn : Int) := by
            rw [show (l2 : Int) + 10 = (dn : Int) by omega, wrap_u8_nat, Nat.mod_eq_of_lt (by omega)]
          have hdn : isHex x = true → dn = dv x := fun h => by
            rw [hisx, Bool.or_eq_true, Bool.and_eq_true, Bool.and_eq_true, decide_eq_true_eq, decide_eq_true_eq, decide_eq_true_eq, decide_eq_true_eq] at h
            have h5 := hl2 (by omega) (by omega)
            rw [hdvx, if_neg (by omega)]
            omega
          simp -dsimp (maxSteps := 4000000) only [push_cast, Nat.reduceAdd, Nat.reduceLeDiff, Nat.reduceBEq, Int.reduceNe, Int.reduceEq, Int.reduceLT, Int.reduceLE, cx, e95, e1, e2, ef]
          refine callK_of (lower_c (b : Int) wx) ?_
          rintro _ w2 ⟨rfl, rfl⟩
          rw [hl]
          simp -dsimp (maxSteps := 4000000) only [push_cast, Nat.reduceAdd, Nat.reduceLeDiff, Nat.reduceBEq, Int.reduceNe, Int.reduceEq, Int.reduceLT, Int.reduceLE, e3, ef]
          refine callK_of (lower_c (b : Int) w2) ?_
          rintro _ w3 ⟨rfl, rfl⟩
          rw [hl]
          simp -dsimp (maxSteps := 4000000) only [push_cast, Nat.reduceAdd, Nat.reduceLeDiff, Nat.reduceBEq, Int.reduceNe, Int.reduceEq, Int.reduceLT, Int.reduceLE, e4, ef]
          refine callK_of (lower_c (b : Int) w3) ?_
          rintro _ w4 ⟨rfl, rfl⟩
          rw [hl]
          by_cases hd : dn < 16
          · have ed : decide ((dn : Int) ≥ 16) = false := decide_eq_false (by omega)
            have ed64 : IntKind.u64.wrap (dn : Int) = (dn : Int) := by rw [wrap_u64_nat, Nat.mod_eq_of_lt (by omega)]
            have hgq : ∃ q, k + dn = q := ⟨_, rfl⟩
            obtain ⟨q, hq⟩ := hgq
            have eq : IntKind.u64.wrap ((k : Int) + (dn : Int)) = (q : Int) := by
              rw [show (k : Int) + (dn : Int) = (q : Int) by omega, wrap_u64_nat, Nat.mod_eq_of_lt (by omega)]
            have elt : decide ((q : Int) < (k : Int)) = false := decide_eq_false (by omega)
            have hm' : (∀ b ∈ s, isHex b = true) → hexV s < 4294967296 → q = hexV (s.take (i + 1)) := fun h1 h2 => by
              have := hv h1 h2
              have h3 := hdn (hhex h1)
              rw [hxt, hexV_snoc, ← this, ← h3]
              omega
            by_cases hr : q ≤ mx
            · have emax : decide ((q : Int) > (mx : Int)) = false := decide_eq_false (by omega)
              simp -dsimp (maxSteps := 4000000) only [push_cast, Nat.reduceAdd, Nat.reduceLeDiff, Nat.reduceBEq, Int.reduceNe, Int.reduceEq, Int.reduceLT, Int.reduceLE, cx, ed, ecut, e16, e16', ek, ed64, eq, elt, emax, ef, edn, edn2]
              exact ⟨⟨by omega, by omega⟩, ⟨i + 1, q, rfl, rfl, by omega, hr, hm', hbx, hBx⟩, by rw [h101]; simp only [intOf]; omega⟩
            · have emax : decide ((q : Int) > (mx : Int)) = true := decide_eq_true (by omega)
              simp -dsimp (maxSteps := 4000000) only [push_cast, Nat.reduceAdd, Nat.reduceLeDiff, Nat.reduceBEq, Int.reduceNe, Int.reduceEq, Int.reduceLT, Int.reduceLE, cx, ed, ecut, e16, e16', ek, ed64, eq, elt, emax, ef, edn, edn2]
              refine ⟨⟨mx, _, rfl, by omega, .inr (.inl rfl), fun n hn h => ?_⟩, hbx⟩
              have h1 := hm' (by rw [h]; exact hexP_all hn) (by rw [h, hexP_val hn]; exact hn)
              have h2 := hexV_take s (i + 1)
              have h3 := hexP_val hn
              rw [← h] at h3
              omega
          · have ed : decide ((dn : Int) ≥ 16) = true := decide_eq_true (by omega)
            simp -dsimp (maxSteps := 4000000) only [push_cast, Nat.reduceAdd, Nat.reduceLeDiff, Nat.reduceBEq, Int.reduceNe, Int.reduceEq, Int.reduceLT, Int.reduceLE, cx, ed, e16, ef, edn, edn2]
            refine ⟨⟨0, _, rfl, by omega, .inr (.inr rfl), fun n hn h => ?_⟩, hbx⟩
            have h3 := hdn (hhex (by rw [h]; exact hexP_all hn))
            have h4 := hhex (by rw [h]; exact hexP_all hn)
            rw [hisx, Bool.or_eq_true, Bool.and_eq_true, Bool.and_eq_true, decide_eq_true_eq, decide_eq_true_eq, decide_eq_true_eq, decide_eq_true_eq] at h4
            rw [hdvx] at h3
            split at h3 <;> omega
        · by_cases h95 : b = 95
          · have := hl4 h95
            have e95 : decide ((b : Int) = 95) = true := decide_eq_true (by omega)
            have e1 : decide (48 ≤ (b : Int)) = true := decide_eq_true (by omega)
            have e2 : decide ((b : Int) ≤ 57) = false := decide_eq_false (by omega)
            have e3 : decide (97 ≤ (lo : Int)) = true := decide_eq_true (by omega)
            have e4 : decide ((lo : Int) ≤ 122) = false := decide_eq_false (by omega)
            simp -dsimp (maxSteps := 4000000) only [push_cast, Nat.reduceAdd, Nat.reduceLeDiff, Nat.reduceBEq, Int.reduceNe, Int.reduceEq, Int.reduceLT, Int.reduceLE, cx, e95, e1, e2, ef]
            refine callK_of (lower_c (b : Int) wx) ?_
            rintro _ w2 ⟨rfl, rfl⟩
            rw [hl]
            simp -dsimp (maxSteps := 4000000) only [push_cast, Nat.reduceAdd, Nat.reduceLeDiff, Nat.reduceBEq, Int.reduceNe, Int.reduceEq, Int.reduceLT, Int.reduceLE, e3, ef]
            refine callK_of (lower_c (b : Int) w2) ?_
            rintro _ w3 ⟨rfl, rfl⟩
            rw [hl]
            simp -dsimp (maxSteps := 4000000) only [push_cast, Nat.reduceAdd, Nat.reduceLeDiff, Nat.reduceBEq, Int.reduceNe, Int.reduceEq, Int.reduceLT, Int.reduceLE, e4, ef]
            refine ⟨⟨0, _, rfl, by omega, .inr (.inr rfl), fun n hn h => ?_⟩, hbx⟩
            have := hhex (by rw [h]; exact hexP_all hn)
            rw [hisx, Bool.or_eq_true, Bool.and_eq_true, Bool.and_eq_true, decide_eq_true_eq, decide_eq_true_eq, decide_eq_true_eq, decide_eq_true_eq] at this
            omega
          · rcases Nat.lt_or_ge b 48 with h48 | h48
            · have := hl3 h48
              have e95 : decide ((b : Int) = 95) = false := decide_eq_false (by omega)
              have e1 : decide (48 ≤ (b : Int)) = false := decide_eq_false (by omega)
              have e2 : decide ((b : Int) ≤ 57) = true := decide_eq_true (by omega)
              have e3 : decide (97 ≤ (lo : Int)) = false := decide_eq_false (by omega)
              simp -dsimp (maxSteps := 4000000) only [push_cast, Nat.reduceAdd, Nat.reduceLeDiff, Nat.reduceBEq, Int.reduceNe, Int.reduceEq, Int.reduceLT, Int.reduceLE, cx, e95, e1, e2, ef]
              refine callK_of (lower_c (b : Int) wx) ?_
              rintro _ w2 ⟨rfl, rfl⟩
              rw [hl]
              simp -dsimp (maxSteps := 4000000) only [push_cast, Nat.reduceAdd, Nat.reduceLeDiff, Nat.reduceBEq, Int.reduceNe, Int.reduceEq, Int.reduceLT, Int.reduceLE, e3, ef]
              refine ⟨⟨0, _, rfl, by omega, .inr (.inr rfl), fun n hn h => ?_⟩, hbx⟩
              have := hhex (by rw [h]; exact hexP_all hn)
              rw [hisx, Bool.or_eq_true, Bool.and_eq_true, Bool.and_eq_true, decide_eq_true_eq, decide_eq_true_eq, decide_eq_true_eq, decide_eq_true_eq] at this
              omega
            · rcases Nat.lt_or_ge lo 97 with h97 | h97
              · skip
                have e95 : decide ((b : Int) = 95) = false := decide_eq_false (by omega)
                have e1 : decide (48 ≤ (b : Int)) = true := decide_eq_true (by omega)
                have e2 : decide ((b : Int) ≤ 57) = false := decide_eq_false (by omega)
                have e3 : decide (97 ≤ (lo : Int)) = false := decide_eq_false (by omega)
                simp -dsimp (maxSteps := 4000000) only [push_cast, Nat.reduceAdd, Nat.reduceLeDiff, Nat.reduceBEq, Int.reduceNe, Int.reduceEq, Int.reduceLT, Int.reduceLE, cx, e95, e1, e2, ef]
                refine callK_of (lower_c (b : Int) wx) ?_
                rintro _ w2 ⟨rfl, rfl⟩
                rw [hl]
                simp -dsimp (maxSteps := 4000000) only [push_cast, Nat.reduceAdd, Nat.reduceLeDiff, Nat.reduceBEq, Int.reduceNe, Int.reduceEq, Int.reduceLT, Int.reduceLE, e3, ef]
                refine ⟨⟨0, _, rfl, by omega, .inr (.inr rfl), fun n hn h => ?_⟩, hbx⟩
                have := hhex (by rw [h]; exact hexP_all hn)
                rw [hisx, Bool.or_eq_true, Bool.and_eq_true, Bool.and_eq_true, decide_eq_true_eq, decide_eq_true_eq, decide_eq_true_eq, decide_eq_true_eq] at this
                omega
              · skip
                have e95 : decide ((b : Int) = 95) = false := decide_eq_false (by omega)
                have e1 : decide (48 ≤ (b : Int)) = true := decide_eq_true (by omega)
                have e2 : decide ((b : Int) ≤ 57) = false := decide_eq_false (by omega)
                have e3 : decide (97 ≤ (lo : Int)) = true := decide_eq_true (by omega)
                have e4 : decide ((lo : Int) ≤ 122) = false := decide_eq_false (by omega)
                simp -dsimp (maxSteps := 4000000) only [push_cast, Nat.reduceAdd, Nat.reduceLeDiff, Nat.reduceBEq, Int.reduceNe, Int.reduceEq, Int.reduceLT, Int.reduceLE, cx, e95, e1, e2, ef]
                refine callK_of (lower_c (b : Int) wx) ?_
                rintro _ w2 ⟨rfl, rfl⟩
                rw [hl]
                simp -dsimp (maxSteps := 4000000) only [push_cast, Nat.reduceAdd, Nat.reduceLeDiff, Nat.reduceBEq, Int.reduceNe, Int.reduceEq, Int.reduceLT, Int.reduceLE, e3, ef]
                refine callK_of (lower_c (b : Int) w2) ?_
                rintro _ w3 ⟨rfl, rfl⟩
                rw [hl]
                simp -dsimp (maxSteps := 4000000) only [push_cast, Nat.reduceAdd, Nat.reduceLeDiff, Nat.reduceBEq, Int.reduceNe, Int.reduceEq, Int.reduceLT, Int.reduceLE, e4, ef]
                refine ⟨⟨0, _, rfl, by omega, .inr (.inr rfl), fun n hn h => ?_⟩, hbx⟩
                have := hhex (by rw [h]; exact hexP_all hn)
                rw [hisx, Bool.or_eq_true, Bool.and_eq_true, Bool.and_eq_true, decide_eq_true_eq, decide_eq_true_eq, decide_eq_true_eq, decide_eq_true_eq] at this
                omega
    · refine ⟨⟨m, _, rfl, by omega, .inl rfl, fun n hn h => ⟨?_, rfl⟩⟩, hbx⟩
      have := hv (by rw [h]; exact hexP_all hn) (by rw [h, hexP_val hn]; exact hn)
      rw [this, List.take_of_length_le (by omega), h, hexP_val hn]
end Go.Proofs.YtplbgmoeannobaaGreatDoor
