import Derived.Test.YtimjpijbcnjaaaaDoorImr1
namespace Go.Proofs.YtimjpijbcnjaaaaDoor
open Go.Vc Go.Proofs Go.RowKit Cae
set_option maxRecDepth 100000
set_option linter.unusedSimpArgs false
set_option linter.unusedVariables false
attribute [local irreducible] wpL callK valK unitK runK Fun Sl Own vc vcOps opK pureK
set_option maxHeartbeats 4000000

/-- A row of bytes, as a text. -/
theorem rowStr {P : Program} {s d e : TypeId} {t : Fr} {w w1 : World} {K : VK} {Q : EP} {ys : List UInt8} {n : Nat} {p} (hs : P.underlying s = some (.slice e)) (he : P.underlying e = some (.int .u8)) (hd : P.underlying d = some .string)
    (hw : New w w1 e (ys.flatMap encB)) (hn : ys.length = n) (hm : n ≤ 1000) (k : K (str ys) w1) : valK P (convert s d (.slice (some ⟨w.heap.size, 0, none⟩) n n)) t w1 K Q p := by
  subst hn
  have ho := hw.own (base := 0) (k := 1) (n := ys.length) (enc := encB) (l := ys) rfl rfl (fun _ => rfl) (Nat.zero_le _) (by omega)
  exact strK hs he hd ho.sl k

theorem numB_five {n : Nat} (h : n < 2147483648) : (numB n).length ≤ 5 := numB_len 5 n (by omega) (by omega)
theorem tmod128 (m : Nat) : (m : Int).tmod 128 = ((m % 128 : Nat) : Int) := tmodN m 128
theorem tdiv128 (m : Nat) : (m : Int).tdiv 128 = ((m / 128 : Nat) : Int) := by rw [Int.tdiv_eq_ediv_of_nonneg (by omega)]; rfl
theorem tmodS (m : Nat) : (m : Int).tmod 65521 = ((m % 65521 : Nat) : Int) := tmodN m 65521
theorem numberR_c (n : Nat) (hn : n < 2147483648) (w : World) : Fun Tryd.prog 67 [.int .i64 n] w fun r w' => r = str (numB n) ∧ Below w.heap.size w w' := by
  refine fun_of_vc Tryd.func67 rfl (by kernel_rfl) [2] rfl ?_
  simp -dsimp only [push_cast, fr0, Tryd.ntmps67, List.length_cons, List.length_nil, Nat.reduceAdd, Nat.reduceSub, Nat.reduceBEq, List.replicate_succ, List.replicate_zero]

  refine wpL_loop [0, 3, 4, 5, 6, 7, 8, 9, 10, 11, 12, 13, 14, 15] (fun z wx => ∃ (m : Nat) (l : List UInt8), z 0 = .int .i64 m ∧ z 3 = str l ∧ m ≤ n ∧ l ++ numB m = numB n ∧ Below w.heap.size w wx) (fun z _ => (intOf (z 0)).toNat) ?_ ?_
  · exact ⟨n, [], rfl, rfl, Nat.le_refl _, rfl, Below.refl _ _⟩
  · intro z wx hI
    obtain ⟨m, l, h0, h3, hm, hl, hb⟩ := hI
    simp -dsimp only [push_cast, Nat.reduceAdd, Nat.reduceLeDiff, Nat.reduceBEq, decide_true, h0, h3]
    refine ⟨fun hgt => ?_, fun hle => ?_⟩
    · have hlen := congrArg List.length hl
      have hln := numB_five (n := n) hn
      simp only [List.length_append] at hlen
      rw [tmod128]
      have hm2 := Nat.mod_lt m (show 0 < 128 by omega)
      refine ⟨by omega, ⟨by omega, by omega⟩, ?_⟩
      refine rowK elI_107 rfl rfl (by omega) ?_
      intro w1 hw1
      have hrow : New wx w1 5 ([bt (m % 128 + 128)].flatMap encB) := by
        have e : IntKind.u8.wrap (((m % 128 : Nat) : Int) + 128) = (((bt (m % 128 + 128)).toNat : Nat) : Int) := by
          rw [show (((m % 128 : Nat) : Int) + 128) = ((m % 128 + 128 : Nat) : Int) by omega, wrap_u8_nat, Nat.mod_eq_of_lt (by omega), bt_toNat (by omega)]
        rw [e] at hw1
        exact hw1
      simp -dsimp only [push_cast, Nat.reduceAdd, Nat.reduceLeDiff, Nat.reduceBEq, decide_true]
      refine rowStr (e := 5) (by kernel_rfl) (by kernel_rfl) (by kernel_rfl) hrow rfl (by omega) ?_
      simp -dsimp only [push_cast, Nat.reduceAdd, Nat.reduceLeDiff, Nat.reduceBEq, decide_true]
      have hg := numB_ge (n := m) (by omega)
      have hnp := numB_pos m
      rw [tdiv128, wrap_i64_nat (by omega)]
      exact ⟨by omega, by omega, ⟨m / 128, l ++ [bt (m % 128 + 128)], rfl, rfl, by omega, by rw [← hl, hg, List.append_assoc]; rfl, hb.trans (hw1.below.mono hb.size)⟩, by rw [h0]; simp only [intOf]; omega⟩
    · refine rowK elI_107 rfl rfl (by omega) ?_
      intro w1 hw1
      have hrow : New wx w1 5 ([bt m].flatMap encB) := by
        have e : IntKind.u8.wrap (m : Int) = (((bt m).toNat : Nat) : Int) := by rw [wrap_u8_nat, Nat.mod_eq_of_lt (by omega), bt_toNat (by omega)]
        rw [e] at hw1
        exact hw1
      simp -dsimp only [push_cast, Nat.reduceAdd, Nat.reduceLeDiff, Nat.reduceBEq, decide_true]
      refine rowStr (e := 5) (by kernel_rfl) (by kernel_rfl) (by kernel_rfl) hrow rfl (by omega) ?_
      simp -dsimp only [push_cast, Nat.reduceAdd, Nat.reduceLeDiff, Nat.reduceBEq, decide_true]
      have hlen := congrArg List.length hl
      have hln := numB_five (n := n) hn
      simp only [List.length_append] at hlen
      rw [numB_lt (by omega)] at hl
      exact ⟨by omega, by rw [hl], hb.trans (hw1.below.mono hb.size)⟩

theorem numberRI_c (z : Int) (h0 : 0 ≤ z) (hz : z < 2147483648) (w : World) : Fun Tryd.prog 67 [.int .i64 z] w fun r w' => r = str (numB z.toNat) ∧ Below w.heap.size w w' := by
  have e : z = ((z.toNat : Nat) : Int) := by omega
  have := numberR_c z.toNat (by omega) w
  rwa [← e] at this

theorem bitR_c (b : Bool) (w : World) : Fun Tryd.prog 66 [.bool b] w fun r w' => r = str (bitB b) ∧ w' = w := by
  refine fun_of_vc Tryd.func66 rfl (by kernel_rfl) [2] rfl ?_
  simp -dsimp only [push_cast, fr0, Tryd.ntmps66, List.length_cons, List.length_nil, Nat.reduceAdd, Nat.reduceSub, Nat.reduceBEq, List.replicate_succ, List.replicate_zero]
  cases b with
  | true =>
    simp -dsimp only [push_cast, Nat.reduceAdd, Nat.reduceLeDiff, Nat.reduceBEq, decide_true, ne_eq, eq_self, not_true_eq_false, not_false_eq_true, true_imp_iff, false_imp_iff, Int.reduceNe, Int.reduceEq, Int.reduceLT, Int.reduceLE, Bool.not_true, Bool.not_false, strlit]
    rfl
  | false =>
    simp -dsimp only [push_cast, Nat.reduceAdd, Nat.reduceLeDiff, Nat.reduceBEq, decide_true, ne_eq, eq_self, not_true_eq_false, not_false_eq_true, true_imp_iff, false_imp_iff, Int.reduceNe, Int.reduceEq, Int.reduceLT, Int.reduceLE, Bool.not_true, Bool.not_false, strlit]
    rfl

theorem sumR_c (s : List UInt8) (hs : s.length < 10000000000000) (w : World) : Fun Tryd.prog 35 [str s] w fun r w' => r = .int .u32 (sumP s) ∧ w' = w := by
  refine fun_of_vc Tryd.func35 rfl (by kernel_rfl) [2] rfl ?_
  simp -dsimp only [push_cast, fr0, Tryd.ntmps35, List.length_cons, List.length_nil, Nat.reduceAdd, Nat.reduceSub, Nat.reduceBEq, List.replicate_succ, List.replicate_zero]
  refine wpL_loop [3, 4, 5, 8, 9, 10, 11, 12, 13, 14, 15, 16, 17, 18, 19, 20, 21] (fun z wx => ∃ (i a b : Nat), z 8 = .int .i64 i ∧ z 3 = .int .i64 a ∧ z 4 = .int .i64 b ∧ i ≤ s.length ∧ a ≤ 1 + 255 * i ∧ b ≤ 65520 * i ∧ rsumGo a b (s.drop i) = rsumGo 1 0 s ∧ wx = w) (fun z _ => s.length - (intOf (z 8)).toNat) ?_ ?_
  · exact ⟨0, 1, 0, rfl, rfl, rfl, Nat.zero_le _, by omega, by omega, rfl, rfl⟩
  · intro z wx hI
    obtain ⟨i, a, b, h8, h3, h4, hi, ha, hb, hg, hw⟩ := hI
    simp -dsimp only [push_cast, Nat.reduceAdd, Nat.reduceLeDiff, Nat.reduceBEq, decide_true, h8, h3, h4]
    refine ⟨fun hlt => ?_, fun hge => ?_⟩
    · obtain ⟨c, hc, _, hd, _⟩ := lt_get (l := s) (i := i) (by omega)
      rw [hd, rsumGo] at hg
      have hcl : c.toNat < 256 := c.toNat_lt
      have hgd : s.getD i 0 = c := by rw [List.getD_eq_getElem?_getD, hc]; rfl
      rw [hgd, wrap_i64_nat (by omega), show (a : Int) + (c.toNat : Int) = ((a + c.toNat : Nat) : Int) by omega, tmodS]
      have hm := Nat.mod_lt (a + c.toNat) (show 0 < 65521 by omega)
      generalize hmm : (a + c.toNat) % 65521 = m at hm hg ⊢
      first
      | exact ⟨⟨by omega, by omega⟩, ⟨by omega, by omega⟩, by omega, ⟨by omega, by omega⟩, ⟨by omega, by omega⟩, ⟨i + 1, a + c.toNat, b + m, rfl, rfl, by simp, by omega, by omega, by omega, hg, hw⟩, by simp only [intOf]; omega⟩
    · rw [List.drop_eq_nil_of_le (by omega), rsumGo] at hg
      have he := rsum_eq s 1 0 1 0 (by omega) (by omega)
      rw [← hg] at he
      have h1 := Nat.mod_lt a (show 0 < 65521 by omega)
      have h2 := Nat.mod_lt b (show 0 < 65521 by omega)
      have hp : sumP s = b % 65521 * 65536 + a % 65521 := by unfold sumP; rw [he]
      rw [tmodS, tmodS, wrap_u32_nat, wrap_u32_nat, Nat.mod_eq_of_lt (show b % 65521 < 4294967296 by omega), Nat.mod_eq_of_lt (show a % 65521 < 4294967296 by omega)]
      refine ⟨by omega, by omega, ?_, hw⟩
      congr 1
      rw [hp, show (((b % 65521 : Nat) : Int) * 65536) = ((b % 65521 * 65536 : Nat) : Int) by omega, wrap_u32_nat, Nat.mod_eq_of_lt (show b % 65521 * 65536 < 4294967296 by omega), show (((b % 65521 * 65536 : Nat) : Int) + ((a % 65521 : Nat) : Int)) = ((b % 65521 * 65536 + a % 65521 : Nat) : Int) by omega, wrap_u32_nat, Nat.mod_eq_of_lt (by omega)]
end Go.Proofs.YtimjpijbcnjaaaaDoor
