import Derived.Test.YtonedboaomehaaaDoorFacts
import Derived.Test.YtonedboaomehaaaDoorPbits
import Derived.Test.YtonedboaomehaaaDoorPutf
namespace Go.Proofs.YtonedboaomehaaaDoor
open Go.Vc Go.Proofs Go.RowKit Cae
set_option maxRecDepth 100000
set_option linter.unusedSimpArgs false
set_option linter.unusedVariables false
attribute [local irreducible] wpL callK valK unitK runK Fun Sl Own vc vcOps opK pureK

/-- The table of least code points stands as the text lays it. -/
def Least (w : World) : Prop := ∀ k : Nat, k < 5 → w.cell? ⟨1, k, none⟩ = some (.int .i64 (uleast k))

theorem Least.below {w w' : World} (h : Least w) (hb : Below w.heap.size w w') : Least w' := fun k hk => by
  have := h k hk
  exact (hb.cell (World.block_lt_of_cell? w _ this)).trans this

theorem size_c (c : Nat) (w : World) : Fun Tryd.prog 23 [.int .u8 c] w fun v w' => v = .int .i64 (usize c) ∧ w' = w := by
  refine fun_of_vc Tryd.func23 rfl (by kernel_rfl) [2] rfl ?_
  simp -dsimp only [push_cast, fr0, Tryd.ntmps23, List.length_cons, List.length_nil, Nat.reduceAdd, Nat.reduceSub, List.replicate_succ, List.replicate_zero]
  simp only [Value.int.injEq, usize]
  grind

theorem lead_and {n c : Nat} (hn : n ≤ 4) (h1 : 1 < n) (hc : c < 256) :
    bitop .and .i64 (IntKind.i64.wrap (c : Int)) (IntKind.i64.wrap (1 * 2 ^ min ((7 : Int) - n).toNat IntKind.i64.bits) - 1) = ((ulead n c : Nat) : Int) := by
  have e : n = 2 ∨ n = 3 ∨ n = 4 := by omega
  rw [wrap_i64_nat (by omega)]
  rcases e with rfl | rfl | rfl
  · rw [show IntKind.i64.wrap (1 * 2 ^ min ((7 : Int) - (2 : Nat)).toNat IntKind.i64.bits) - 1 = ((2 ^ 5 - 1 : Nat) : Int) from by decide, bits_and_i64 (by omega) (by omega), and_mask]; rfl
  · rw [show IntKind.i64.wrap (1 * 2 ^ min ((7 : Int) - (3 : Nat)).toNat IntKind.i64.bits) - 1 = ((2 ^ 4 - 1 : Nat) : Int) from by decide, bits_and_i64 (by omega) (by omega), and_mask]; rfl
  · rw [show IntKind.i64.wrap (1 * 2 ^ min ((7 : Int) - (4 : Nat)).toNat IntKind.i64.bits) - 1 = ((2 ^ 3 - 1 : Nat) : Int) from by decide, bits_and_i64 (by omega) (by omega), and_mask]; rfl

theorem ulead_lt {n c : Nat} (hc : c < 256) : ulead n c < 256 := by
  unfold ulead
  split
  · exact Nat.lt_of_le_of_lt (Nat.mod_le _ _) hc
  · exact hc

/-- The first two bits. -/
theorem cont_and (c : UInt8) : bitop .and .u8 (c.toNat : Int) 192 = ((c.toNat / 64 * 64 : Nat) : Int) := by
  have hc := c.toNat_lt
  rw [show (192 : Int) = ((192 : Nat) : Int) from rfl, bits_and_u8 hc (by omega)]
  congr 1
  have : ∀ k : Nat, k < 256 → k &&& 192 = k / 64 * 64 := by decide
  exact this _ hc
theorem low_and (c : UInt8) : bitop .and .u8 (c.toNat : Int) 63 = ((c.toNat % 64 : Nat) : Int) := by
  have hc := c.toNat_lt
  rw [show (63 : Int) = ((2 ^ 6 - 1 : Nat) : Int) from rfl, bits_and_u8 hc (by omega), and_mask]
theorem more_or {p c : Nat} (hp : p < 2147483648) :
    bitop .or .i64 (IntKind.i64.wrap ((p : Int) * 2 ^ min (6 : Int).toNat IntKind.i64.bits)) (IntKind.i64.wrap ((c % 64 : Nat) : Int)) = ((p * 64 + c % 64 : Nat) : Int) := by
  rw [shl_i64 (k := 6) rfl (by omega) (by omega), wrap_i64_nat (by omega), bits_or_i64 (by omega) (by omega), or_low (by omega)]

/-- One round of first's loop, and what follows the last one: 'A' stands for the answer, 'B' for what the world keeps. -/
theorem first_walk {c : UInt8} {s' : List UInt8} {i p : Nat} (h1 : ¬ (usize c.toNat : Int) = 0) (h2 : ¬ (s'.length : Int) + 1 < usize c.toNat)
    (hi1 : 1 ≤ i) (hp : p < 256 * 64 ^ (i - 1)) (hi2 : i ≤ usize c.toNat)
    (hr : urd (((c :: s').take (usize c.toNat)).drop i) p = urd (((c :: s').take (usize c.toNat)).drop 1) (ulead (usize c.toNat) c.toNat)) :
    (i < usize c.toNat → 
      (bitop .and .u8 (((c :: s').getD i 0).toNat : Int) 192 ≠ 128 → ufirst (c :: s') = (0, 0)) ∧
      (¬ bitop .and .u8 (((c :: s').getD i 0).toNat : Int) 192 ≠ 128 → ∃ q : Nat, 
        bitop .or .i64 (IntKind.i64.wrap ((p : Int) * 2 ^ min (6 : Int).toNat IntKind.i64.bits)) (IntKind.i64.wrap (bitop .and .u8 (((c :: s').getD i 0).toNat : Int) 63)) = (q : Int) ∧
        q < 256 * 64 ^ (i + 1 - 1) ∧ urd (((c :: s').take (usize c.toNat)).drop (i + 1)) q = urd (((c :: s').take (usize c.toNat)).drop 1) (ulead (usize c.toNat) c.toNat))) ∧
    (¬ i < usize c.toNat → ufirst (c :: s') = if ubad (usize c.toNat) p then (0, 0) else (p, usize c.toNat)) := by
  have hu := usize_le c.toNat
  have hl : usize c.toNat ≤ (c :: s').length := by simp only [List.length_cons]; omega
  have h0 : usize c.toNat ≠ 0 := by omega
  refine ⟨fun hlt => ?_, fun hge => ufirst_some h0 hl (urd_end (by omega) hr)⟩
  have hstep := urd_step hlt hl hr
  rw [cont_and, low_and]
  generalize (c :: s').getD i 0 = x at hstep ⊢
  refine ⟨fun hx => ?_, fun hx => ?_⟩
  · rw [if_neg (by omega)] at hstep
    exact ufirst_none h0 hl hstep.symm
  · rw [if_pos (by omega)] at hstep
    exact ⟨_, more_or (by have := urd_small hp (by omega); omega), urd_bound hp hi1 (Nat.mod_lt _ (by omega)), hstep⟩

theorem first_c (s : List UInt8) (hs : s.length < 1000000) (h0 : s ≠ []) (w : World) (hg : Least w) :
    Fun Tryd.prog 18 [str s] w fun v w' => v = .tuple #[.int .i64 (ufirst s).1, .int .i64 (ufirst s).2] ∧ Below w.heap.size w w' := by
  obtain ⟨c, s', rfl⟩ := List.exists_cons_of_ne_nil h0
  have hl : 0 < ((c :: s').length : Int) := by simp
  refine fun_of_vc Tryd.func18 rfl (by kernel_rfl) [2, 3] rfl ?_
  simp -dsimp only [push_cast, fr0, Tryd.ntmps18, List.length_cons, List.length_nil, Nat.reduceAdd, Nat.reduceSub, List.replicate_succ, List.replicate_zero]
  refine ⟨hl, ?_⟩
  refine callK_of (size_c _ w) ?_
  rintro v w' ⟨rfl, rfl⟩
  have hu := usize_le c.toNat
  have hc := c.toNat_lt
  simp only [List.getD_cons_zero]
  simp -dsimp only [push_cast, Nat.reduceAdd, Nat.reduceLeDiff, decide_true]
  repeat' first | apply And.intro | intro _
  all_goals try exact hl
  all_goals try simp only [List.getD_cons_zero]
  all_goals try exact Below.refl _ _
  · rename_i h1 h2
    have e : ufirst (c :: s') = (0, 0) := by unfold ufirst; simp; intro h3; omega
    rw [e]; rfl
  · rename_i h1 h2 h3
    refine wpL_draw (fun _ => True) mixed (by kernel_rfl) trivial ?_
    simp -dsimp only [push_cast, Nat.reduceAdd, Nat.reduceLeDiff, decide_true]
    refine ⟨by omega, by omega, by omega, ?_, ?_⟩
    · have e : usize c.toNat = 2 ∨ usize c.toNat = 3 ∨ usize c.toNat = 4 := by omega
      rcases e with e | e | e <;> rw [e] <;> decide
    · simp only [List.getD_cons_zero]
      rw [lead_and hu (by omega) hc]
      refine wpL_loop [2, 3, 4, 29, 30, 31, 32, 33, 34, 35, 36, 37, 38, 39, 40, 41, 42, 43, 44, 45, 46] (fun z wx => ∃ i p : Nat, z 4 = .int .i64 i ∧ z 2 = .int .i64 p ∧ z 3 = .int .i64 (usize c.toNat) ∧ 1 ≤ i ∧ i ≤ usize c.toNat ∧ p < 256 * 64 ^ (i - 1) ∧
        urd (((c :: s').take (usize c.toNat)).drop i) p = urd (((c :: s').take (usize c.toNat)).drop 1) (ulead (usize c.toNat) c.toNat) ∧ Below w'.heap.size w' wx) (fun z _ => usize c.toNat - (intOf (z 4)).toNat) ?_ ?_
      · exact ⟨1, _, rfl, rfl, rfl, Nat.le_refl _, by omega, by simpa using ulead_lt hc, rfl, (Below.refl _ _).drew⟩
      · intro z wx hI
        obtain ⟨i, p, h4, h2', h3', hi1, hi2, hp, hr, hb⟩ := hI
        have hgn := (hg.below hb) (usize c.toNat) (by omega)
        simp -dsimp only [push_cast, Nat.reduceAdd, Nat.reduceLeDiff, decide_true, h4, h2', h3', hgn]
        obtain ⟨hA, hB⟩ := first_walk h1 h2 hi1 hp hi2 hr
        refine ⟨fun hlt => ?_, fun hge => ?_⟩
        · obtain ⟨hA1, hA2⟩ := hA (by omega)
          refine ⟨⟨by omega, by omega⟩, fun hx => ⟨by rw [hA1 hx]; rfl, hb⟩, fun hx => ?_⟩
          obtain ⟨q, hq1, hq2, hq3⟩ := hA2 hx
          exact ⟨by omega, ⟨by omega, by omega⟩, ⟨by omega, by omega⟩, ⟨i + 1, q, rfl, congrArg _ hq1, by omega, by omega, hq2, hq3, hb⟩, by simp only [intOf]; omega⟩
        · have hB := hB (by omega)
          rw [hB]
          simp only [ubad]
          refine ⟨⟨by omega, by omega⟩, ?_⟩
          repeat' first | apply And.intro | intro _
          all_goals first | exact hb | omega | skip
          all_goals grind
  · rename_i h1 h2 h3
    refine wpL_loop [2, 3, 4, 29, 30, 31, 32, 33, 34, 35, 36, 37, 38, 39, 40, 41, 42, 43, 44, 45, 46] (fun z wx => ∃ i p : Nat, z 4 = .int .i64 i ∧ z 2 = .int .i64 p ∧ z 3 = .int .i64 (usize c.toNat) ∧ 1 ≤ i ∧ i ≤ usize c.toNat ∧ p < 256 * 64 ^ (i - 1) ∧
      urd (((c :: s').take (usize c.toNat)).drop i) p = urd (((c :: s').take (usize c.toNat)).drop 1) (ulead (usize c.toNat) c.toNat) ∧ Below w'.heap.size w' wx) (fun z _ => usize c.toNat - (intOf (z 4)).toNat) ?_ ?_
    · refine ⟨1, _, rfl, ?_, rfl, Nat.le_refl _, by omega, by simpa using ulead_lt hc, rfl, Below.refl _ _⟩
      have e : ulead (usize c.toNat) c.toNat = c.toNat := by unfold ulead; rw [if_neg (by omega)]
      rw [e]
      exact congrArg _ (wrap_i64_nat (by omega))
    · intro z wx hI
      obtain ⟨i, p, h4, h2', h3', hi1, hi2, hp, hr, hb⟩ := hI
      have hgn := (hg.below hb) (usize c.toNat) (by omega)
      simp -dsimp only [push_cast, Nat.reduceAdd, Nat.reduceLeDiff, decide_true, h4, h2', h3', hgn]
      obtain ⟨hA, hB⟩ := first_walk h1 h2 hi1 hp hi2 hr
      refine ⟨fun hlt => ?_, fun hge => ?_⟩
      · obtain ⟨hA1, hA2⟩ := hA (by omega)
        refine ⟨⟨by omega, by omega⟩, fun hx => ⟨by rw [hA1 hx]; rfl, hb⟩, fun hx => ?_⟩
        obtain ⟨q, hq1, hq2, hq3⟩ := hA2 hx
        exact ⟨by omega, ⟨by omega, by omega⟩, ⟨by omega, by omega⟩, ⟨i + 1, q, rfl, congrArg _ hq1, by omega, by omega, hq2, hq3, hb⟩, by simp only [intOf]; omega⟩
      · have hB := hB (by omega)
        rw [hB]
        simp only [ubad]
        refine ⟨⟨by omega, by omega⟩, ?_⟩
        repeat' first | apply And.intro | intro _
        all_goals first | exact hb | omega | skip
        all_goals grind
  · rename_i h1
    have e : ufirst (c :: s') = (0, 0) := by unfold ufirst; simp; intro h3; omega
    rw [e]; rfl
end Go.Proofs.YtonedboaomehaaaDoor
