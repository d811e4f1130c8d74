import Derived.Test.YtplbgmoeannobaaGreatDoorSo0
import Derived.Shelf.Strings.Search3
import Derived.Shelf.Small.Wraps
namespace Cae
/-- What stands ahead of the first c, what stands behind it, and whether there is one. -/
def cutP (c : UInt8) (s : List UInt8) : List UInt8 × List UInt8 × Bool := if s.contains c then (s.takeWhile (· != c), (s.dropWhile (· != c)).drop 1, true) else (s, [], false)
/-- The parts between c's. -/
def splitB (c : UInt8) : List UInt8 → List (List UInt8)
  | [] => [[]]
  | b :: r => if b == c then [] :: splitB c r else match splitB c r with
    | [] => [[b]]
    | p :: ps => (b :: p) :: ps
theorem ib_spec (c : UInt8) : ∀ s : List UInt8, Go.Lib.indexByte s c = if s.contains c then ((s.takeWhile (· != c)).length : Int) else -1
  | [] => rfl
  | b :: r => by
    rw [Go.Lib.indexByte, List.contains_cons, ib_spec c r, List.takeWhile_cons]
    by_cases h : b = c
    · subst h; simp
    · have h1 : (b == c) = false := by simpa using h
      have h2 : (c == b) = false := by simpa using (fun e => h e.symm : ¬ c = b)
      have h3 : (b != c) = true := by simp [h]
      rw [h1, h2, h3, Bool.false_or]
      cases hc : r.contains c with
      | true =>
        have : ¬ ((((r.takeWhile (· != c)).length : Nat) : Int) == -1) = true := by simp
        simp only [if_true, if_neg this, Bool.false_eq_true, if_false, List.length_cons]
        omega
      | false => simp
theorem take_tw (p : UInt8 → Bool) : ∀ s : List UInt8, s.take (s.takeWhile p).length = s.takeWhile p
  | [] => rfl
  | b :: r => by
    rw [List.takeWhile_cons]
    split
    · rw [List.length_cons, List.take_succ_cons, take_tw p r]
    · rfl
theorem drop_tw (p : UInt8 → Bool) : ∀ s : List UInt8, s.drop (s.takeWhile p).length = s.dropWhile p
  | [] => rfl
  | b :: r => by
    rw [List.takeWhile_cons, List.dropWhile_cons]
    split
    · rw [List.length_cons, List.drop_succ_cons, drop_tw p r]
    · rfl
theorem tw_lt {c : UInt8} : ∀ {s : List UInt8}, s.contains c = true → (s.takeWhile (· != c)).length < s.length
  | [], h => by cases h
  | b :: r, h => by
    rw [List.takeWhile_cons]
    split
    · rename_i hb
      have : r.contains c = true := by
        rw [List.contains_cons, Bool.or_eq_true] at h
        rcases h with h | h
        · have : c = b := by simpa using h
          subst this; simp at hb
        · exact h
      have := tw_lt this
      simp only [List.length_cons]; omega
    · simp
theorem tw_all {c : UInt8} : ∀ {s : List UInt8}, s.contains c = false → s.takeWhile (· != c) = s
  | [], _ => rfl
  | b :: r, h => by
    rw [List.contains_cons, Bool.or_eq_false_iff] at h
    have h1 : (b != c) = true := by have := h.1; simp at this; simp; exact fun e => this e.symm
    rw [List.takeWhile_cons, if_pos h1, tw_all h.2]
theorem dropWhile_len (p : UInt8 → Bool) : ∀ s : List UInt8, (s.dropWhile p).length ≤ s.length
  | [] => Nat.le_refl _
  | b :: r => by
    have := dropWhile_len p r
    rw [List.dropWhile_cons]
    split <;> simp <;> omega
theorem cutP_len (c : UInt8) (s : List UInt8) : (cutP c s).1.length ≤ s.length ∧ (cutP c s).2.1.length ≤ s.length := by
  unfold cutP
  split
  · rename_i h
    have h1 := tw_lt h
    have h2 := dropWhile_len (· != c) s
    refine ⟨by show (s.takeWhile (· != c)).length ≤ _; omega, ?_⟩
    show ((s.dropWhile (· != c)).drop 1).length ≤ _
    rw [List.length_drop]; omega
  · simp
theorem splitB_ne (c : UInt8) : ∀ s, splitB c s ≠ []
  | [] => by simp [splitB]
  | b :: r => by
    rw [splitB]
    split
    · simp
    · split <;> simp
theorem splitB_eq (c : UInt8) : ∀ s : List UInt8, splitB c s = s.takeWhile (· != c) :: (if s.contains c then splitB c ((s.dropWhile (· != c)).drop 1) else [])
  | [] => rfl
  | b :: r => by
    rw [splitB, List.takeWhile_cons, List.dropWhile_cons, List.contains_cons]
    by_cases h : b = c
    · subst h; simp
    · have h1 : (b == c) = false := by simpa using h
      have h2 : (c == b) = false := by simpa using fun e => h e.symm
      have h3 : (b != c) = true := by simp [h]
      rw [h1, h2, h3, Bool.false_or, splitB_eq c r]
      rfl
theorem splitB_len (c : UInt8) : ∀ s : List UInt8, (splitB c s).length ≤ s.length + 1
  | [] => by simp [splitB]
  | b :: r => by
    have h := splitB_len c r
    rw [splitB]
    split
    · simp; omega
    · cases hs : splitB c r with
      | nil => simp
      | cons p ps => rw [hs] at h; simp at h ⊢; omega
theorem splitB_mem (c : UInt8) : ∀ (s p : List UInt8), p ∈ splitB c s → p.length ≤ s.length
  | [], p, h => by simp [splitB] at h; subst h; simp
  | b :: r, p, h => by
    rw [splitB] at h
    split at h
    · rcases List.mem_cons.1 h with rfl | h
      · simp
      · have := splitB_mem c r p h
        simp; omega
    · cases hs : splitB c r with
      | nil => exact absurd hs (splitB_ne c r)
      | cons q qs =>
        rw [hs] at h
        rcases List.mem_cons.1 h with rfl | h
        · have := splitB_mem c r q (by rw [hs]; simp)
          simp; omega
        · have := splitB_mem c r p (by rw [hs]; simp [h])
          simp; omega
end Cae
namespace Go.Proofs.YtplbgmoeannobaaGreatDoor
open Go.Vc Go.Proofs Go.RowKit Cae
set_option maxRecDepth 100000
set_option linter.unusedSimpArgs false
set_option linter.unusedVariables false
attribute [local irreducible] wpL callK valK unitK runK Fun Sl Own vc vcOps opK pureK
set_option maxHeartbeats 4000000

def indexR_ren : Go.Shelf.Ren := ⟨fun | 143 => 95 | 219 => 104 | 217 => 130 | 225 => 131 | 224 => 132 | 267 => 133 | 266 => 154 | 314 => 155 | n => n, fun | 9 => 9 | 3 => 3 | 4 => 4 | 5 => 5 | 46 => 79 | 146 => 199 | 51 => 113 | n => n, fun | 1 => 4 | n => n⟩
theorem indexR : Go.Proofs.Lays.n143 Tryz.prog indexR_ren := {
  mixed := by kernel_rfl
  f143 := Tryz.func95.trans (congrArg some (by kernel_rfl))
  f217 := Tryz.func130.trans (congrArg some (by kernel_rfl))
  f219 := Tryz.func104.trans (congrArg some (by kernel_rfl))
  f224 := Tryz.func132.trans (congrArg some (by kernel_rfl))
  f225 := Tryz.func131.trans (congrArg some (by kernel_rfl))
  f266 := Tryz.func154.trans (congrArg some (by kernel_rfl))
  f267 := Tryz.func133.trans (congrArg some (by kernel_rfl))
  f314 := Tryz.func155.trans (congrArg some (by kernel_rfl))
  t3 := Tryz.underlying3
  a3 := Tryz.isAgg3
  z3 := Tryz.sizeOf3
  v3 := Tryz.zeroValue3
  t4 := Tryz.underlying4
  a4 := Tryz.isAgg4
  z4 := Tryz.sizeOf4
  v4 := Tryz.zeroValue4
  t5 := Tryz.underlying5
  a5 := Tryz.isAgg5
  z5 := Tryz.sizeOf5
  v5 := Tryz.zeroValue5
  t9 := Tryz.underlying9
  a9 := Tryz.isAgg9
  z9 := Tryz.sizeOf9
  v9 := Tryz.zeroValue9
  t46 := Tryz.underlying79
  a46 := Tryz.isAgg79
  z46 := Tryz.sizeOf79
  v46 := Tryz.zeroValue79
  t51 := Tryz.underlying113
  a51 := Tryz.isAgg113
  z51 := Tryz.sizeOf113
  v51 := Tryz.zeroValue113
  t146 := Tryz.underlying199
  a146 := Tryz.isAgg199
  z146 := Tryz.sizeOf199
  v146 := Tryz.zeroValue199
  g1 := by kernel_rfl }

def indexLR_ren : Go.Shelf.Ren := ⟨fun | 219 => 104 | 217 => 130 | 225 => 131 | 224 => 132 | 267 => 133 | 266 => 154 | 314 => 155 | n => n, fun | 9 => 9 | 3 => 3 | 4 => 4 | 5 => 5 | 46 => 79 | 146 => 199 | 51 => 113 | n => n, fun | 1 => 4 | n => n⟩
theorem indexLR : Go.Proofs.Lays.n219 Tryz.prog indexLR_ren := {
  mixed := by kernel_rfl
  f217 := Tryz.func130.trans (congrArg some (by kernel_rfl))
  f219 := Tryz.func104.trans (congrArg some (by kernel_rfl))
  f224 := Tryz.func132.trans (congrArg some (by kernel_rfl))
  f225 := Tryz.func131.trans (congrArg some (by kernel_rfl))
  f266 := Tryz.func154.trans (congrArg some (by kernel_rfl))
  f267 := Tryz.func133.trans (congrArg some (by kernel_rfl))
  f314 := Tryz.func155.trans (congrArg some (by kernel_rfl))
  t3 := Tryz.underlying3
  a3 := Tryz.isAgg3
  z3 := Tryz.sizeOf3
  v3 := Tryz.zeroValue3
  t4 := Tryz.underlying4
  a4 := Tryz.isAgg4
  z4 := Tryz.sizeOf4
  v4 := Tryz.zeroValue4
  t5 := Tryz.underlying5
  a5 := Tryz.isAgg5
  z5 := Tryz.sizeOf5
  v5 := Tryz.zeroValue5
  t9 := Tryz.underlying9
  a9 := Tryz.isAgg9
  z9 := Tryz.sizeOf9
  v9 := Tryz.zeroValue9
  t46 := Tryz.underlying79
  a46 := Tryz.isAgg79
  z46 := Tryz.sizeOf79
  v46 := Tryz.zeroValue79
  t51 := Tryz.underlying113
  a51 := Tryz.isAgg113
  z51 := Tryz.sizeOf113
  v51 := Tryz.zeroValue113
  t146 := Tryz.underlying199
  a146 := Tryz.isAgg199
  z146 := Tryz.sizeOf199
  v146 := Tryz.zeroValue199
  g1 := by kernel_rfl }

def cutPreR_ren : Go.Shelf.Ren := ⟨fun | 103 => 42 | 210 => 68 | 206 => 101 | n => n, fun | 9 => 9 | 4 => 4 | 24 => 60 | 3 => 3 | n => n, fun | n => n⟩
theorem cutPreR : Go.Proofs.Lays.n103 Tryz.prog cutPreR_ren := {
  mixed := by kernel_rfl
  f103 := Tryz.func42.trans (congrArg some (by kernel_rfl))
  f206 := Tryz.func101.trans (congrArg some (by kernel_rfl))
  f210 := Tryz.func68.trans (congrArg some (by kernel_rfl))
  t3 := Tryz.underlying3
  a3 := Tryz.isAgg3
  z3 := Tryz.sizeOf3
  v3 := Tryz.zeroValue3
  t4 := Tryz.underlying4
  a4 := Tryz.isAgg4
  z4 := Tryz.sizeOf4
  v4 := Tryz.zeroValue4
  t9 := Tryz.underlying9
  a9 := Tryz.isAgg9
  z9 := Tryz.sizeOf9
  v9 := Tryz.zeroValue9
  t24 := Tryz.underlying60
  a24 := Tryz.isAgg60
  z24 := Tryz.sizeOf60
  v24 := Tryz.zeroValue60 }

def cutSufR_ren : Go.Shelf.Ren := ⟨fun | 104 => 43 | 211 => 69 | 207 => 102 | n => n, fun | 9 => 9 | 4 => 4 | 24 => 60 | 3 => 3 | n => n, fun | n => n⟩
theorem cutSufR : Go.Proofs.Lays.n104 Tryz.prog cutSufR_ren := {
  mixed := by kernel_rfl
  f104 := Tryz.func43.trans (congrArg some (by kernel_rfl))
  f207 := Tryz.func102.trans (congrArg some (by kernel_rfl))
  f211 := Tryz.func69.trans (congrArg some (by kernel_rfl))
  t3 := Tryz.underlying3
  a3 := Tryz.isAgg3
  z3 := Tryz.sizeOf3
  v3 := Tryz.zeroValue3
  t4 := Tryz.underlying4
  a4 := Tryz.isAgg4
  z4 := Tryz.sizeOf4
  v4 := Tryz.zeroValue4
  t9 := Tryz.underlying9
  a9 := Tryz.isAgg9
  z9 := Tryz.sizeOf9
  v9 := Tryz.zeroValue9
  t24 := Tryz.underlying60
  a24 := Tryz.isAgg60
  z24 := Tryz.sizeOf60
  v24 := Tryz.zeroValue60 }

theorem index_s (s : List UInt8) (c : UInt8) (w : World) : Fun Tryz.prog 95 [str s, str [c]] w fun r w' => r = .int .i64 (Lib.indexByte s c) ∧ w' = w := by
  refine fun_of_calls Tryz.func95 (by kernel_rfl) (by kernel_rfl) ?_
  refine Calls.mono (Any.strings_Index_one indexR ⟨s.toArray⟩ c w) ?_
  rintro e w' ⟨rfl, rfl⟩
  exact ⟨_, rfl, rfl, rfl⟩
theorem index_l (s : List UInt8) (c : UInt8) (w : World) : Fun Tryz.prog 104 [str s, str [c]] w fun r w' => r = .int .i64 (Lib.indexByte s c) ∧ w' = w := by
  refine fun_of_calls Tryz.func104 (by kernel_rfl) (by kernel_rfl) ?_
  refine Calls.mono (Any.stringslite_Index_one indexLR ⟨s.toArray⟩ c w) ?_
  rintro e w' ⟨rfl, rfl⟩
  exact ⟨_, rfl, rfl, rfl⟩
theorem cutPre_c (s p : List UInt8) (w : World) : Fun Tryz.prog 42 [str s, str p] w fun r w' => r = .tuple #[str (Lib.trimPrefix s p), .bool (Lib.hasPrefix s p)] ∧ w' = w := by
  refine fun_of_calls Tryz.func42 (by kernel_rfl) (by kernel_rfl) ?_
  refine Calls.mono (Any.strings_CutPrefix cutPreR ⟨s.toArray⟩ ⟨p.toArray⟩ w) ?_
  rintro e w' ⟨rfl, rfl⟩
  exact ⟨_, rfl, rfl, rfl⟩
theorem cutSuf_c (s p : List UInt8) (hs : s.length ≤ 9223372036854775807) (w : World) : Fun Tryz.prog 43 [str s, str p] w fun r w' => r = .tuple #[str (Lib.trimSuffix s p), .bool (Lib.hasSuffix s p)] ∧ w' = w := by
  refine fun_of_calls Tryz.func43 (by kernel_rfl) (by kernel_rfl) ?_
  refine Calls.mono (Any.strings_CutSuffix cutSufR ⟨s.toArray⟩ ⟨p.toArray⟩ w hs) ?_
  rintro e w' ⟨rfl, rfl⟩
  exact ⟨_, rfl, rfl, rfl⟩
theorem cut_l (s : List UInt8) (c : UInt8) (hs : s.length ≤ 1000000000) (w : World) : Fun Tryz.prog 71 [str s, str [c]] w fun r w' => r = .tuple #[str (cutP c s).1, str (cutP c s).2.1, .bool (cutP c s).2.2] ∧ Below w.heap.size w w' := by
  refine fun_of_vc Tryz.func71 rfl (by kernel_rfl) [4, 5, 6] rfl ?_
  simp -dsimp (maxSteps := 4000000) only [push_cast, fr0, Tryz.ntmps71, List.length_cons, List.length_nil, Nat.reduceAdd, Nat.reduceSub, Nat.reduceBEq, List.replicate_succ, List.replicate_zero]
  refine callK_of (index_l s c w) ?_
  rintro _ w1 ⟨rfl, rfl⟩
  rw [ib_spec]
  unfold cutP
  cases hc : s.contains c with
  | false =>
    simp only [Bool.false_eq_true, if_false]
    simp -dsimp only [push_cast, Nat.reduceAdd, Nat.reduceLeDiff, Nat.reduceBEq, Int.reduceNe, Int.reduceEq, Int.reduceLT, Int.reduceLE]
    refine ⟨rfl, Below.refl _ _⟩
  | true =>
    simp only [if_true]
    have hlt := tw_lt hc
    have hg : ∃ k, (s.takeWhile (· != c)).length = k := ⟨_, rfl⟩
    obtain ⟨k, hk⟩ := hg
    have h1 : s.takeWhile (· != c) = s.take k := by rw [← hk]; exact (take_tw _ s).symm
    have h2 : (s.dropWhile (· != c)).drop 1 = s.drop (k + 1) := by rw [← drop_tw, List.drop_drop, hk]
    rw [h1, h2]
    rw [hk] at hlt
    have h3 : (s.take k).length = k := by rw [List.length_take]; omega
    rw [h3]
    have hge : decide ((k : Int) ≥ 0) = true := decide_eq_true (by omega)
    simp -dsimp only [push_cast, Nat.reduceAdd, Nat.reduceLeDiff, Nat.reduceBEq, Int.reduceNe, Int.reduceEq, Int.reduceLT, Int.reduceLE, hge]
    refine wpL_draw (fun _ => True) mixed (by kernel_rfl) trivial ?_
    simp -dsimp only [push_cast, Nat.reduceAdd, Nat.reduceLeDiff, Nat.reduceBEq, Int.reduceNe, Int.reduceEq, Int.reduceLT, Int.reduceLE]
    refine ⟨by omega, by omega, by omega, ?_, (Below.refl _ _).drew⟩
    rw [show ((k : Int) + (0 + 1)).toNat = k + 1 by omega]
theorem cut_c (s : List UInt8) (c : UInt8) (hs : s.length ≤ 1000000000) (w : World) : Fun Tryz.prog 45 [str s, str [c]] w fun r w' => r = .tuple #[str (cutP c s).1, str (cutP c s).2.1, .bool (cutP c s).2.2] ∧ Below w.heap.size w w' := by
  refine fun_of_vc Tryz.func45 rfl (by kernel_rfl) [4, 5, 6] rfl ?_
  simp -dsimp (maxSteps := 4000000) only [push_cast, fr0, Tryz.ntmps45, List.length_cons, List.length_nil, Nat.reduceAdd, Nat.reduceSub, Nat.reduceBEq, List.replicate_succ, List.replicate_zero]
  refine callK_of (cut_l s c hs w) ?_
  rintro _ w1 ⟨rfl, hb⟩
  simp -dsimp only [push_cast, Nat.reduceAdd, Nat.reduceLeDiff, Nat.reduceBEq, Int.reduceNe, Int.reduceEq, Int.reduceLT, Int.reduceLE]
  exact hb
end Go.Proofs.YtplbgmoeannobaaGreatDoor
