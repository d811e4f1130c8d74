/- Texts of this claim, merged: Rset, Rtxt, Rpar, Bsm, Rr1, AsF, As, Tell, TellP, RowR, Rpa, CtB, CtW, Rra, Rr2. -/
import Derived.Test.YtphebgkbkdjjoaaGreatDoorM3
import Derived.Test.YtphebgkbkdjjoaaGreatDoorM4
import Derived.Test.YtphebgkbkdjjoaaGreatDoorM6
import Derived.Test.YtphebgkbkdjjoaaGreatDoorM5
import Derived.Test.YtphebgkbkdjjoaaGreatDoorM1
import Derived.Test.YtphebgkbkdjjoaaGreatDoorM2
import Derived.Test.YtphebgkbkdjjoaaGreatDoorTie
import Derived.WalkKit
import Derived.ProofKit
import Derived.Handy
import Derived.Lay
import Derived.OpenShut
import Derived.LaidMore
import Derived.Carry
import Derived.SevenTiedAt
import Derived.LaidHandle
import Derived.LaidSub
import Derived.LaidLaws
import Derived.Lib.LaidTab
import Derived.HandedShaped
import Derived.Shelf.Vars
import Derived.Lib.LaidU8
import Derived.LaidOnce
section
/- The reference's in, RightSet, Has. -/
namespace Go.Proofs.YtphebgkbkdjjoaaGreatDoor
open Go.Vc Go.Proofs Go.RowKit Cae
set_option maxRecDepth 100000
set_option linter.unusedSimpArgs false
set_option linter.unusedVariables false
attribute [local irreducible] wpL callK valK unitK runK Fun Sl Vc.Own vc vcOps opK pureK
set_option maxHeartbeats 4000000

theorem rin_c (a b c : Int) (w : World) : Fun Tryz.prog 115 [.int .i64 a, .int .i64 b, .int .i64 c] w fun r w' => r = .bool (decide (b ≤ a ∧ a ≤ c)) ∧ w' = w := by
  refine fun_of_vc Tryz.func115 rfl (by kernel_rfl) [6] rfl ?_
  push_cast -dsimp (maxSteps := 4000000) [Tryz.ntmps115]
  constructor
  · intro h; simp [h]
  · intro h; simp [h]

/-- The last end ahead of a place. -/
def lastAt (s : List Rg) (i : Nat) : Int := if i = 0 then -2 else (s.getD (i - 1) (0, 0)).2

theorem rightSetR_c (s : List Rg) (hs : s.length < 1000000000) (X : Nat → Prop) (v : Value) (w : World) (hv : Sl X 2 (En encR) w v s) :
    Fun Tryz.prog 87 [v] w fun r w' => r = .bool (setRight (-2) s) ∧ Below w.heap.size w w' := by
  obtain ⟨a, c, rfl, hc⟩ := hv.shape
  refine fun_of_vc Tryz.func87 rfl (by kernel_rfl) [2] rfl ?_
  push_cast -dsimp (maxSteps := 4000000) [Tryz.ntmps87]
  refine wpL_loop [2, 3, 4, 7, 8, 9, 10, 11, 12, 13, 14, 15, 16, 17, 18, 19, 20, 21, 22, 23, 24, 25, 26, 27, 28, 29, 30, 31, 32, 33, 34, 35, 36, 37, 38, 39, 40] (fun z wx => ∃ (i : Nat), z 7 = .int .i64 i ∧ i ≤ s.length ∧ setRight (lastAt s i) (s.drop i) = setRight (-2) s ∧ (0 < i → 0 ≤ lastAt s i ∧ lastAt s i ≤ 1114111) ∧ Below w.heap.size w wx) (fun z _ => s.length - (intOf (z 7)).toNat) ?_ ?_
  · exact ⟨0, rfl, Nat.zero_le _, rfl, fun h => absurd h (by omega), Below.refl _ _⟩
  · intro z wx hI
    obtain ⟨i, h7, hi, hR, hL, hb⟩ := hI
    have szx := hb.size
    push_cast -dsimp [h7]
    refine ⟨fun hlt => ?_, fun hge => ?_⟩
    · have hex := lt_get (l := s) (i := i) (by omega)
      obtain ⟨r, hex⟩ := hex
      have hr := hex.1
      have hd := hex.2.2.1
      rw [hd, setRight] at hR
      have hget := (hv.below hb).get hr
      obtain ⟨b, o, rfl, hX, hcell⟩ := hget
      have ce : cellsAt wx ⟨b, o + i * 2, none⟩ 0 2 = some [.int .i64 r.1, .int .i64 r.2] := cellsAt_of (encR r) 0 (fun k u hu => by simpa using hcell k u hu)
      push_cast -dsimp [ce]
      refine ⟨⟨by omega, by omega⟩, ?_⟩
      refine allocK (z := [.int .i64 0, .int .i64 0]) (by kernel_rfl) ?_
      intro w1 hw1
      push_cast -dsimp
      refine storeAgg (n := 2) (by kernel_rfl) hw1.blk rfl (by simp) (by simp [Value.oneCell']) ?_
      intro w2 hw2
      have sz1 := hw1.size
      have sz2 := hw2.size
      have hb2 : Below wx.heap.size wx w2 := hw1.below.trans (hw2.kept.below (by omega) (fun _ h => by omega))
      have hB2 : Blk w2 wx.heap.size 125 [.int .i64 r.1, .int .i64 r.2] := hw2.blk
      have hbd : Below w.heap.size w w2.drew := (hb.trans (hb2.mono szx)).drew
      have hprev : 0 < i → w2.drew.cell? ⟨b, o + (i - 1) * 2 + 1, none⟩ = some (.int .i64 (lastAt s i)) := fun h0 => by
        have hq : s[i - 1]? = some s[i - 1] := List.getElem?_eq_getElem (by omega)
        obtain ⟨b', o', he, _, hc'⟩ := (hv.below hbd).get hq
        cases he
        have := hc' 1 _ rfl
        rw [this]
        unfold lastAt
        rw [if_neg (by omega), List.getD_eq_getElem?_getD, hq]
        rfl
      push_cast -dsimp
      refine wpL_draw (fun w' => ∀ a, w'.cell? a = w2.cell? a) mixed (by kernel_rfl) (fun _ => rfl) ?_
      have f0 : w2.drew.cell? ⟨wx.heap.size, 0, none⟩ = some (.int .i64 r.1) := hB2.drew.cell rfl
      have f1 : w2.drew.cell? ⟨wx.heap.size, 1, none⟩ = some (.int .i64 r.2) := hB2.drew.cell rfl
      have g0 : ∀ w'' : World, (∀ a, w''.cell? a = w2.cell? a) → w''.cell? ⟨wx.heap.size, 0, none⟩ = some (.int .i64 r.1) := fun w'' hC => (hC _).trans f0
      have g1 : ∀ w'' : World, (∀ a, w''.cell? a = w2.cell? a) → w''.cell? ⟨wx.heap.size, 1, none⟩ = some (.int .i64 r.2) := fun w'' hC => (hC _).trans f1
      have gp : 0 < i → ∀ w'' : World, (∀ a, w''.cell? a = w2.cell? a) → w''.cell? ⟨b, o + (i - 1) * 2 + 1, none⟩ = some (.int .i64 (lastAt s i)) := fun h0 w'' hC => (hC _).trans (hprev h0)
      push_cast -dsimp [f0]
      refine ⟨fun w'' hC => by rw [g0 w'' hC]; exact rfl, ?_⟩
      refine callK_of (rin_c r.1 0 1114111 w2.drew) ?_
      rintro _ w3 ⟨rfl, rfl⟩
      refine ⟨fun _ => rfl, ?_⟩
      have hstop : (r.1 ≤ lastAt s i + 1 ∨ r.2 < r.1 ∨ 1114111 < r.2) → Value.bool false = Value.bool (setRight (-2) s) := fun h => by rw [if_pos h] at hR; rw [← hR]
      have hneg : i = 0 → lastAt s i = -2 := fun h => by unfold lastAt; rw [if_pos h]
      by_cases c1 : 0 ≤ r.1 ∧ r.1 ≤ 1114111
      · rw [decide_eq_true c1]
        push_cast -dsimp [f0, f1]
        refine ⟨fun w'' hC => by rw [g1 w'' hC]; exact rfl, fun w'' hC => by rw [g0 w'' hC]; exact rfl, ?_⟩
        refine callK_of (rin_c r.2 r.1 1114111 w2.drew) ?_
        rintro _ w3 ⟨rfl, rfl⟩
        refine ⟨fun _ => rfl, ?_⟩
        have hcont : (i = 0 ∨ ¬ r.1 < lastAt s i + 2) → (r.1 ≤ r.2 ∧ r.2 ≤ 1114111) → setRight (lastAt s (i + 1)) (s.drop (i + 1)) = setRight (-2) s ∧ (0 < i + 1 → 0 ≤ lastAt s (i + 1) ∧ lastAt s (i + 1) ≤ 1114111) := fun h c2 => by
          have hl : lastAt s (i + 1) = r.2 := by unfold lastAt; rw [if_neg (by omega), Nat.add_sub_cancel, List.getD_eq_getElem?_getD, hr]; rfl
          rw [hl]
          refine ⟨?_, fun _ => by omega⟩
          rw [if_neg (by
            rcases h with h | h
            · have := hneg h; omega
            · omega)] at hR
          exact hR
        by_cases c2 : r.1 ≤ r.2 ∧ r.2 ≤ 1114111
        · rw [decide_eq_true c2]
          have eidx : ((i : Int) - 1).toNat = i - 1 := by omega
          by_cases c3 : 0 < i
          · have fp := hprev c3
            have gq := gp c3
            have hLc := hL c3
            push_cast -dsimp [f0, eidx, fp]
            refine ⟨fun _ => ⟨fun w'' hC => by rw [g0 w'' hC]; exact rfl, ⟨by omega, by omega⟩, ⟨by omega, by omega⟩, fun w'' hC => by rw [gq w'' hC]; exact rfl, ⟨by omega, by omega⟩, fun hbad => ⟨hstop (by omega), hbd⟩, fun hok => ?_⟩, fun h => absurd h (by omega)⟩
            obtain ⟨k1, k2⟩ := hcont (.inr hok) c2
            exact ⟨⟨by omega, by omega⟩, ⟨i + 1, rfl, by omega, k1, k2, hbd⟩, by rw [h7]; simp only [intOf]; omega⟩
          · push_cast -dsimp [f0, eidx]
            refine ⟨fun h => absurd h (by omega), fun _ => ?_⟩
            obtain ⟨k1, k2⟩ := hcont (.inl (by omega)) c2
            exact ⟨⟨by omega, by omega⟩, ⟨i + 1, rfl, by omega, k1, k2, hbd⟩, by rw [h7]; simp only [intOf]; omega⟩
        · rw [decide_eq_false c2]
          push_cast -dsimp
          exact ⟨hstop (by omega), hbd⟩
      · rw [decide_eq_false c1]
        push_cast -dsimp
        refine ⟨hstop ?_, hbd⟩
        rcases Nat.eq_zero_or_pos i with h | h
        · have := hneg h; omega
        · have := hL h; omega
    · rw [List.drop_eq_nil_of_le (by omega), setRight] at hR
      exact ⟨by rw [← hR], hb⟩

end Go.Proofs.YtphebgkbkdjjoaaGreatDoor
end
section
namespace Cae
/-- The text of a set up to a place. -/
def textTo (s : List Rg) (i : Nat) : List UInt8 := Go.Lib.join ((s.take i).map rgP) [32]
theorem join_snoc (x : List UInt8) : ∀ (l : List (List UInt8)), Go.Lib.join (l ++ [x]) [32] = if l = [] then x else Go.Lib.join l [32] ++ 32 :: x
  | [] => by simp [Go.Lib.join_one]
  | y :: l => by
    rw [if_neg (by simp), List.cons_append, Go.Lib.join_cons, Go.Lib.join_cons]
    simp [Go.Lib.joinTail]
theorem textTo_next {s : List Rg} {i : Nat} {x : Rg} (ht : s.take (i + 1) = s.take i ++ [x]) (hi : i < s.length) : textTo s (i + 1) = (if 0 < i then textTo s i ++ [32] else []) ++ rgP x := by
  unfold textTo
  rw [ht, List.map_append, List.map_cons, List.map_nil, join_snoc]
  by_cases h : 0 < i
  · rw [if_pos h, if_neg (by
      intro e
      have := congrArg List.length e
      simp at this
      rcases this with h' | h'
      · omega
      · subst h'; simp at hi)]
    simp
  · have : i = 0 := by omega
    subst this
    simp
theorem textTo_len (s : List Rg) : ∀ i : Nat, i ≤ s.length → (textTo s i).length ≤ 20 * i
  | 0, _ => Nat.le_refl 0
  | i + 1, h => by
    have ih := textTo_len s i (by omega)
    have ht : s.take (i + 1) = s.take i ++ [s[i]'(by omega)] := (List.take_append_getElem (by omega)).symm
    have := rgP_len (s[i]'(by omega))
    rw [textTo_next ht (by omega), List.length_append]
    split
    · rw [List.length_append, List.length_singleton]; omega
    · simp; omega
end Cae
/- The reference's SetText. -/
namespace Go.Proofs.YtphebgkbkdjjoaaGreatDoor
open Go.Vc Go.Proofs Go.RowKit Cae
set_option maxRecDepth 100000
set_option linter.unusedSimpArgs false
set_option linter.unusedVariables false
attribute [local irreducible] wpL callK valK unitK runK Fun Sl Vc.Own vc vcOps opK pureK
set_option maxHeartbeats 4000000
theorem setTextR_c (s : List Rg) (hs : s.length < 10000000) (hr : setRight (-2) s = true) (X : Nat → Prop) (v : Value) (w : World) (hv : Sl X 2 (En encR) w v s) (h : Db w) :
    Fun Tryz.prog 57 [v] w fun r w' => r = str (printP s) ∧ Below w.heap.size w w' := by
  obtain ⟨a, c, rfl, hc⟩ := hv.shape
  refine fun_of_vc Tryz.func57 rfl (by kernel_rfl) [2] rfl ?_
  push_cast -dsimp (maxSteps := 4000000) [Tryz.ntmps57]
  refine wpL_loop [3, 4, 5, 8, 9, 10, 11, 12, 13, 14, 15, 16, 17, 18, 19, 20, 21, 22, 23, 24, 25, 26, 27, 28, 29, 30, 31, 32, 33] (fun z wx => ∃ (i : Nat), z 8 = .int .i64 i ∧ z 3 = str (textTo s i) ∧ i ≤ s.length ∧ Below w.heap.size w wx) (fun z _ => s.length - (intOf (z 8)).toNat) ?_ ?_
  · exact ⟨0, rfl, rfl, Nat.zero_le _, Below.refl _ _⟩
  · intro z wx hI
    obtain ⟨i, h8, h3, hi, hbx⟩ := hI
    have szx := hbx.size
    push_cast -dsimp [h8, h3]
    refine ⟨fun hlt => ?_, fun hge => ?_⟩
    · have hg := lt_get (l := s) (i := i) (by omega)
      obtain ⟨x, hx, hxm, _, ht⟩ := hg
      have hg := (hv.below hbx).get hx
      obtain ⟨b, o, rfl, hnb, hcell⟩ := hg
      have cx : cellsAt wx ⟨b, o + i * 2, none⟩ 0 2 = some [.int .i64 x.1, .int .i64 x.2] := cellsAt_of (encR x) 0 (fun j u hu => by simpa using hcell j u hu)
      have hxr := mem_right (by omega) hr x hxm
      have hgn : ∃ n : Nat, x.1 = n := ⟨x.1.toNat, by omega⟩
      obtain ⟨n, hn⟩ := hgn
      have hgm : ∃ m : Nat, x.2 = m := ⟨x.2.toNat, by omega⟩
      obtain ⟨m, hm⟩ := hgm
      have hT := textTo_next ht (by omega)
      have hrg : rgP x = hexP n ++ (if n < m then 45 :: hexP m else []) := by unfold rgP; rw [hn, hm]; simp
      rw [hrg] at hT
      rw [hn, hm] at cx
      push_cast -dsimp [cx]
      refine ⟨⟨by omega, by omega⟩, ?_⟩
      refine allocK (z := [.int .i64 0, .int .i64 0]) (by kernel_rfl) ?_
      intro w3 hw3
      have sz3 := hw3.size
      push_cast -dsimp
      refine storeAgg (n := 2) (by kernel_rfl) hw3.blk rfl (by simp) (by simp [Value.oneCell']) ?_
      intro w4 hw4
      have sz4 := hw4.size
      have c0 : w4.cell? ⟨wx.heap.size, 0, none⟩ = some (.int .i64 (n : Int)) := hw4.blk.cell rfl
      have c1 : w4.cell? ⟨wx.heap.size, 1, none⟩ = some (.int .i64 (m : Int)) := hw4.blk.cell rfl
      have k4 : Kept (fun j => j = wx.heap.size) wx w4 := (Kept.new hw3).trans hw4.kept (fun _ _ h => h)
      have hb4 : Below w.heap.size w w4 := hbx.trans (k4.below szx (fun _ h => by omega))
      have hTl := textTo_len s i hi
      have hL1 := hexP_len n
      have hL2 := hexP_len m
      have key : ∀ P : List UInt8, P = (if 0 < i then textTo s i ++ [32] else []) → P.length ≤ 20 * i + 1 := fun P e => by
        rw [e]
        split
        · rw [List.length_append, List.length_singleton]; omega
        · simp
      push_cast -dsimp [c0]
      refine ⟨fun hpos => ⟨by omega, ?_⟩, fun hpos => ?_⟩
      · rw [if_pos (by omega)] at hT key
        have hP := key _ rfl
        refine callK_of (fmtI_c n (by omega) w4 (h.below hb4 h.lt)) ?_
        rintro _ w5 ⟨rfl, hb5⟩
        have hB5 := hb4.trans (hb5.mono (show w.heap.size ≤ w4.heap.size by omega))
        have c5 : w5.cell? ⟨wx.heap.size, 0, none⟩ = some (.int .i64 (n : Int)) := (hb5.cell (by show wx.heap.size < w4.heap.size; omega)).trans c0
        have c5' : w5.cell? ⟨wx.heap.size, 1, none⟩ = some (.int .i64 (m : Int)) := (hb5.cell (by show wx.heap.size < w4.heap.size; omega)).trans c1
        push_cast -dsimp [c5, c5']
        refine ⟨by first | omega | (simp only [List.length_append, List.length_singleton] at hP ⊢; omega), fun hne => ?_, fun heq => ?_⟩
        · refine callK_of (fmtI_c m (by omega) w5 (h.below hB5 h.lt)) ?_
          rintro _ w6 ⟨rfl, hb6⟩
          have hB6 := hB5.trans (hb6.mono hB5.size)
          rw [if_pos (by omega)] at hT
          push_cast -dsimp
          refine ⟨by omega, by simp only [List.length_append, List.length_cons, List.length_nil]; first | omega | (simp only [List.length_append, List.length_cons, List.length_nil] at hP; omega), ⟨by omega, by omega⟩, ⟨i + 1, rfl, ?_, by omega, hB6⟩, by rw [h8]; simp only [intOf]; omega⟩
          rw [hT]
          simp
        · rw [if_neg (by omega)] at hT
          refine ⟨⟨by omega, by omega⟩, ⟨i + 1, rfl, ?_, by omega, hB5⟩, by rw [h8]; simp only [intOf]; omega⟩
          rw [hT]
          simp
      · have hi0 : i = 0 := by omega
        rw [if_neg (by omega)] at hT key
        have hP := key _ rfl
        have h0 : textTo s i = [] := by rw [hi0]; rfl
        rw [h0]
        refine callK_of (fmtI_c n (by omega) w4 (h.below hb4 h.lt)) ?_
        rintro _ w5 ⟨rfl, hb5⟩
        have hB5 := hb4.trans (hb5.mono (show w.heap.size ≤ w4.heap.size by omega))
        have c5 : w5.cell? ⟨wx.heap.size, 0, none⟩ = some (.int .i64 (n : Int)) := (hb5.cell (by show wx.heap.size < w4.heap.size; omega)).trans c0
        have c5' : w5.cell? ⟨wx.heap.size, 1, none⟩ = some (.int .i64 (m : Int)) := (hb5.cell (by show wx.heap.size < w4.heap.size; omega)).trans c1
        push_cast -dsimp [c5, c5']
        refine ⟨by first | omega | (simp only [List.length_append, List.length_singleton] at hP ⊢; omega), fun hne => ?_, fun heq => ?_⟩
        · refine callK_of (fmtI_c m (by omega) w5 (h.below hB5 h.lt)) ?_
          rintro _ w6 ⟨rfl, hb6⟩
          have hB6 := hB5.trans (hb6.mono hB5.size)
          rw [if_pos (by omega)] at hT
          push_cast -dsimp
          refine ⟨by omega, by simp only [List.length_append, List.length_cons, List.length_nil]; first | omega | (simp only [List.length_append, List.length_cons, List.length_nil] at hP; omega), ⟨by omega, by omega⟩, ⟨i + 1, rfl, ?_, by omega, hB6⟩, by rw [h8]; simp only [intOf]; omega⟩
          rw [hT]
          simp
        · rw [if_neg (by omega)] at hT
          refine ⟨⟨by omega, by omega⟩, ⟨i + 1, rfl, ?_, by omega, hB5⟩, by rw [h8]; simp only [intOf]; omega⟩
          rw [hT]
          simp
    · have hin : i = s.length := by omega
      have hTl := textTo_len s i hi
      refine ⟨by omega, by simp only [List.length_append, List.length_singleton]; omega, ?_, hbx⟩
      unfold textTo printP
      rw [hin, List.take_length]
      simp
end Go.Proofs.YtphebgkbkdjjoaaGreatDoor
end
section
/- The reference's ParseSet. -/
namespace Go.Proofs.YtphebgkbkdjjoaaGreatDoor
open Go.Vc Go.Proofs Go.RowKit Cae
set_option maxRecDepth 100000
set_option linter.unusedSimpArgs false
set_option linter.unusedVariables false
attribute [local irreducible] wpL callK valK unitK runK Fun Sl Vc.Own vc vcOps opK pureK
set_option maxHeartbeats 8000000
/-- What it answers: the set that is written so, or that there is none. -/
def ParseRR (B : Nat) (s : List UInt8) (r : Value) (w : World) : Prop :=
  (∃ v l, r = .tuple #[v, .int .i64 0] ∧ Vc.Own B 125 2 encR w v l ∧ PrintOf s l) ∨ (r = .tuple #[.slice none 0 0, .int .i64 3] ∧ ∀ l, ¬ PrintOf s l)
theorem parseSetR_c (s : List UInt8) (hs : s.length ≤ 1000000) (w : World) (hd : Db w) (he : SErrs w) (ht : Tv w) : Fun Tryz.prog 62 [str s] w fun r w' => ParseRR w.heap.size s r w' ∧ Below w.heap.size w w' := by
  refine fun_of_vc Tryz.func62 rfl (by kernel_rfl) [2, 3] rfl ?_
  push_cast -dsimp (maxSteps := 4000000) [Tryz.ntmps62]
  refine callK_of (trim_c s (by omega) w) ?_
  rintro _ w1 ⟨rfl, hb1⟩
  have sz1 := hb1.size
  have hlt := trimS_len s [91, 93]
  push_cast -dsimp
  refine callK_of (fields_c (Lib.trimS s [91, 93]) (by omega) w1 (ht.below hb1)) ?_
  rintro fv w2 ⟨ho2, hb2⟩
  have sz2 := hb2.size
  have hbw2 := hb1.trans (hb2.mono sz1)
  have hF : ∃ F, Lib.fieldsD (Lib.trimS s [91, 93]) = F := ⟨_, rfl⟩
  obtain ⟨F, hF⟩ := hF
  have hFn := fieldsD_count (Lib.trimS s [91, 93])
  have hFs : ∀ x ∈ F, x.length ≤ s.length := fun x hx => by rw [← hF] at hx; have := fieldsD_size hx; omega
  have hPF : ∀ l, PrintOf s l → F = l.map rgP := fun l hl => by rw [← hF, ← hl.2, trim_body hl.1, fields_body hl.1]
  rw [hF] at ho2 hFn
  have hsh := ho2.slice
  obtain ⟨fa, fc, rfl⟩ := hsh
  have hsl := ho2.sl
  push_cast -dsimp
  refine wpL_loop [2, 3, 4, 6, 7, 8, 9, 10, 11, 16, 17, 18, 19, 20, 21, 22, 23, 24, 25, 26, 27, 28, 29, 30, 31, 32, 33, 34, 35, 36, 37, 38, 39, 40, 41, 42, 43, 44, 45, 46, 47, 48, 49, 50, 51] (fun z wx => ∃ (i : Nat) (ov : Value) (out : List Rg), z 16 = .int .i64 i ∧ z 4 = ov ∧ i ≤ F.length ∧ out.length = i ∧ (∀ l, PrintOf s l → out = l.take i) ∧ Vc.Own w2.heap.size 125 2 encR wx ov out ∧ Below w2.heap.size w2 wx) (fun z _ => F.length - (intOf (z 16)).toNat) ?_ ?_
  · exact ⟨0, _, [], rfl, rfl, Nat.zero_le _, rfl, fun l _ => by simp, Vc.Own.nil (enc := encR) _ _ (fun _ => rfl) _, Below.refl _ _⟩
  · intro z wx hI
    obtain ⟨i, ov, out, h16, h4, hi, hol, hout, hox, hbx⟩ := hI
    have szx := hbx.size
    have hbwx := hbw2.trans (hbx.mono (by omega))
    push_cast -dsimp [h16, h4]
    refine ⟨fun hlt2 => ?_, fun hge => ?_⟩
    · have hg := lt_get (l := F) (i := i) (by omega)
      obtain ⟨t, htt, htm, _, hFt⟩ := hg
      have hts := hFs t htm
      have hg := (hsl.below hbx).get htt
      obtain ⟨b, o, rfl, _, hcell⟩ := hg
      have c0 : wx.cell? ⟨b, o + i, none⟩ = some (str t) := by simpa [Vc.encS] using hcell 0 _ rfl
      have et : t ++ [45] ++ t = t ++ 45 :: t := by simp
      have hpc := pieces_two t
      obtain ⟨a, b', r', hpc, hal, hbl⟩ := hpc
      have hkey : ∀ l, PrintOf s l → ∃ q, l[i]? = some q ∧ (0 ≤ q.1 ∧ q.1 ≤ q.2 ∧ q.2 ≤ 1114111) ∧ a = hexP q.1.toNat ∧ b' = hexP q.2.toNat := fun l hl => by
        have h1 := hPF l hl
        rw [h1, List.getElem?_map] at htt
        obtain ⟨q, hq, hqt⟩ := Option.map_eq_some_iff.1 htt
        have hr := mem_right (by omega) hl.1 q (List.mem_of_getElem? hq)
        have hm := pieces_rg (r := q) (by omega) (by omega) (by omega) hr.2.1
        obtain ⟨m, hm⟩ := hm
        rw [hqt, hpc] at hm
        simp only [List.cons.injEq] at hm
        exact ⟨q, hq, hr, hm.1, hm.2.1⟩
      push_cast -dsimp [c0, et]
      refine ⟨⟨by omega, by omega⟩, by omega, by simp only [List.length_append, List.length_cons, List.length_nil]; omega, ?_⟩
      refine callK_of (splitN_c t (by omega) wx (ht.below hbwx)) ?_
      rintro wv w3 ⟨hs3, hb3⟩
      have sz3 := hb3.size
      have hbw3 := hbwx.trans (hb3.mono hbwx.size)
      rw [hpc] at hs3
      have hsh := hs3.shape
      obtain ⟨pa, pc, rfl, _⟩ := hsh
      have hg := hs3.get (i := 0) rfl
      obtain ⟨pb, po, rfl, _, hc0⟩ := hg
      have hg := hs3.get (i := 1) rfl
      obtain ⟨_, _, hee, _, hc1⟩ := hg
      cases hee
      have ca : w3.cell? ⟨pb, po, none⟩ = some (str a) := by simpa [Vc.encS] using hc0 0 _ rfl
      have cb : w3.cell? ⟨pb, po + 1, none⟩ = some (str b') := by simpa [Vc.encS] using hc1 0 _ rfl
      have hpl : (a :: b' :: r').length = r'.length + 2 := rfl
      rw [hpl]
      push_cast -dsimp [ca]
      refine ⟨by omega, ?_⟩
      refine callK_of (parseInt_c 40 (.inr rfl) a (by omega) w3 (he.below hbw3)) ?_
      rintro _ w4 ⟨⟨v1, e1, rfl, he1, hx1⟩, hb4⟩
      have sz4 := hb4.size
      have hbw4 := hbw3.trans (hb4.mono hbw3.size)
      have cb4 : w4.cell? ⟨pb, po + 1, none⟩ = some (str b') := (hb4.cell (World.block_lt_of_cell? _ _ cb)).trans cb
      have et1 : Int.toNat 1 = 1 := rfl
      push_cast -dsimp [cb4, et1]
      refine ⟨by omega, ?_⟩
      refine callK_of (parseInt_c 40 (.inr rfl) b' (by omega) w4 (he.below hbw4)) ?_
      rintro _ w5 ⟨⟨v2, e2, rfl, he2, hx2⟩, hb5⟩
      have sz5 := hb5.size
      have hbw5 := hbw4.trans (hb5.mono hbw4.size)
      have bad1 : (∃ ty x, e1 = .iface ty x) → ∀ l, ¬ PrintOf s l := fun h l hl => by
        obtain ⟨ty, x, rfl⟩ := h
        obtain ⟨q, _, hr, ha, _⟩ := hkey l hl
        have := (hx1 q.1.toNat (by omega) ha).2
        cases this
      have bad2 : (∃ ty x, e2 = .iface ty x) → ∀ l, ¬ PrintOf s l := fun h l hl => by
        obtain ⟨ty, x, rfl⟩ := h
        obtain ⟨q, _, hr, _, hb⟩ := hkey l hl
        have := (hx2 q.2.toNat (by omega) hb).2
        cases this
      rcases he1 with rfl | he1
      · rcases he2 with rfl | he2
        · have hb35 : Below w2.heap.size wx w5 := (hb3.mono szx).trans ((hb4.mono (by omega)).trans (hb5.mono (by omega)))
          have ho5 := hox.below (hb3.trans ((hb4.mono (by omega)).trans (hb5.mono (by omega))))
          have hsh := ho5.slice
          obtain ⟨oa, oc, rfl⟩ := hsh
          push_cast -dsimp
          refine rowK elI_99 rfl rfl (by omega) ?_
          intro w7 hw7
          have sz7 := hw7.size
          have ho7 := ho5.new hw7
          push_cast -dsimp
          refine appendK2 (base := w2.heap.size) [(v1, v2)] (enc := encR) elI_99 ho7 (by rfl) (fun j u hu => by simpa [encR] using hw7.cell hu) encR_one (by simp only [List.length_cons, List.length_nil]; omega) (by omega) ?_
          intro v8 w8 ho8 hg8 _
          have k8 := Kept.grown hg8 (fun _ h => h)
          have hbx8 : Below w2.heap.size w2 w8 := (hbx.trans (hb35.trans (hw7.below.mono (by omega)))).trans (k8.below (by omega) (fun j h => (ho7.block j h).1))
          push_cast -dsimp
          refine ⟨⟨by omega, by omega⟩, ⟨i + 1, _, _, rfl, rfl, by omega, by simp; exact hol, fun l hl => ?_, ho8, hbx8⟩, by rw [h16]; simp only [intOf]; omega⟩
          obtain ⟨q, hq, hr, ha, hb⟩ := hkey l hl
          have h1 := (hx1 q.1.toNat (by omega) ha).1
          have h2 := (hx2 q.2.toNat (by omega) hb).1
          have eq : (v1, v2) = q := by
            rw [h1, h2]
            obtain ⟨x, y⟩ := q
            simp only at hr ⊢
            rw [Int.toNat_of_nonneg (by omega), Int.toNat_of_nonneg (by omega)]
          rw [hout l hl, List.take_add_one, hq, eq]
          rfl
        · obtain ⟨ty, x, rfl⟩ := he2
          push_cast -dsimp
          exact ⟨.inr ⟨rfl, bad2 ⟨_, _, rfl⟩⟩, hbw5⟩
      · obtain ⟨ty, x, rfl⟩ := he1
        push_cast -dsimp
        exact ⟨.inr ⟨rfl, bad1 ⟨_, _, rfl⟩⟩, hbw5⟩
    · have hall : ∀ l, PrintOf s l → out = l := fun l hl => by
        have h1 := congrArg List.length (hPF l hl)
        rw [List.length_map] at h1
        rw [hout l hl, List.take_of_length_le (by omega)]
      have hsh := hox.slice
      obtain ⟨oa, oc, rfl⟩ := hsh
      refine callK_of (rightSetR_c out (by omega) _ _ wx hox.sl) ?_
      rintro _ w3 ⟨rfl, hb3⟩
      have sz3 := hb3.size
      have hbw3 := hbwx.trans (hb3.mono hbwx.size)
      have ho3 := hox.below hb3
      cases hr : setRight (-2) out with
      | false =>
        push_cast -dsimp
        exact ⟨.inr ⟨rfl, fun l hl => by have := hall l hl; subst this; rw [hl.1] at hr; cases hr⟩, hbw3⟩
      | true =>
        push_cast -dsimp
        refine callK_of (setTextR_c out (by omega) hr _ _ w3 ho3.sl (hd.below hbw3 hd.lt)) ?_
        rintro _ w4 ⟨rfl, hb4⟩
        have hbw4 := hbw3.trans (hb4.mono hbw3.size)
        push_cast -dsimp
        refine ⟨fun hne => ?_, fun heq => ?_⟩
        · exact ⟨.inr ⟨rfl, fun l hl => by have := hall l hl; subst this; exact hne hl.2⟩, hbw4⟩
        · exact ⟨.inl ⟨_, out, rfl, (ho3.below hb4).mono (by omega), hr, Classical.not_not.1 heq⟩, hbw4⟩
end Go.Proofs.YtphebgkbkdjjoaaGreatDoor
end
section
namespace Go.Proofs.YtphebgkbkdjjoaaGreatDoor
open Go.Vc Go.Proofs Go.RowKit Cae
set_option maxRecDepth 100000
set_option linter.unusedSimpArgs false
set_option linter.unusedVariables false
attribute [local irreducible] wpL callK valK unitK runK Fun Sl Vc.Own vc vcOps opK pureK
/-- Some cells of a block. -/
theorem blkSome {w : World} {b n : Nat} {e : TypeId} {cs xs : List Value} (h : Blk w b e cs) (o : Nat) (hx : (cs.drop o).take n = xs) (hn : xs.length = n) : cellsAt w ⟨b, o, none⟩ 0 n = some xs := by
  subst hn
  refine cellsAt_of xs 0 fun j u hu => ?_
  rw [Nat.zero_add]
  refine h.cell ?_
  rw [← hx] at hu
  have := (List.getElem?_eq_some_iff.1 hu).1
  rw [List.length_take] at this
  rw [List.getElem?_take_of_lt (by omega), List.getElem?_drop] at hu
  exact hu

end Go.Proofs.YtphebgkbkdjjoaaGreatDoor
end
section
/- The reference's reader: it holds tokens, and the first thing that was wrong. -/
namespace Cae
def noMark (s : List UInt8) : Prop := s ≠ [124] ∧ s ≠ [38] ∧ s ≠ [45]
def okB : Option (Nat × Nat) → Bool
  | none => true
  | some _ => false
theorem okB_none : okB none = true := rfl
theorem okB_some (e : Nat × Nat) : okB (some e) = false := rfl
attribute [push_cast] okB_none okB_some
/-- What is read, if nothing was wrong. -/
def outP {α : Type} (bad : Option (Nat × Nat)) (p : Pa α) (l : List Cae.Tok) : Except (Nat × Nat) (α × List Cae.Tok) := match bad with
  | none => p l
  | some e => .error e
end Cae
namespace Go.Proofs.YtphebgkbkdjjoaaGreatDoor
open Go.Vc Go.Proofs Go.RowKit Cae
set_option maxRecDepth 100000
set_option linter.unusedSimpArgs false
set_option linter.unusedVariables false
attribute [local irreducible] wpL callK valK unitK runK Fun Sl Vc.Own vc vcOps opK pureK
set_option maxHeartbeats 4000000
theorem below_drewR (w : World) : Below w.heap.size w w.drew := ((Kept.refl (fun _ => False) w).drew).below (Nat.le_refl _) (fun _ h => h.elim)
structure Gr (w : World) : Prop where
  d : Db w
  e : SErrs w
  t : Tv w
  f0 : w.cell? ⟨0, 0, none⟩ = some (.int .i64 0)
  f1 : w.cell? ⟨0, 1, none⟩ = some (.int .i64 (-1))
theorem Gr.below {w w' : World} (h : Gr w) (hb : Below w.heap.size w w') : Gr w' :=
  ⟨h.d.below hb h.d.lt, h.e.below hb, h.t.below hb, (hb.cell (World.block_lt_of_cell? w _ h.f0)).trans h.f0, (hb.cell (World.block_lt_of_cell? w _ h.f1)).trans h.f1⟩
def badV : Option (Nat × Nat) → List Value
  | none => [.int .i64 0, .int .i64 (-1)]
  | some e => [.int .i64 (e.1 : Int), .int .i64 (e.2 : Int)]
structure RS (rb B : Nat) (w : World) (l : List Cae.Tok) (bad : Option (Nat × Nat)) : Prop where
  st : ∃ v, Blk w rb 52 (v :: badV bad) ∧ Sl (fun b => b = rb ∨ B ≤ b) 3 (En encTok) w v l
  lt : rb < B
  le : B ≤ w.heap.size
  tl : TL l
  tm : ∀ t ∈ l, t.kind ≠ 4 → noMark t.text
  g0 : ∃ w0, Gr w0 ∧ w0.heap.size ≤ rb ∧ Below w0.heap.size w0 w
  ne : ∀ e, bad = some e → e.1 ≠ 0
theorem RS.gr {rb B : Nat} {w : World} {l : List Cae.Tok} {bad : Option (Nat × Nat)} (h : RS rb B w l bad) : Gr w := by
  obtain ⟨w0, hg, _, hb⟩ := h.g0
  exact hg.below hb
theorem RS.keptB {rb B : Nat} {w w' : World} {l : List Cae.Tok} {bad : Option (Nat × Nat)} {Y : Nat → Prop} (h : RS rb B w l bad) (hk : Kept Y w w') (hY : ∀ i, Y i → B ≤ i) : RS rb B w' l bad := by
  obtain ⟨v, h1, h2⟩ := h.st
  have hl := h.lt
  obtain ⟨w0, hg, h0, hb⟩ := h.g0
  have hle := h.le
  have hz := hk.size
  have hbz := hb.size
  exact ⟨⟨v, h1.kept hk (fun hh => by have := hY _ hh; omega), h2.kept hk (fun i hi => .inr (hY i hi))⟩, h.lt, by omega, h.tl, h.tm, ⟨w0, hg, h0, hb.trans (hk.below (by omega) (fun i hi => by have := hY i hi; omega))⟩, h.ne⟩
theorem RS.below {rb B : Nat} {w w' : World} {l : List Cae.Tok} {bad : Option (Nat × Nat)} (h : RS rb B w l bad) (hk : Below w.heap.size w w') : RS rb B w' l bad :=
  h.keptB (Kept.of_below hk (X := fun i => w.heap.size ≤ i) (fun i h1 h2 => h1)) (fun i hi => Nat.le_trans h.le hi)
theorem RS.hd {rb B : Nat} {w : World} {t : Cae.Tok} {r : List Cae.Tok} {bad : Option (Nat × Nat)} (h : RS rb B w (t :: r) bad) : ∃ b o c, Blk w rb 52 (.slice (some ⟨b, o, none⟩) (r.length + 1) c :: badV bad) ∧ r.length + 1 ≤ c ∧ b ≠ rb ∧
    w.cell? ⟨b, o, none⟩ = some (.int .i64 t.kind) ∧ w.cell? ⟨b, o + 1, none⟩ = some (str t.text) ∧ w.cell? ⟨b, o + 2, none⟩ = some (.int .i64 t.pos) ∧ cellsAt w ⟨b, o, none⟩ 0 3 = some [.int .i64 t.kind, str t.text, .int .i64 t.pos] := by
  obtain ⟨v, h1, h2⟩ := h.st
  obtain ⟨a, c, rfl, hc⟩ := h2.shape
  obtain ⟨b, o, rfl, hb, hcell⟩ := h2.get (i := 0) (x := t) rfl
  refine ⟨b, o, c, h1, hc, fun e => hb (.inl e), ?_, ?_, ?_, cellsAt_of (encTok t) 0 (fun j u hu => by have := hcell j u hu; simpa using this)⟩
  · have := hcell 0 _ rfl; simpa using this
  · have := hcell 1 _ rfl; simpa using this
  · have := hcell 2 _ rfl; simpa using this
theorem RS.cons {rb B : Nat} {w : World} {l : List Cae.Tok} {bad : Option (Nat × Nat)} (h : RS rb B w l bad) : ∃ t r, l = t :: r := h.tl.cons
/-- Another fault in its place, the tokens as they were. -/
theorem RS.fault {rb B : Nat} {w w' : World} {l : List Cae.Tok} {bad bad' : Option (Nat × Nat)} {v : Value} (h : RS rb B w l bad) (hv : Blk w rb 52 (v :: badV bad)) (hp : Put w w' rb 52 (v :: badV bad')) (hn : ∀ e, bad' = some e → e.1 ≠ 0) : RS rb B w' l bad' := by
  obtain ⟨u, h1, h2⟩ := h.st
  have e : u = v := by
    have h1' : w.heap[rb]? = _ := h1
    have hv' : w.heap[rb]? = _ := hv
    rw [h1'] at hv'
    simp at hv'
    exact hv'
  subst e
  obtain ⟨w0, hg, h0, hb⟩ := h.g0
  have hl := h.lt
  have hle := h.le
  have hbz := hb.size
  exact ⟨⟨_, hp.blk, h2.kept hp.kept (fun i hi => .inl hi)⟩, h.lt, by rw [hp.size]; exact h.le, h.tl, h.tm, ⟨w0, hg, h0, hb.trans (hp.kept.below (by omega) (fun i hi => by omega))⟩, hn⟩
/-- Behind a token that is taken. -/
theorem RS.pop {rb B b o c : Nat} {w w' : World} {t : Cae.Tok} {r : List Cae.Tok} {bad : Option (Nat × Nat)} (h : RS rb B w (t :: r) bad) (hb : Blk w rb 52 (.slice (some ⟨b, o, none⟩) (r.length + 1) c :: badV bad)) (h5 : t.kind ≠ 5)
    (hp : Put w w' rb 52 (.slice (if (c : Int) = 1 then some ⟨b, o, none⟩ else some ⟨b, o + 3, none⟩) r.length (c - 1) :: badV bad)) : RS rb B w' r bad := by
  have hl := h.lt
  have htl := h.tl.tail h5
  obtain ⟨t2, r2, rfl⟩ := htl.cons
  obtain ⟨v, h1, h2⟩ := h.st
  have e : v = .slice (some ⟨b, o, none⟩) ((t2 :: r2).length + 1) c := by
    have h1' : w.heap[rb]? = _ := h1
    have hb' : w.heap[rb]? = _ := hb
    rw [h1'] at hb'
    simp at hb'
    exact hb'
  subst e
  have hk := hp.kept
  have hc : (t2 :: r2).length + 1 ≤ c := by
    obtain ⟨a, c', he, hc⟩ := h2.shape
    cases he
    exact hc
  have hc1 : ¬ (c : Int) = 1 := by rw [List.length_cons] at hc; omega
  have hpb := hp.blk
  rw [if_neg hc1] at hpb
  obtain ⟨w0, hg, h0, hbw⟩ := h.g0
  have hle := h.le
  have hbz := hbw.size
  refine ⟨⟨_, hpb, ?_⟩, h.lt, by rw [hp.size]; exact h.le, htl, fun x hx => h.tm x (List.mem_cons_of_mem _ hx), ⟨w0, hg, h0, hbw.trans (hk.below (by omega) (fun i hi => by omega))⟩, h.ne⟩
  unfold Sl at h2 ⊢
  obtain ⟨a, c', he, hc', hall⟩ := h2
  cases he
  refine ⟨some ⟨b, o + 3, none⟩, c - 1, rfl, by omega, fun i x hx => ?_⟩
  obtain ⟨b', o', cs, ha, hX, hcs, hcell, hr⟩ := hall (i + 1) x (by simpa using hx)
  cases ha
  refine ⟨b, o + 3, cs, rfl, hX, hcs, fun j u hu => ?_, hr⟩
  have := hcell j u hu
  rw [show o + (i + 1) * 3 + j = o + 3 + i * 3 + j by omega] at this
  exact hk.cell this (fun hh => hX (.inl hh))
/-- What is answered: what was read, or a fault, and something (J). -/
def RRes {α : Type} (rb B : Nat) (w : World) (o : Except (Nat × Nat) (α × List Cae.Tok)) (V : World → Value → α → Prop) (J : Value → Prop) : VK := fun r w' => Kept (· = rb) w w' ∧ match o with
  | .ok (x, l') => V w' r x ∧ RS rb B w' l' none
  | .error e => J r ∧ ∃ l', RS rb B w' l' (some e)
def Rc {α : Type} (f : FuncId) (args : List Value) (rb B : Nat) (w : World) (l : List Cae.Tok) (bad : Option (Nat × Nat)) (p : Pa α) (V : World → Value → α → Prop) (J : Value → Prop) : Prop := Fun Tryz.prog f args w (RRes rb B w (outP bad p l) V J)
section
variable {rb B : Nat} {w : World} {l : List Cae.Tok} {bad : Option (Nat × Nat)} (h : RS rb B w l bad)
include h
theorem rok_c : Fun Tryz.prog 19 [.pointer (some ⟨rb, 0, none⟩)] w fun r w' => r = .bool (okB bad) ∧ Below w.heap.size w w' := by
  have hg := h.gr
  obtain ⟨v, hB, _⟩ := h.st
  have hne := h.ne
  have f2 : cellsAt w ⟨0, 0, none⟩ 0 2 = some [.int .i64 0, .int .i64 (-1)] := cellsAt_of [.int .i64 0, .int .i64 (-1)] 0 (fun j u hu => by
    rw [Nat.zero_add, Nat.zero_add]
    match j, hu with
    | 0, hu => cases hu; exact hg.f0
    | 1, hu => cases hu; exact hg.f1
    | j + 2, hu => cases hu)
  have d2 : cellsAt w.drew ⟨0, 0, none⟩ 0 2 = some [.int .i64 0, .int .i64 (-1)] := f2
  refine fun_of_vc Tryz.func19 rfl (by kernel_rfl) [2] rfl ?_
  push_cast -dsimp (maxSteps := 4000000) [Tryz.ntmps19]
  refine wpL_draw (fun w' => w' = w.drew) mixed (by kernel_rfl) rfl ?_
  cases bad with
  | none =>
    have cb : cellsAt w.drew ⟨rb, 1, none⟩ 0 2 = some [.int .i64 0, .int .i64 (-1)] := blkSome (n := 2) hB.drew 1 rfl rfl
    push_cast -dsimp [cb, d2]
    refine ⟨fun w'' hC => by rw [hC, cb]; exact rfl, fun w'' hC => by rw [hC, d2]; exact rfl, ?_⟩
    exact below_drewR w
  | some e =>
    obtain ⟨c, q⟩ := e
    have hc : c ≠ 0 := hne _ rfl
    have cb : cellsAt w.drew ⟨rb, 1, none⟩ 0 2 = some [.int .i64 (c : Int), .int .i64 (q : Int)] := blkSome (n := 2) hB.drew 1 rfl rfl
    push_cast -dsimp [cb, d2]
    refine ⟨fun w'' hC => by rw [hC, cb]; exact rfl, fun w'' hC => by rw [hC, d2]; exact rfl, ?_, below_drewR w⟩
    simp
theorem rsee_c (s : List UInt8) : Fun Tryz.prog 15 [.pointer (some ⟨rb, 0, none⟩), str s] w fun r w' => r = .bool (okB bad && seeP s l) ∧ Below w.heap.size w w' := by
  obtain ⟨t, r, rfl⟩ := h.cons
  have hs : seeP s (t :: r) = (t.kind != 5 && t.text == s) := rfl
  refine fun_of_vc Tryz.func15 rfl (by kernel_rfl) [4] rfl ?_
  push_cast -dsimp (maxSteps := 4000000) [Tryz.ntmps15]
  refine callK_of (rok_c h) ?_
  rintro _ w1 ⟨rfl, hb1⟩
  cases bad with
  | some e =>
    push_cast -dsimp
    exact ⟨rfl, hb1⟩
  | none =>
    have h1 := h.below hb1
    obtain ⟨b, o, c, hB, hc, hne, c0, c1, c2, c3⟩ := h1.hd
    have cb : w1.cell? ⟨rb, 0, none⟩ = some (.slice (some ⟨b, o, none⟩) (r.length + 1) c) := hB.cell rfl
    rw [hs]
    push_cast -dsimp [cb, c0, c1]
    refine ⟨by omega, fun h5 => ⟨by omega, ?_⟩, fun h5 => ?_⟩
    · have h5' : t.kind ≠ 5 := fun e => h5 (by omega)
      refine ⟨?_, hb1⟩
      congr 1
      by_cases he : t.text = s <;> simp [he, h5']
    · have h5' : t.kind = 5 := by omega
      refine ⟨?_, hb1⟩
      simp [h5']
theorem rfails_c (e : Nat) (he : e ≠ 0) : Fun Tryz.prog 16 [.pointer (some ⟨rb, 0, none⟩), .int .i64 (e : Int)] w fun r w' => r = .tuple #[] ∧ RS rb B w' l (some (bad.getD (e, (Cae.hd l).pos))) ∧ Kept (· = rb) w w' := by
  obtain ⟨t, r, rfl⟩ := h.cons
  refine fun_of_vc Tryz.func16 rfl (by kernel_rfl) [] rfl ?_
  push_cast -dsimp (maxSteps := 4000000) [Tryz.ntmps16]
  refine callK_of (rok_c h) ?_
  rintro _ w1 ⟨rfl, hb1⟩
  have h1 := h.below hb1
  have k1 : Kept (· = rb) w w1 := Kept.of_below hb1 (fun i h1 h2 => by omega)
  cases bad with
  | some e =>
    push_cast -dsimp
    exact ⟨h1, k1⟩
  | none =>
    obtain ⟨b, o, c, hB, hc, hne, c0, c1, c2, c3⟩ := h1.hd
    have cb : w1.cell? ⟨rb, 0, none⟩ = some (.slice (some ⟨b, o, none⟩) (r.length + 1) c) := hB.cell rfl
    push_cast -dsimp [cb, c2]
    refine ⟨by omega, ?_⟩
    refine storeAgg (n := 2) (by kernel_rfl) hB rfl (by simp [badV]) (by simp [Value.oneCell']) ?_
    intro w2 hw2
    have hw2 : Put w1 w2 rb 52 (.slice (some ⟨b, o, none⟩) (r.length + 1) c :: badV (some (e, t.pos))) := hw2
    push_cast -dsimp
    exact ⟨h1.fault hB hw2 (fun e' h' => by cases h'; exact he), k1.trans hw2.kept (fun i _ h => h)⟩
/-- What take does. -/
def RTook (s : List UInt8) (rb B : Nat) (w : World) (l : List Cae.Tok) (bad : Option (Nat × Nat)) : VK := fun r w' =>
  (bad = none ∧ seeP s l = true ∧ r = .bool true ∧ ∃ t r', l = t :: r' ∧ t.kind ≠ 5 ∧ RS rb B w' r' none ∧ Kept (· = rb) w w') ∨ ((okB bad && seeP s l) = false ∧ r = .bool false ∧ RS rb B w' l bad ∧ Below w.heap.size w w')
theorem rtake_c (s : List UInt8) : Fun Tryz.prog 22 [.pointer (some ⟨rb, 0, none⟩), str s] w (RTook s rb B w l bad) := by
  refine fun_of_vc Tryz.func22 rfl (by kernel_rfl) [4] rfl ?_
  push_cast -dsimp (maxSteps := 4000000) [Tryz.ntmps22]
  refine callK_of (rsee_c h s) ?_
  rintro _ w1 ⟨rfl, hb1⟩
  have h1 := h.below hb1
  have k1 : Kept (· = rb) w w1 := Kept.of_below hb1 (fun i h1 h2 => by omega)
  cases hs : (okB bad && seeP s l) with
  | false =>
    push_cast -dsimp
    exact .inr ⟨hs, rfl, h1, hb1⟩
  | true =>
    obtain ⟨t, r, rfl⟩ := h.cons
    rw [Bool.and_eq_true] at hs
    obtain ⟨hn, hs⟩ := hs
    obtain rfl : bad = none := by cases bad with
      | none => rfl
      | some e => cases hn
    have h5 := seeP_kind hs
    obtain ⟨b, o, c, hB, hc, hne, c0, c1, c2, c3⟩ := h1.hd
    have cb : w1.cell? ⟨rb, 0, none⟩ = some (.slice (some ⟨b, o, none⟩) (r.length + 1) c) := hB.cell rfl
    push_cast -dsimp [cb, slice1]
    refine ⟨by omega, ?_⟩
    refine storeK_of hB (by simp) rfl ?_
    intro w2 hw2
    have hps := h1.pop hB h5 hw2
    have hk := hw2.kept
    push_cast -dsimp
    exact .inl ⟨rfl, hs, rfl, t, r, rfl, h5, hps, k1.trans hk (fun i _ h => h)⟩
theorem rmust_c (s : List UInt8) : Rc 17 [.pointer (some ⟨rb, 0, none⟩), str s] rb B w l bad (mustP s) (fun _ r _ => r = .tuple #[]) (fun r => r = .tuple #[]) := by
  refine fun_of_vc Tryz.func17 rfl (by kernel_rfl) [] rfl ?_
  push_cast -dsimp (maxSteps := 4000000) [Tryz.ntmps17]
  refine callK_of (rtake_c h s) ?_
  rintro _ w1 hT
  unfold RRes
  rcases hT with ⟨rfl, hs, rfl, t, r, rfl, h5, hps, hk⟩ | ⟨hs, rfl, h1, hb1⟩
  · push_cast -dsimp
    refine ⟨hk, ?_⟩
    have e : outP none (mustP s) (t :: r) = .ok ((), r) := by unfold outP mustP pif; rw [hs]; exact popP_cons h5
    rw [e]
    exact hps
  · have k1 : Kept (· = rb) w w1 := Kept.of_below hb1 (fun i h1 h2 => by omega)
    push_cast -dsimp
    refine callK_of (rfails_c h1 3 (by decide)) ?_
    rintro _ w2 ⟨rfl, h2, k2⟩
    push_cast -dsimp
    refine ⟨k1.trans k2 (fun i _ h => h), ?_⟩
    have e : outP bad (mustP s) l = .error (bad.getD (3, (Cae.hd l).pos)) := by
      cases bad with
      | none => unfold outP mustP pif; rw [show seeP s l = false from hs]; rfl
      | some e => rfl
    rw [e]
    exact ⟨l, h2⟩
theorem risName_c : Fun Tryz.prog 41 [.pointer (some ⟨rb, 0, none⟩)] w fun r w' => r = .bool (namedP l) ∧ Below w.heap.size w w' := by
  obtain ⟨t, r, rfl⟩ := h.cons
  obtain ⟨b, o, c, hB, hc, hne, c0, c1, c2, c3⟩ := h.hd
  have cb : w.cell? ⟨rb, 0, none⟩ = some (.slice (some ⟨b, o, none⟩) (r.length + 1) c) := hB.cell rfl
  have hn : namedP (t :: r) = (t.kind == 1 && !keptP t.text) := rfl
  refine fun_of_vc Tryz.func41 rfl (by kernel_rfl) [2] rfl ?_
  push_cast -dsimp (maxSteps := 4000000) [Tryz.ntmps41]
  push_cast -dsimp [cb, Nat.zero_mul, Nat.add_zero, c3]
  refine ⟨by omega, ?_⟩
  refine allocK (z := [.int .i64 0, str [], .int .i64 0]) (by kernel_rfl) ?_
  intro w1 hw1
  have z1 := hw1.size
  push_cast -dsimp
  refine storeAgg (xt := 55) (n := 3) (by kernel_rfl) hw1.blk rfl (by decide) (by simp; exact ⟨rfl, rfl, rfl⟩) ?_
  intro w2 hw2
  have B2 : Blk w2 w.heap.size 55 [.int .i64 t.kind, str t.text, .int .i64 t.pos] := hw2.blk
  have b2 := hw1.below.trans (hw2.kept.below (B := w.heap.size) (by omega) (fun i h => by omega))
  have d0 : w2.cell? ⟨w.heap.size, 0, none⟩ = some (.int .i64 t.kind) := B2.cell rfl
  have d1 : w2.cell? ⟨w.heap.size, 1, none⟩ = some (str t.text) := B2.cell rfl
  push_cast -dsimp [d0, d1]
  have hN : namedP (t :: r) = true ↔ t.kind = 1 ∧ ¬ t.text = [99, 108, 97, 115, 115] ∧ ¬ t.text = [98, 114, 101, 97, 107] ∧ ¬ t.text = [107, 101, 101, 112] ∧ ¬ t.text = [101, 108, 115, 101] := by
    rw [hn]
    simp [keptP, and_assoc]
  have eB : ∀ x : Bool, (x = true ↔ t.kind = 1 ∧ ¬ t.text = [99, 108, 97, 115, 115] ∧ ¬ t.text = [98, 114, 101, 97, 107] ∧ ¬ t.text = [107, 101, 101, 112] ∧ ¬ t.text = [101, 108, 115, 101]) → Value.bool x = Value.bool (namedP (t :: r)) := fun x h => congrArg _ (Bool.eq_iff_iff.2 (h.trans hN.symm))
  refine ⟨fun k => ⟨fun c1 => ⟨fun c2 => ⟨fun c3 => ⟨eB _ ?_, b2⟩, fun c3 => ⟨eB _ ?_, b2⟩⟩, fun c2 => ⟨eB _ ?_, b2⟩⟩, fun c1 => ⟨eB _ ?_, b2⟩⟩, fun k => ⟨eB _ ?_, b2⟩⟩
  · rw [decide_eq_true_iff]
    exact ⟨fun h => ⟨by omega, c1, c2, c3, h⟩, fun h => h.2.2.2.2⟩
  · exact ⟨fun h => (by cases h), fun h => (c3 h.2.2.2.1).elim⟩
  · exact ⟨fun h => (by cases h), fun h => (c2 h.2.2.1).elim⟩
  · exact ⟨fun h => (by cases h), fun h => (c1 h.2.1).elim⟩
  · exact ⟨fun h => (by cases h), fun h => by omega⟩
end
end Go.Proofs.YtphebgkbkdjjoaaGreatDoor
end
section
namespace Go.Proofs.YtphebgkbkdjjoaaGreatDoor
open Go.Vc Go.Proofs Go.RowKit
set_option maxRecDepth 100000
open Go.RowKit Go.Extern.Stop Go.Stop Go.Extern

/-! errors.As, its target a *api.Errno. -/
def ErrVar (w : World) : Prop := w.cell? ⟨2, 0, none⟩ = some (.iface 179 (.agg #[.pointer (some ⟨13, 35, none⟩)]))

theorem valueOfPE (a : Addr) (w : World) : (ReflectliteValue.unpack (.iface 123 (.pointer (some a)))).run Tryz.prog w
    = .ok (.agg #[.pointer (some ⟨13, 123, none⟩), .pointer (some ⟨w.heap.size, 0, none⟩), .int .u64 150]) (w.alloc (.cells #[.pointer (some a)] 123)) := by kernel_rfl
theorem typePE (a : Addr) (w : World) : (ReflectliteValue.methodAny (ReflectliteValue.valueError "reflectlite.Value.Type" 0) (fun t _ _ _ => ReflectliteType.toType t) #[.agg #[.pointer (some ⟨13, 123, none⟩), .pointer (some a), .int .u64 150]]).run Tryz.prog w
    = .ok (.iface 179 (.agg #[.pointer (some ⟨13, 123, none⟩)])) w := by kernel_rfl
theorem mKind (h : Value) (w : World) : (Go.method (Tryz.prog.types.size + Made.depth) 179 (.agg #[h]) "Kind").run Tryz.prog w = .ok (180, h) w := by kernel_rfl
theorem mElem (h : Value) (w : World) : (Go.method (Tryz.prog.types.size + Made.depth) 179 (.agg #[h]) "Elem").run Tryz.prog w = .ok (193, .agg #[h]) w := by kernel_rfl
theorem mImplements (h : Value) (w : World) : (Go.method (Tryz.prog.types.size + Made.depth) 179 (.agg #[h]) "Implements").run Tryz.prog w = .ok (194, .agg #[h]) w := by kernel_rfl
theorem mAssignableTo (h : Value) (w : World) : (Go.method (Tryz.prog.types.size + Made.depth) 179 (.agg #[h]) "AssignableTo").run Tryz.prog w = .ok (191, .agg #[h]) w := by kernel_rfl
theorem mUnwrap (a : Addr) (w : World) : (Go.method (Tryz.prog.types.size + Made.depth) 105 (.pointer (some a)) "Unwrap").run Tryz.prog w = .ok (186, .pointer (some a)) w := by kernel_rfl
theorem kindPE (w : World) : ((ReflectliteType.abiMethod fun t => (fun a : Nat => Value.int IntKind.u8 (a : Int)) <$> Rtype.kind t) #[.pointer (some ⟨13, 123, none⟩)]).run Tryz.prog w = .ok (.int .u8 22) w := by kernel_rfl
theorem kindE (w : World) : ((ReflectliteType.abiMethod fun t => (fun a : Nat => Value.int IntKind.u8 (a : Int)) <$> Rtype.kind t) #[.pointer (some ⟨13, 29, none⟩)]).run Tryz.prog w = .ok (.int .u8 2) w := by kernel_rfl

theorem rlm (z : Sem Value) (f : TypeId → Addr → Nat → Nat → Sem Value) (a : Addr) (W : World) : (ReflectliteValue.method z f #[.agg #[.pointer (some ⟨13, 123, none⟩), .pointer (some a), .int .u64 150]]).run Tryz.prog W = (f 123 a 150 22).run Tryz.prog W := by kernel_rfl
theorem isNilPE (a p : Addr) (W : World) (ha : W.cell? a = some (.pointer (some p))) :
    (ReflectliteValue.method (ReflectliteValue.valueError "reflectlite.Value.IsNil" 0) ReflectliteValue.isNil #[.agg #[.pointer (some ⟨13, 123, none⟩), .pointer (some a), .int .u64 150]]).run Tryz.prog W = .ok (.bool false) W := by
  rw [rlm]
  simp [ReflectliteValue.isNil, loadVar, isAgg, underlying, Tryz.underlying123, ha, Result.andThen]
theorem elemPE (w : World) : (ReflectliteType.method ReflectliteType.elem #[.agg #[.pointer (some ⟨13, 123, none⟩)]]).run Tryz.prog w = .ok (.iface 179 (.agg #[.pointer (some ⟨13, 29, none⟩)])) w := by kernel_rfl
theorem implementsE (w : World) : (ReflectliteType.relation "Implements" ReflectliteType.implements_ #[.agg #[.pointer (some ⟨13, 29, none⟩)], .iface 179 (.agg #[.pointer (some ⟨13, 35, none⟩)])]).run Tryz.prog w = .ok (.bool true) w := by kernel_rfl
theorem typeOfE (v : Value) (w : World) : (ReflectliteType.typeOf #[.iface 29 v]).run Tryz.prog w = .ok (.iface 179 (.agg #[.pointer (some ⟨13, 29, none⟩)])) w := by kernel_rfl
theorem typeOfA (v : Value) (w : World) : (ReflectliteType.typeOf #[.iface 105 v]).run Tryz.prog w = .ok (.iface 179 (.agg #[.pointer (some ⟨13, 105, none⟩)])) w := by kernel_rfl
theorem assignE (w : World) : (ReflectliteType.relation "AssignableTo" ReflectliteType.assignableTo #[.agg #[.pointer (some ⟨13, 29, none⟩)], .iface 179 (.agg #[.pointer (some ⟨13, 29, none⟩)])]).run Tryz.prog w = .ok (.bool true) w := by kernel_rfl
theorem assignA (w : World) : (ReflectliteType.relation "AssignableTo" ReflectliteType.assignableTo #[.agg #[.pointer (some ⟨13, 105, none⟩)], .iface 179 (.agg #[.pointer (some ⟨13, 29, none⟩)])]).run Tryz.prog w = .ok (.bool false) w := by kernel_rfl
theorem valueOfE (n : Int) (w : World) : (ReflectliteValue.unpack (.iface 29 (.int .i64 n))).run Tryz.prog w
    = .ok (.agg #[.pointer (some ⟨13, 29, none⟩), .pointer (some ⟨w.heap.size, 0, none⟩), .int .u64 130]) (w.alloc (.cells #[.int .i64 n] 29)) := by kernel_rfl
theorem elemOfPE (w : World) : (Rtype.elem? 123).run Tryz.prog w = .ok (some 29) w := by kernel_rfl
theorem mkE (p : Addr) (w : World) : (ReflectliteValue.mk 29 p ReflectliteValue.flagAddr).run Tryz.prog w = .ok (.agg #[.pointer (some ⟨13, 29, none⟩), .pointer (some p), .int .u64 386]) w := by kernel_rfl
theorem elemVPE (a p : Addr) (W : World) (ha : W.cell? a = some (.pointer (some p))) :
    (ReflectliteValue.method (ReflectliteValue.valueError "reflectlite.Value.Elem" 0) ReflectliteValue.elem #[.agg #[.pointer (some ⟨13, 123, none⟩), .pointer (some a), .int .u64 150]]).run Tryz.prog W
      = .ok (.agg #[.pointer (some ⟨13, 29, none⟩), .pointer (some p), .int .u64 386]) W := by
  rw [rlm]
  simp [ReflectliteValue.elem, loadVar, isAgg, underlying, Tryz.underlying123, ha, Result.andThen, elemOfPE, mkE]
theorem rls (ta b : Addr) (W : World) : (ReflectliteValue.set #[.agg #[.pointer (some ⟨13, 29, none⟩), .pointer (some ta), .int .u64 386], .agg #[.pointer (some ⟨13, 29, none⟩), .pointer (some b), .int .u64 130]]).run Tryz.prog W = ((loadVar 29 b >>= fun x => storeVar 29 ta x >>= fun _ => pure (.tuple #[])) : Sem Value).run Tryz.prog W := by kernel_rfl
theorem setE (ta b : Addr) (n : Int) (old : Value) (W : World) (hb : W.cell? b = some (.int .i64 n)) (ht : W.cell? ta = some old) (hf : W.frozen? ta = false) :
    (ReflectliteValue.set #[.agg #[.pointer (some ⟨13, 29, none⟩), .pointer (some ta), .int .u64 386], .agg #[.pointer (some ⟨13, 29, none⟩), .pointer (some b), .int .u64 130]]).run Tryz.prog W
      = .ok (.tuple #[]) (W.setCell ta (.int .i64 n)) := by
  rw [rls]
  simp [loadVar, isAgg, underlying, Tryz.underlying29, hb, Result.andThen, storeVar, Value.cells, storeCells, Addr.add]
  rw [run_store Tryz.prog W ta _ _ (by rfl)]
  simp [ht, hf]

end Go.Proofs.YtphebgkbkdjjoaaGreatDoor
end
section
namespace Go.Proofs.YtphebgkbkdjjoaaGreatDoor
open Go.Vc Go.Proofs Go.RowKit Cae
set_option maxRecDepth 100000
set_option linter.unusedSimpArgs false
set_option linter.unusedVariables false
attribute [local irreducible] wpL callK valK unitK runK Fun Sl Vc.Own vc vcOps opK pureK
open Go.RowKit Go.Extern.Stop Go.Stop Go.Extern
set_option maxHeartbeats 4000000

/-- (*At).Unwrap. -/
theorem unwrap_c (b : Nat) (n : Int) (w : World) (hB : w.cell? ⟨b, 0, none⟩ = some (.int .i64 n)) : Fun Tryz.prog 186 [.pointer (some ⟨b, 0, none⟩)] w fun v w' => v = .iface 29 (.int .i64 n) ∧ w' = w := by
  refine fun_of_vc Tryz.func186 rfl (by kernel_rfl) [2] rfl ?_
  push_cast -dsimp (maxSteps := 4000000) [Tryz.ntmps186]
  push_cast -dsimp [hB]

/-- An error that errors.As finds an Errno in: the number. -/
inductive IsErr (w : World) : Value → Int → Prop
  | bare (n : Int) : IsErr w (.iface 29 (.int .i64 n)) n
  | at_ (b : Nat) (n : Int) : w.cell? ⟨b, 0, none⟩ = some (.int .i64 n) → IsErr w (.iface 105 (.pointer (some ⟨b, 0, none⟩))) n

theorem IsErr.mono {w w' : World} {v : Value} {n : Int} {X : Nat → Prop} (h : IsErr w v n) (hk : Kept X w w') (hX : ∀ a, v = .iface 105 (.pointer (some a)) → ¬ X a.block) : IsErr w' v n := by
  cases h with
  | bare n => exact .bare n
  | at_ b n hb => exact .at_ b n (hk.cell hb (hX _ rfl))

theorem as_c (v u : Value) (n : Int) (b c : Nat) (w : World) (hv : IsErr w v n) (hB : Blk w b 29 [u]) (hc : w.cell? ⟨c, 0, none⟩ = some (.pointer (some ⟨b, 0, none⟩))) :
    Fun Tryz.prog 95 [v, .iface 123 (.pointer (some ⟨b, 0, none⟩)), .agg #[.pointer (some ⟨13, 123, none⟩), .pointer (some ⟨c, 0, none⟩), .int .u64 150], .iface 179 (.agg #[.pointer (some ⟨13, 29, none⟩)])] w
      fun r w' => r = .bool true ∧ Blk w' b 29 [.int .i64 n] ∧ Kept (· = b) w w' := by
  refine fun_of_vc Tryz.func95 rfl (by kernel_rfl) [8] rfl ?_
  push_cast -dsimp (maxSteps := 4000000) [Tryz.ntmps95]
  refine boxK_of ?_
  intro w1 hw1
  push_cast -dsimp
  refine wpL_loop [0, 8, 9, 10, 11, 12, 14, 15, 16, 17, 18, 19, 20, 21, 22, 23, 24, 25, 26, 27, 28, 29, 30, 31, 32, 33, 34, 35, 36, 37, 38, 39, 40, 41, 42, 43, 44, 45, 46, 47, 48, 49, 50, 51, 52, 53, 54, 55, 56, 57, 58, 59, 60, 61] (fun z wx => IsErr wx (z 0) n ∧ Kept (fun _ => False) w1 wx) (fun z _ => match z 0 with | .iface _ (.pointer _) => 1 | _ => 0) ?_ ?_
  · exact ⟨hv.mono (Kept.new hw1 (X := fun _ => False)) (fun _ _ => id), Kept.refl _ _⟩
  · intro z wx hI
    obtain ⟨hv, hk⟩ := hI
    have hk0 : Kept (fun _ => False) w wx := (Kept.new hw1).trans hk (fun _ _ => id)
    have hB := hB.kept hk0 id
    have hc := hk0.cell hc id
    have c1 : cellsAt wx ⟨w.heap.size, 0, none⟩ 0 3 = some [.pointer (some ⟨13, 123, none⟩), .pointer (some ⟨c, 0, none⟩), .int .u64 150] :=
      cellsAt_of (b := w.heap.size) (o := 0) [.pointer (some ⟨13, 123, none⟩), .pointer (some ⟨c, 0, none⟩), .int .u64 150] 0 (fun j u hu => hk.cell (by simpa using hw1.cell hu) id)
    generalize hz : z 0 = v0 at hv
    cases hv with
    | bare n =>
      push_cast -dsimp [hz]
      refine callK_ext (e := ReflectliteType.typeOf) Tryz.func124 (by kernel_rfl) (by kernel_rfl) (by kernel_rfl) (by kernel_rfl) (typeOfE _ _) ?_
      push_cast -dsimp
      refine invK_of (mAssignableTo _ _) ?_
      refine callK_ext (e := ReflectliteType.relation "AssignableTo" ReflectliteType.assignableTo) Tryz.func191 (by kernel_rfl) (by kernel_rfl) (by kernel_rfl) (by kernel_rfl) (assignE _) ?_
      push_cast -dsimp [c1]
      refine callK_ext (e := ReflectliteValue.method (ReflectliteValue.valueError "reflectlite.Value.Elem" 0) ReflectliteValue.elem) Tryz.func125 (by kernel_rfl) (by kernel_rfl) (by kernel_rfl) (by kernel_rfl) (elemVPE _ _ _ hc) ?_
      push_cast -dsimp
      refine callK_ext (e := fun args => ReflectliteValue.unpack (args.getD 0 (.tuple #[]))) Tryz.func92 (by kernel_rfl) (by kernel_rfl) (by kernel_rfl) (by kernel_rfl) (valueOfE _ _) ?_
      push_cast -dsimp
      have hN : New wx (wx.alloc (.cells #[.int .i64 n] 29)) 29 [.int .i64 n] := ⟨rfl⟩
      generalize wx.alloc (.cells #[.int .i64 n] 29) = w2 at hN
      have hB2 := hB.kept (Kept.new hN (X := fun _ => False)) id
      have hf : w2.frozen? ⟨b, 0, none⟩ = false := by
        simp only [World.frozen?]
        rw [show w2.heap[b]? = _ from hB2]
        simp
      refine callK_ext (e := ReflectliteValue.set) Tryz.func126 (by kernel_rfl) (by kernel_rfl) (by kernel_rfl) (by kernel_rfl) (setE _ _ n u _ (hN.cell rfl) (hB2.cell rfl) hf) ?_
      push_cast -dsimp
      have hP := Put.of_setRow (cs := [.int .i64 n]) hB2
      rw [setCell_eq_setRow w2 b 0 _ _ (0, 0) _ hB2]
      exact ⟨hP.blk, (hk0.trans (Kept.new hN (X := fun _ => False)) (fun _ _ => id)).weaken (fun _ _ h => h.elim) |>.trans hP.kept (fun _ _ => id)⟩
    | at_ a n ha =>
      push_cast -dsimp [hz]
      refine callK_ext (e := ReflectliteType.typeOf) Tryz.func124 (by kernel_rfl) (by kernel_rfl) (by kernel_rfl) (by kernel_rfl) (typeOfA _ _) ?_
      push_cast -dsimp
      refine invK_of (mAssignableTo _ _) ?_
      refine callK_ext (e := ReflectliteType.relation "AssignableTo" ReflectliteType.assignableTo) Tryz.func191 (by kernel_rfl) (by kernel_rfl) (by kernel_rfl) (by kernel_rfl) (assignA _) ?_
      push_cast -dsimp [c1]
      refine assert_lacks (z := .nilIface) Tryz.underlying184 (by kernel_rfl) (by kernel_rfl) ?_
      push_cast -dsimp
      refine assert_has Tryz.underlying109 (by kernel_rfl) ?_
      push_cast -dsimp
      refine invK_of (mUnwrap _ _) (callK_of (unwrap_c a n wx ha) ?_)
      rintro _ _ ⟨rfl, rfl⟩
      push_cast -dsimp
      exact ⟨.bare n, hk⟩
end Go.Proofs.YtphebgkbkdjjoaaGreatDoor
end
section
namespace Go.Proofs.YtphebgkbkdjjoaaGreatDoor
open Go.Vc Go.Proofs Go.RowKit Cae
set_option maxRecDepth 100000
set_option linter.unusedSimpArgs false
set_option linter.unusedVariables false
attribute [local irreducible] wpL callK valK unitK runK Fun Sl Vc.Own vc vcOps opK pureK
open Go.RowKit Go.Extern.Stop Go.Stop Go.Extern
set_option maxHeartbeats 4000000

theorem asE_c (v u : Value) (n : Int) (b : Nat) (w : World) (hE : ErrVar w) (hv : IsErr w v n) (hB : Blk w b 29 [u]) :
    Fun Tryz.prog 73 [v, .iface 123 (.pointer (some ⟨b, 0, none⟩))] w
      fun r w' => r = .bool true ∧ Blk w' b 29 [.int .i64 n] ∧ Kept (· = b) w w' := by
  obtain ⟨ty, vv, hvv⟩ : ∃ ty vv, v = .iface ty vv := by cases hv <;> exact ⟨_, _, rfl⟩
  refine fun_of_vc Tryz.func73 rfl (by kernel_rfl) [4] rfl ?_
  push_cast -dsimp (maxSteps := 4000000) [Tryz.ntmps73]
  subst hvv
  push_cast -dsimp
  refine callK_ext (e := fun args => ReflectliteValue.unpack (args.getD 0 (.tuple #[]))) Tryz.func92 (by kernel_rfl) (by kernel_rfl) (by kernel_rfl) (by kernel_rfl) (valueOfPE _ _) ?_
  have hN : New w (w.alloc (.cells #[.pointer (some ⟨b, 0, none⟩)] 123)) 123 [.pointer (some ⟨b, 0, none⟩)] := ⟨rfl⟩
  generalize w.alloc (.cells #[.pointer (some ⟨b, 0, none⟩)] 123) = w1 at hN
  have k1 : Kept (fun _ => False) w w1 := Kept.new hN
  push_cast -dsimp
  refine allocK (z := [.pointer none, .pointer none, .int .u64 0]) (by kernel_rfl) ?_
  intro w2 hw2
  have k2 := k1.trans (Kept.new (X := fun _ => False) hw2) (fun _ _ => id)
  push_cast -dsimp
  refine storeAgg (n := 3) (by kernel_rfl) hw2.blk rfl (by simp) (by simp [Value.oneCell']) ?_
  intro w3 hw3
  have k3 : Kept (fun k => w.heap.size ≤ k) w w3 := (k2.weaken (fun _ _ h => h.elim)).trans hw3.kept (fun i _ h => by have := hN.size; show w.heap.size ≤ i; omega)
  have hB3 := hB.kept k3 (by have := hB.lt; omega)
  have c3 : cellsAt w3 ⟨w1.heap.size, 0, none⟩ 0 3 = some [.pointer (some ⟨13, 123, none⟩), .pointer (some ⟨w.heap.size, 0, none⟩), .int .u64 150] :=
    cellsAt_of (b := w1.heap.size) (o := 0) [.pointer (some ⟨13, 123, none⟩), .pointer (some ⟨w.heap.size, 0, none⟩), .int .u64 150] 0 (fun j u hu => by simpa using hw3.blk.cell (by simpa using hu))
  push_cast -dsimp [c3]
  refine callK_ext (e := ReflectliteValue.methodAny (ReflectliteValue.valueError "reflectlite.Value.Type" 0) (fun t _ _ _ => ReflectliteType.toType t)) Tryz.func93 (by kernel_rfl) (by kernel_rfl) (by kernel_rfl) (by kernel_rfl) (typePE _ _) ?_
  have k3' : Kept (fun _ => False) w w3 := ⟨k3.os, k3.tape, k3.output, k3.size, fun i hi _ => k3.block i hi (by omega)⟩
  have hE3 : ErrVar w3 := k3'.cell hE id
  have hs3 : w3.cell? ⟨w.heap.size, 0, none⟩ = some (.pointer (some ⟨b, 0, none⟩)) := hw3.kept.cell (World.cell?_of_block (w := w1) (hw2.below.block w.heap.size (by have := hN.size; omega)) |>.trans (hN.cell rfl)) (by have := hN.size; show ¬ w.heap.size = w1.heap.size; omega)
  unfold ErrVar at hE3
  push_cast -dsimp
  refine invK_of (mKind _ _) ?_
  refine callK_ext (e := ReflectliteType.abiMethod fun t => do pure (.int .u8 (← Rtype.kind t))) Tryz.func180 (by kernel_rfl) (by kernel_rfl) (by kernel_rfl) (by kernel_rfl) (kindPE _) ?_
  push_cast -dsimp [c3]
  refine callK_ext (e := ReflectliteValue.method (ReflectliteValue.valueError "reflectlite.Value.IsNil" 0) ReflectliteValue.isNil) Tryz.func94 (by kernel_rfl) (by kernel_rfl) (by kernel_rfl) (by kernel_rfl) (isNilPE _ _ _ hs3) ?_
  push_cast -dsimp
  refine invK_of (mElem _ _) ?_
  refine callK_ext (e := ReflectliteType.method ReflectliteType.elem) Tryz.func193 (by kernel_rfl) (by kernel_rfl) (by kernel_rfl) (by kernel_rfl) (elemPE _) ?_
  push_cast -dsimp
  refine invK_of (mKind _ _) ?_
  refine callK_ext (e := ReflectliteType.abiMethod fun t => do pure (.int .u8 (← Rtype.kind t))) Tryz.func180 (by kernel_rfl) (by kernel_rfl) (by kernel_rfl) (by kernel_rfl) (kindE _) ?_
  push_cast -dsimp [hE3]
  refine invK_of (mImplements _ _) ?_
  refine callK_ext (e := ReflectliteType.relation "Implements" ReflectliteType.implements_) Tryz.func194 (by kernel_rfl) (by kernel_rfl) (by kernel_rfl) (by kernel_rfl) (implementsE _) ?_
  push_cast -dsimp [c3]
  refine callK_of (as_c _ u n b w.heap.size w3 (hv.mono k3' (fun _ _ => id)) hB3 hs3) ?_
  rintro _ w4 ⟨rfl, hB4, hk4⟩
  push_cast -dsimp
  exact ⟨hB4, (k3'.weaken (fun _ _ h => h.elim)).trans hk4 (fun _ _ => id)⟩

/-- api.Tell. -/
theorem tell0_c (w : World) : Fun Tryz.prog 53 [.nilIface] w fun r w' => r = .int .i64 0 ∧ w' = w := by
  refine fun_of_vc Tryz.func53 rfl (by kernel_rfl) [2] rfl ?_
  push_cast -dsimp (maxSteps := 4000000) [Tryz.ntmps53]

theorem tell_c (v : Value) (n : Int) (w : World) (hE : ErrVar w) (hv : IsErr w v n) : Fun Tryz.prog 53 [v] w fun r w' => r = .int .i64 n ∧ Below w.heap.size w w' := by
  obtain ⟨ty, vv, hvv⟩ : ∃ ty vv, v = .iface ty vv := by cases hv <;> exact ⟨_, _, rfl⟩
  refine fun_of_vc Tryz.func53 rfl (by kernel_rfl) [2] rfl ?_
  push_cast -dsimp (maxSteps := 4000000) [Tryz.ntmps53]
  subst hvv
  push_cast -dsimp
  refine allocK (z := [.int .i64 0]) (by kernel_rfl) ?_
  intro w1 hw1
  have k1 : Kept (fun _ => False) w w1 := Kept.new hw1
  push_cast -dsimp
  refine callK_of (asE_c _ _ n _ w1 (k1.cell hE id) (hv.mono k1 (fun _ _ => id)) hw1.blk) ?_
  rintro _ w2 ⟨rfl, hB2, hk2⟩
  have c2 := hB2.cell (o := 0) rfl
  push_cast -dsimp [c2]
  exact hw1.below.trans (hk2.below (Nat.le_of_lt (by have := hw1.size; omega)) (fun i h => by subst h; exact Nat.le_refl _))

end Go.Proofs.YtphebgkbkdjjoaaGreatDoor
end
section
namespace Go.Proofs.YtphebgkbkdjjoaaGreatDoor
open Go.Vc Go.Proofs Go.RowKit Cae
set_option maxRecDepth 100000
set_option linter.unusedSimpArgs false
set_option linter.unusedVariables false
attribute [local irreducible] wpL callK valK unitK runK Fun Sl Vc.Own vc vcOps opK pureK
open Go.RowKit Go.Extern.Stop Go.Stop Go.Extern
set_option maxHeartbeats 4000000

/-- What plain.Place says of an error. -/
inductive Placed (w : World) : Value → Int → Int → Prop
  | bare (n : Int) : Placed w (.iface 29 (.int .i64 n)) n (-1)
  | at_ (b : Nat) (n p : Int) : w.cell? ⟨b, 0, none⟩ = some (.int .i64 n) → w.cell? ⟨b, 1, none⟩ = some (.int .i64 p) → Placed w (.iface 105 (.pointer (some ⟨b, 0, none⟩))) n p

theorem Placed.isErr {w : World} {v : Value} {n p : Int} (h : Placed w v n p) : IsErr w v n := by
  cases h with
  | bare => exact .bare _
  | at_ b _ _ h1 _ => exact .at_ b _ h1
theorem Placed.below {w w' : World} {v : Value} {n p : Int} (h : Placed w v n p) (hk : Below w.heap.size w w') : Placed w' v n p := by
  cases h with
  | bare n => exact .bare n
  | at_ b n p h1 h2 => exact .at_ b n p ((hk.cell (World.block_lt_of_cell? w _ h1)).trans h1) ((hk.cell (World.block_lt_of_cell? w _ h2)).trans h2)

theorem place0_c (w : World) : Fun Tryz.prog 27 [.nilIface] w fun r w' => r = .tuple #[.int .i64 0, .int .i64 (-1)] ∧ w' = w := by
  refine fun_of_vc Tryz.func27 rfl (by kernel_rfl) [2, 3] rfl ?_
  push_cast -dsimp (maxSteps := 4000000) [Tryz.ntmps27]
  refine callK_of (tell0_c w) ?_
  rintro _ w1 ⟨rfl, hw1⟩
  push_cast -dsimp
  refine wpL_loop [0, 2, 3, 5, 6, 7, 8, 11, 12, 13, 14, 15, 16, 17, 18, 19, 20, 21, 22, 23, 24, 25, 26, 27, 28, 29, 30, 31, 32, 33, 34, 35, 36] (fun z wx => z 0 = .nilIface ∧ wx = w1) (fun _ _ => 0) ⟨rfl, rfl⟩ ?_
  intro z wx hI
  obtain ⟨h0, hw⟩ := hI
  push_cast -dsimp [h0]
  exact hw.trans hw1

theorem place_c (v : Value) (n p : Int) (w : World) (hE : ErrVar w) (hv : Placed w v n p) : Fun Tryz.prog 27 [v] w fun r w' => r = .tuple #[.int .i64 n, .int .i64 p] ∧ Below w.heap.size w w' := by
  refine fun_of_vc Tryz.func27 rfl (by kernel_rfl) [2, 3] rfl ?_
  push_cast -dsimp (maxSteps := 4000000) [Tryz.ntmps27]
  refine callK_of (tell_c v n w hE hv.isErr) ?_
  rintro _ w1 ⟨rfl, hb1⟩
  push_cast -dsimp
  refine wpL_loop [0, 2, 3, 5, 6, 7, 8, 11, 12, 13, 14, 15, 16, 17, 18, 19, 20, 21, 22, 23, 24, 25, 26, 27, 28, 29, 30, 31, 32, 33, 34, 35, 36] (fun z wx => z 0 = v ∧ wx = w1) (fun _ _ => 0) ⟨rfl, rfl⟩ ?_
  rintro z wx ⟨h0, rfl⟩
  have hv1 := hv.below hb1
  cases hv1 with
  | bare n =>
    push_cast -dsimp [h0]
    refine valK_of (v := .tuple #[.pointer none, .bool false]) (w' := wx) (by kernel_rfl) ?_
    push_cast -dsimp
    refine assert_lacks (z := .nilIface) Tryz.underlying109 (by kernel_rfl) (by kernel_rfl) ?_
    push_cast -dsimp
    exact hb1
  | at_ b n p h1 h2 =>
    push_cast -dsimp [h0]
    refine valK_of (v := .tuple #[.pointer (some ⟨b, 0, none⟩), .bool true]) (w' := wx) (by kernel_rfl) ?_
    push_cast -dsimp
    refine wpL_draw (fun w' => w' = wx.drew) mixed (by kernel_rfl) rfl ?_
    have d2 : wx.drew.cell? ⟨b, 1, none⟩ = some (.int .i64 p) := h2
    push_cast -dsimp [d2]
    exact ⟨fun w'' hw => by subst hw; rw [d2]; exact rfl, hb1.drew⟩
end Go.Proofs.YtphebgkbkdjjoaaGreatDoor
end
section
/- What the row lays, as the walk asks it; and its arguments. -/
namespace Go.Proofs.YtphebgkbkdjjoaaGreatDoor
open Go.Deep Go.ChangeShapes Go.WideShapes Go.ChangeAt Go.RowKit Go.Vc Cae
set_option maxRecDepth 100000
set_option linter.unusedSimpArgs false
set_option linter.unusedVariables false
theorem own : ownKnob Tryz.prog.godebug = none := by kernel_rfl
theorem laidOut : laidOutB Tryz.prog = true := by kernel_rfl

def dbTab : List Int := [0, 1, 56, 2, 57, 49, 28, 3, 61, 58, 42, 50, 38, 29, 17, 4, 62, 47, 59, 36, 45, 43, 51, 22, 53, 39, 33, 30, 24, 18, 12, 5, 63, 55, 48, 27, 60, 41, 37, 16, 46, 35, 44, 21, 52, 32, 23, 11, 54, 26, 40, 15, 34, 20, 31, 10, 25, 14, 19, 9, 13, 8, 7, 6]
/-- The table of trailing zeros, as the row's condition gives it. -/
theorem db_of {W : World} {l : List (String × DataW Unit)} (hl : (l.filter fun x => x.1 == "math/bits.deBruijn64tab") = [("math/bits.deBruijn64tab", Rows.laid_math_bits_deBruijn64tab)]) (h : laidMetH Tryz.prog l W) : Db W := by
  have h := h.filter (fun x => x.1 == "math/bits.deBruijn64tab")
  rw [hl, MakeChecks.laidMetH_plain _ _ _ (by kernel_rfl)] at h
  have hg : Tryz.prog.globalNamed "math/bits.deBruijn64tab" = some 9 := by kernel_rfl
  have ht : Lib.TabIs Tryz.prog W "math/bits.deBruijn64tab" .u8 dbTab := Lib.tabIs_of_head (n := 64) (t := 232) (e := 5) hg (by kernel_rfl) (by kernel_rfl) (by kernel_rfl) (by kernel_rfl) (by kernel_rfl) h
  exact ht.cell hg 15 (by decide)

theorem errs_of {W : World} {l : List (String × DataW Unit)} (h1 : (l.filter fun x => x.1 == "strconv.ErrSyntax") = [("strconv.ErrSyntax", Rows.laid_strconv_ErrSyntax)]) (h2 : (l.filter fun x => x.1 == "strconv.ErrRange") = [("strconv.ErrRange", Rows.laid_strconv_ErrRange)]) (h : laidMetH Tryz.prog l W) : SErrs W := by
  constructor
  · have h := h.filter (fun x => x.1 == "strconv.ErrSyntax")
    rw [h1, MakeChecks.laidMetH_plain _ _ _ (by kernel_rfl)] at h
    obtain ⟨ps, ⟨g, t, cs, fuel, p, q, hg, ht, hv, hd, _, _⟩, _, _⟩ := h
    obtain rfl := Option.some.inj ((show Tryz.prog.globalNamed "strconv.ErrSyntax" = some 6 by kernel_rfl).symm.trans hg)
    obtain rfl := Option.some.inj ((show (Tryz.prog.globals[6]?).map (·.type) = some 35 by kernel_rfl).symm.trans ht)
    obtain ⟨_, u, v, hcs, _, _⟩ := iface_of_trod Tryz.underlying35 hd
    obtain ⟨lc⟩ := cs
    have hcs' : lc = [.iface u v] := hcs
    subst hcs'
    exact ⟨u, v, by simpa using World.var?_cell hg hv 0⟩
  · have h := h.filter (fun x => x.1 == "strconv.ErrRange")
    rw [h2, MakeChecks.laidMetH_plain _ _ _ (by kernel_rfl)] at h
    obtain ⟨ps, ⟨g, t, cs, fuel, p, q, hg, ht, hv, hd, _, _⟩, _, _⟩ := h
    obtain rfl := Option.some.inj ((show Tryz.prog.globalNamed "strconv.ErrRange" = some 7 by kernel_rfl).symm.trans hg)
    obtain rfl := Option.some.inj ((show (Tryz.prog.globals[7]?).map (·.type) = some 35 by kernel_rfl).symm.trans ht)
    obtain ⟨_, u, v, hcs, _, _⟩ := iface_of_trod Tryz.underlying35 hd
    obtain ⟨lc⟩ := cs
    have hcs' : lc = [.iface u v] := hcs
    subst hcs'
    exact ⟨u, v, by simpa using World.var?_cell hg hv 0⟩

def laidE : List (String × DataW Unit) := [("errors.errorType", Rows.laid_errors_errorType)]

theorem errVar_of {W : World} {l : List (String × DataW Unit)} (hl : (l.filter fun x => x.2.handleName?.isSome) = laidE) (h : laidMetH Tryz.prog l W) : ErrVar W := by
  have h' := (laidMetH_iff.1 h).2
  obtain ⟨name, u, ty, e1, e2, e3, e4, e5⟩ := h' ("errors.errorType", Rows.laid_errors_errorType) (by rw [hl]; exact List.mem_singleton.2 rfl)
  have en : name = [101, 114, 114, 111, 114] := (Option.some.inj e1).symm
  subst en
  obtain rfl := Option.some.inj ((show (Tryz.prog.cutTypes.find? (·.1 == "internal/reflectlite.rtype")).map (·.2) = some 179 by kernel_rfl).symm.trans e2)
  have hm : ty ∈ (List.range Tryz.prog.types.size).filter fun t => Tryz.prog.rowNamed t [101, 114, 114, 111, 114] := List.mem_filter.2 ⟨List.mem_range.2 e3, e4⟩
  rw [show ((List.range Tryz.prog.types.size).filter fun t => Tryz.prog.rowNamed t [101, 114, 114, 111, 114]) = [35] by kernel_rfl] at hm
  obtain rfl := List.mem_singleton.1 hm
  rw [show typeHandle Tryz.prog 35 = .pointer (some ⟨13, 35, none⟩) by kernel_rfl] at e5
  have := World.var?_cell (show Tryz.prog.globalNamed "errors.errorType" = some 2 by kernel_rfl) e5 0
  unfold ErrVar
  simpa using this


/-- The wrap, the world's shape kept, and a premise of the row's own. -/
theorem handed_and {H : Type} {enc : TypeId × Value → H} {a : Assume} {C : Checked} {os : Os} {f : FuncId} {fn : Func} {s : ChangeSpec} {conds : List PathCond} {apart fresh handsOn again : Bool} {X : World → Array Value → Prop}
    (hX : ∀ (w w' : World) (args : Array Value), w.heap = w'.heap → X w args → X w' args)
    (own : ownKnob C.prog.godebug = none) (started : os.Started) (noInit : C.prog.inits.idxOf? f = none) (hfn : C.prog.funcs[f]? = some fn)
    (witness : ∃ (w : World) (tape : Tape) (i : Input), w.os = os ∧ (w.forCall tape i).Shaped C.prog ∧ i.vars = [] ∧ Input.okWide C.prog (w.forCall tape i) .any w.heap.size f i ∧
      ((s.pre enc C.prog fn conds apart (w.forCall tape i).memory i.args ∧ X (w.forCall tape i).memory i.args) ∧ sizedMet enc C.prog fn (OpenSpec.ofChange s) apart (w.forCall tape i).memory i.args) ∧ a.holds C.prog (lone (Frame.enter C.prog f i.args .normal) [] (w.forCall tape i)))
    (contract : ∀ (W : World) (base : Nat) (args : Array Value) (ds gs : List (DataW H)) (before : List MemPlace),
      (∀ (j : Nat) t v, fn.params[j]? = some t → args[j]? = some v → Value.okWide C.prog W .any base t v) →
      DataW.Whole enc C.prog fn.params.toList s.vars apart W args.toList ds gs before →
      (DataW.weightsEach C.prog (fn.params.toList ++ s.plain.varTypes C.prog) (ds ++ gs)).all (· ≤ reachBytes) = true → X W args → W.ShapedOpen C.prog →
      Calls C.prog f args W fun e W' => ∃ v, e = .returned v ∧ s.post enc C.prog fn apart fresh handsOn again W args v W') :
    ReturnsInHanded a C os f .any (fun w args => (s.pre enc C.prog fn conds apart w args ∧ X w args) ∧ sizedMet enc C.prog fn (OpenSpec.ofChange s) apart w args) (s.post enc C.prog fn apart fresh handsOn again) := by
  refine returnsInHanded_of_calls own started noInit witness ?_
  intro w tape i _ hsh _ hok hpre hholds
  obtain ⟨_, _, _, fn', hfn', _, _, _, _, hval⟩ := hok
  have e : fn' = fn := Option.some.inj (hfn'.symm.trans hfn)
  subst e
  obtain ⟨⟨⟨ds, gs, before, hw, hc⟩, hx⟩, hz⟩ := hpre
  have hw' := DataW.Whole.of_heap (w' := w.forCall tape i) (by rfl) hw
  refine (contract (w.forCall tape i) w.heap.size i.args ds gs before hval hw' (hz.weights hw) (hX _ _ _ (by rfl) hx) hsh).mono fun e W' ⟨v, he, hp⟩ => ?_
  subst he
  exact ChangeSpec.post_blind hp
section
variable {H : Type} {enc : TypeId × Value → H} {W : World} {base : Nat} {sp : Nat → Bool} {held : Bool}
end
/-- What a world lays, read once. -/
noncomputable def leavesW (P : Program) (w : World) (fuel M : Nat) (l : List String) : Option (List (String × DataW Unit)) :=
  (DataW.laidRun P w fuel l).bind fun x => if nodupBits M x.2 0 && laidRowsB P w x.2 then some x.1 else none
theorem laidMet_one {P : Program} {w : World} {l : List (String × DataW Unit)} (fuel M : Nat) (h : leavesW P w fuel M (l.map (·.1)) = some l) : laidMet P l w := by
  unfold leavesW at h
  rw [Option.bind_eq_some_iff] at h
  obtain ⟨x, hx, h⟩ := h
  split at h
  · rename_i hb
    rw [Bool.and_eq_true] at hb
    cases h
    exact laidMet_of_run (ps := x.2) fuel hx (decide_eq_true (nodupBits_sound hb.1).1) hb.2
  · cases h
theorem sp_of {W : World} {l : List (String × DataW Unit)} (hl : (l.filter fun x => x.1 == "strings.asciiSpace") = [("strings.asciiSpace", Rows.laid_strings_asciiSpace)]) (h : laidMetH Tryz.prog l W) : Lib.TabIs Tryz.prog W "strings.asciiSpace" .u8 Lib.asciiSpaceTab := by
  have h := h.filter (fun x => x.1 == "strings.asciiSpace")
  rw [hl, MakeChecks.laidMetH_plain _ _ _ (by kernel_rfl)] at h
  have hg : Tryz.prog.globalNamed "strings.asciiSpace" = some 3 := by kernel_rfl
  exact Lib.tabIs_of_head (n := 256) (t := 158) (e := 5) hg (by kernel_rfl) (by kernel_rfl) (by kernel_rfl) (by kernel_rfl) (by kernel_rfl) h
def spaceR_ren : Go.Shelf.Ren := ⟨fun | 199 => 104 | 261 => 133 | 311 => 151 | 312 => 152 | n => n, fun | 21 => 21 | 4 => 4 | 51 => 155 | 141 => 200 | 0 => 0 | 196 => 216 | 193 => 213 | 3 => 3 | 198 => 219 | 49 => 217 | 194 => 214 | 201 => 222 | 226 => 233 | 46 => 22 | 227 => 234 | n => n, fun | 6 => 5 | n => n⟩
theorem spaceR : Go.Proofs.Lays.n199 Tryz.prog spaceR_ren := {
  mixed := by kernel_rfl
  f199 := Tryz.func104.trans (congrArg some (by kernel_rfl))
  f261 := Tryz.func133.trans (congrArg some (by kernel_rfl))
  f311 := Tryz.func151.trans (congrArg some (by kernel_rfl))
  f312 := Tryz.func152.trans (congrArg some (by kernel_rfl))
  t0 := Tryz.underlying0
  a0 := Tryz.isAgg0
  z0 := Tryz.sizeOf0
  v0 := Tryz.zeroValue0
  t3 := Tryz.underlying3
  a3 := Tryz.isAgg3
  z3 := Tryz.sizeOf3
  v3 := Tryz.zeroValue3
  t4 := Tryz.underlying4
  a4 := Tryz.isAgg4
  z4 := Tryz.sizeOf4
  v4 := Tryz.zeroValue4
  t21 := Tryz.underlying21
  a21 := Tryz.isAgg21
  z21 := Tryz.sizeOf21
  v21 := Tryz.zeroValue21
  t46 := Tryz.underlying22
  a46 := Tryz.isAgg22
  z46 := Tryz.sizeOf22
  v46 := Tryz.zeroValue22
  t49 := Tryz.underlying217
  a49 := Tryz.isAgg217
  z49 := Tryz.sizeOf217
  v49 := Tryz.zeroValue217
  t51 := Tryz.underlying155
  a51 := Tryz.isAgg155
  z51 := Tryz.sizeOf155
  v51 := Tryz.zeroValue155
  t141 := Tryz.underlying200
  a141 := Tryz.isAgg200
  z141 := Tryz.sizeOf200
  v141 := Tryz.zeroValue200
  t193 := Tryz.underlying213
  a193 := Tryz.isAgg213
  z193 := Tryz.sizeOf213
  v193 := Tryz.zeroValue213
  t194 := Tryz.underlying214
  a194 := Tryz.isAgg214
  z194 := Tryz.sizeOf214
  v194 := Tryz.zeroValue214
  t196 := Tryz.underlying216
  a196 := Tryz.isAgg216
  z196 := Tryz.sizeOf216
  v196 := Tryz.zeroValue216
  t198 := Tryz.underlying219
  a198 := Tryz.isAgg219
  z198 := Tryz.sizeOf219
  v198 := Tryz.zeroValue219
  t201 := Tryz.underlying222
  a201 := Tryz.isAgg222
  z201 := Tryz.sizeOf222
  v201 := Tryz.zeroValue222
  t226 := Tryz.underlying233
  a226 := Tryz.isAgg233
  z226 := Tryz.sizeOf233
  v226 := Tryz.zeroValue233
  t227 := Tryz.underlying234
  a227 := Tryz.isAgg234
  z227 := Tryz.sizeOf234
  v227 := Tryz.zeroValue234
  g6 := by kernel_rfl }

theorem wt_of {W : World} {l : List (String × DataW Unit)} (hl : (l.filter fun x => x.1 == "unicode.White_Space") = [("unicode.White_Space", Rows.laid_unicode_White_Space)]) (h : laidMetH Tryz.prog l W) : Lib.WhiteTab 5 W := by
  have h := h.filter (fun x => x.1 == "unicode.White_Space")
  rw [hl, MakeChecks.laidMetH_plain _ _ _ (by kernel_rfl)] at h
  have e : (Rows.laid_unicode_White_Space : DataW Unit) = Lib.whiteData := by kernel_rfl
  have hr := Lib.laidMet.reads h (n := "unicode.White_Space") (d := Rows.laid_unicode_White_Space) (List.mem_singleton.2 rfl)
  rw [e] at hr
  exact whiteTab_of_reads spaceR ⟨by kernel_rfl, by kernel_rfl, by kernel_rfl, by kernel_rfl, by kernel_rfl, by kernel_rfl, by kernel_rfl, by kernel_rfl⟩ hr
theorem tv_of {W : World} {l : List (String × DataW Unit)} (h1 : (l.filter fun x => x.1 == "strings.asciiSpace") = [("strings.asciiSpace", Rows.laid_strings_asciiSpace)]) (h2 : (l.filter fun x => x.1 == "unicode.White_Space") = [("unicode.White_Space", Rows.laid_unicode_White_Space)]) (h : laidMetH Tryz.prog l W) (hs : W.ShapedOpen Tryz.prog) : Tv W :=
  ⟨cell_of_shapedOpen_int (g := 1) (zero := #[.int .i64 0]) hs (by decide +kernel) (by kernel_rfl) (by kernel_rfl) (by kernel_rfl) (by kernel_rfl) Tryz.underlying3, sp_of h1 h, wt_of h2 h⟩
theorem fine_of {W : World} {l : List (String × DataW Unit)} (hl : (l.filter fun x => x.1 == "caesura/caesuraref.Fine") = [("caesura/caesuraref.Fine", Rows.laid_caesura_caesuraref_Fine)]) (h : laidMetH Tryz.prog l W) : W.cell? ⟨0, 0, none⟩ = some (.int .i64 0) ∧ W.cell? ⟨0, 1, none⟩ = some (.int .i64 (-1)) := by
  have h := h.filter (fun x => x.1 == "caesura/caesuraref.Fine")
  rw [hl, MakeChecks.laidMetH_plain _ _ _ (by kernel_rfl)] at h
  obtain ⟨ps, ⟨g, t, cs, fuel, p, q, hg, ht, hv, hd, _, _⟩, _, _⟩ := h
  obtain rfl := Option.some.inj ((show Tryz.prog.globalNamed "caesura/caesuraref.Fine" = some 0 by kernel_rfl).symm.trans hg)
  obtain rfl := Option.some.inj ((show (Tryz.prog.globals[0]?).map (·.type) = some 31 by kernel_rfl).symm.trans ht)
  obtain ⟨xs, m, _, ex, hlen, hl, hel⟩ := DataW.trod_struct Tryz.underlying31 hd
  rw [show Tryz.prog.cellsOf 31 = 2 by kernel_rfl] at hlen
  have key : cs = #[.int .i64 0, .int .i64 (-1)] := by
    obtain ⟨l⟩ := cs
    match l, hlen with
    | [a, b], _ =>
      match xs, hl with
      | [x0, x1], _ =>
        have e3 := (DataW.agg.inj (Prod.mk.inj ex).1)
        simp only [List.map_cons, List.map_nil, List.cons.injEq, and_true] at e3
        have k0 := hel 0 _ rfl; have k1 := hel 1 _ rfl
        obtain ⟨z0, a0, b0, _⟩ := DataW.trod_int Tryz.underlying29 k0
        obtain ⟨z1, a1, b1, _⟩ := DataW.trod_int Tryz.underlying3 k1
        have c0 : Tryz.prog.cellsOf 29 = 1 := by kernel_rfl
        have c1 : Tryz.prog.cellsOf 3 = 1 := by kernel_rfl
        have a0' : List.take (Tryz.prog.cellsOf 29) [a, b] = [.int .i64 z0] := a0
        have a1' : List.take (Tryz.prog.cellsOf 3) [b] = [.int .i64 z1] := a1
        rw [c0] at a0'
        rw [c1] at a1'
        have n0 : a = .int .i64 z0 := by simpa using a0'
        have n1 : b = .int .i64 z1 := by simpa using a1'
        subst b0 b1
        have e4 : (0 : Int) = z0 ∧ (-1 : Int) = z1 := by simpa using e3
        rw [n0, n1, ← e4.1, ← e4.2]
  subst key
  exact ⟨by simpa using World.var?_cell hg hv 0, by simpa using World.var?_cell hg hv 1⟩
theorem ng_of {W : World} (h : W.ShapedOpen Tryz.prog) : 13 ≤ W.heap.size := by
  obtain ⟨o, o0, h1, _⟩ := h.2 13 (of_decide_eq_true (by kernel_rfl)) (of_decide_eq_true (by kernel_rfl))
  have := (Array.getElem?_eq_some_iff.1 h1).1
  omega
theorem gr_of {W : World} {l : List (String × DataW Unit)} (h0 : (l.filter fun x => x.1 == "math/bits.deBruijn64tab") = [("math/bits.deBruijn64tab", Rows.laid_math_bits_deBruijn64tab)]) (h1 : (l.filter fun x => x.1 == "strconv.ErrSyntax") = [("strconv.ErrSyntax", Rows.laid_strconv_ErrSyntax)]) (h2 : (l.filter fun x => x.1 == "strconv.ErrRange") = [("strconv.ErrRange", Rows.laid_strconv_ErrRange)])
    (h3 : (l.filter fun x => x.1 == "strings.asciiSpace") = [("strings.asciiSpace", Rows.laid_strings_asciiSpace)]) (h4 : (l.filter fun x => x.1 == "unicode.White_Space") = [("unicode.White_Space", Rows.laid_unicode_White_Space)]) (h5 : (l.filter fun x => x.1 == "caesura/caesuraref.Fine") = [("caesura/caesuraref.Fine", Rows.laid_caesura_caesuraref_Fine)]) (h : laidMetH Tryz.prog l W) (hs : W.ShapedOpen Tryz.prog) : Gr W :=
  ⟨db_of h0 h, errs_of h1 h2 h, tv_of h3 h4 h hs, (fine_of h5 h).1, (fine_of h5 h).2⟩
end Go.Proofs.YtphebgkbkdjjoaaGreatDoor
end
section
namespace Cae
theorem runP_cons (f : UInt8 → Bool) (c : UInt8) (r : List UInt8) : runP f (c :: r) = if f c then runP f r + 1 else 0 := by
  unfold runP
  rw [List.takeWhile_cons]
  split <;> rfl
theorem runP_at : ∀ (f : UInt8 → Bool) (s : List UInt8) (n : Nat), n ≤ s.length → (∀ i, i < n → f (s.getD i 0) = true) → (n = s.length ∨ f (s.getD n 0) = false) → runP f s = n
  | f, [], n, h, _, _ => by
    have : n = 0 := by simpa using h
    subst this; rfl
  | f, c :: r, 0, _, _, h => by
    rw [runP_cons]
    rcases h with h | h
    · simp at h
    · have : f c = false := h
      rw [this]; rfl
  | f, c :: r, n + 1, h, ha, hb => by
    rw [runP_cons, if_pos (show f c = true from ha 0 (by omega)), runP_at f r n (by simpa using h) (fun i hi => ha (i + 1) (by omega)) (hb.imp (fun e => by simpa using e) (fun e => e))]
theorem ib_run {s : List UInt8} {c : UInt8} : Go.Lib.indexByte s c + 1 = if s.contains c then ((runP (· != c) s + 1 : Nat) : Int) else 0 := by
  rw [ib_spec]
  split <;> simp [runP]
theorem tk_num {i : Nat} {s : List UInt8} {l : List Cae.Tok} (h : Tk i s l) : ∀ t ∈ l, t.kind = 2 → t.text ≠ [] ∧ ∀ c ∈ t.text, digitP c = true := by
  induction h with
  | nil i => simp
  | blank _ _ ih => exact ih
  | note _ _ _ ih => exact ih
  | @tok i c r l h1 h2 h3 hl ih =>
    intro t ht hk
    rcases List.mem_cons.1 ht with rfl | ht
    · rw [nextT_cons] at hk h3
      simp only [nextT_cons]
      by_cases a1 : letterP c = true
      · rw [if_pos a1] at hk; cases hk
      · rw [if_neg a1] at hk h3 ⊢
        by_cases a2 : digitP c = true
        · rw [if_pos a2] at h3 ⊢
          have e : (c :: r).take (runP digitP (c :: r)) = (c :: r).takeWhile digitP := take_tw digitP (c :: r)
          show (c :: r).take (runP digitP (c :: r)) ≠ [] ∧ _
          rw [e]
          refine ⟨fun hh => ?_, fun x hx => ?_⟩
          · rw [List.takeWhile_cons, if_pos a2] at hh; cases hh
          · exact List.all_eq_true.1 (List.all_takeWhile (p := digitP) (l := c :: r)) x hx
        · rw [if_neg a2] at hk
          split at hk
          · cases hk
          · split at hk <;> cases hk
    · exact ih t ht hk
end Cae
namespace Go.Proofs.YtphebgkbkdjjoaaGreatDoor
open Go.Vc Go.Proofs Go.RowKit Cae
set_option maxRecDepth 100000
set_option linter.unusedSimpArgs false
set_option linter.unusedVariables false
attribute [local irreducible] wpL callK valK unitK runK Fun Sl Vc.Own vc vcOps opK pureK
set_option maxHeartbeats 4000000

theorem letter_c (c : UInt8) (w : World) : Fun Tryz.prog 65 [.int .u8 c.toNat] w fun r w' => r = .bool (letterP c) ∧ w' = w := by
  have h : letterP c = (decide (97 ≤ c.toNat) && decide (c.toNat ≤ 122)) := rfl
  refine fun_of_vc Tryz.func65 rfl (by kernel_rfl) [2] rfl ?_
  push_cast -dsimp (maxSteps := 4000000) [Tryz.ntmps65]
  refine ⟨fun h1 => ?_, fun h1 => ?_⟩
  · rw [h, decide_eq_true (show 97 ≤ c.toNat by omega), Bool.true_and]
    congr 1
    exact decide_eq_decide.2 (by omega)
  · rw [h, decide_eq_false (show ¬ 97 ≤ c.toNat by omega)]; rfl
theorem digit_c (c : UInt8) (w : World) : Fun Tryz.prog 67 [.int .u8 c.toNat] w fun r w' => r = .bool (digitP c) ∧ w' = w := by
  have h : digitP c = (decide (48 ≤ c.toNat) && decide (c.toNat ≤ 57)) := rfl
  refine fun_of_vc Tryz.func67 rfl (by kernel_rfl) [2] rfl ?_
  push_cast -dsimp (maxSteps := 4000000) [Tryz.ntmps67]
  refine ⟨fun h1 => ?_, fun h1 => ?_⟩
  · rw [h, decide_eq_true (show 48 ≤ c.toNat by omega), Bool.true_and]
    congr 1
    exact decide_eq_decide.2 (by omega)
  · rw [h, decide_eq_false (show ¬ 48 ≤ c.toNat by omega)]; rfl
theorem letdig_c (c : UInt8) (w : World) : Fun Tryz.prog 66 [.int .u8 c.toNat] w fun r w' => r = .bool (letterP c || digitP c) ∧ w' = w := by
  refine fun_of_vc Tryz.func66 rfl (by kernel_rfl) [2] rfl ?_
  push_cast -dsimp (maxSteps := 4000000) [Tryz.ntmps66]
  refine callK_of (letter_c c w) ?_
  rintro _ _ ⟨rfl, rfl⟩
  cases letterP c with
  | true =>
    push_cast -dsimp
    rfl
  | false =>
    push_cast -dsimp
    refine callK_of (digit_c c _) ?_
    rintro _ _ ⟨rfl, rfl⟩
    push_cast -dsimp
theorem noline_c (c : UInt8) (w : World) : Fun Tryz.prog 45 [.int .u8 c.toNat] w fun r w' => r = .bool (c != 10) ∧ w' = w := by
  refine fun_of_vc Tryz.func45 rfl (by kernel_rfl) [2] rfl ?_
  push_cast -dsimp (maxSteps := 4000000) [Tryz.ntmps45]
  congr 1
  rw [bne, beq_dec]
  have : (((c.toNat : Nat) : Int) = 10) ↔ c = 10 := by
    constructor
    · intro h
      exact UInt8.toNat_inj.1 (by show c.toNat = 10; omega)
    · rintro rfl; rfl
  by_cases h : c = 10
  · rw [decide_eq_true h, decide_eq_false (show ¬ ((c.toNat : Nat) : Int) ≠ 10 from fun hh => hh (this.2 h))]; rfl
  · rw [decide_eq_false h, decide_eq_true (show ((c.toNat : Nat) : Int) ≠ 10 from fun hh => h (this.1 hh))]; rfl
def indexByteR_ren : Go.Shelf.Ren := ⟨fun | 217 => 79 | 266 => 101 | n => n, fun | 9 => 9 | 5 => 5 | 3 => 3 | n => n, fun | n => n⟩
theorem indexByteR : Go.Proofs.Lays.n217 Tryz.prog indexByteR_ren := {
  mixed := by kernel_rfl
  f217 := Tryz.func79.trans (congrArg some (by kernel_rfl))
  f266 := Tryz.func101.trans (congrArg some (by kernel_rfl))
  t3 := Tryz.underlying3
  a3 := Tryz.isAgg3
  z3 := Tryz.sizeOf3
  v3 := Tryz.zeroValue3
  t5 := Tryz.underlying5
  a5 := Tryz.isAgg5
  z5 := Tryz.sizeOf5
  v5 := Tryz.zeroValue5
  t9 := Tryz.underlying9
  a9 := Tryz.isAgg9
  z9 := Tryz.sizeOf9
  v9 := Tryz.zeroValue9 }

theorem indexByteI_c (s : List UInt8) (c : UInt8) (w : World) : Fun Tryz.prog 79 [str s, .int .u8 c.toNat] w fun r w' => r = .int .i64 (Lib.indexByte s c) ∧ w' = w := by
  refine fun_of_calls Tryz.func79 (by kernel_rfl) (by kernel_rfl) ?_
  refine Calls.mono (Any.stringslite_IndexByte indexByteR ⟨s.toArray⟩ c.toNat w) ?_
  rintro e w' ⟨rfl, rfl⟩
  exact ⟨_, rfl, by simp, rfl⟩
theorem indexByte_c (s : List UInt8) (c : UInt8) (w : World) : Fun Tryz.prog 68 [str s, .int .u8 c.toNat] w fun r w' => r = .int .i64 (Lib.indexByte s c) ∧ w' = w := by
  refine fun_of_vc Tryz.func68 rfl (by kernel_rfl) [4] rfl ?_
  push_cast -dsimp (maxSteps := 4000000) [Tryz.ntmps68]
  refine callK_of (indexByteI_c s c w) ?_
  rintro _ _ ⟨rfl, rfl⟩
  push_cast -dsimp
theorem run_c (f : FuncId) (g : UInt8 → Bool) (hf : ∀ (c : UInt8) (w : World), Fun Tryz.prog f [.int .u8 c.toNat] w fun r w' => r = .bool (g c) ∧ w' = w) (s : List UInt8) (hs : s.length ≤ 1000000000) (w : World) :
    Fun Tryz.prog 44 [str s, .func (.func f) #[] #[]] w fun r w' => r = .int .i64 (runP g s : Nat) ∧ w' = w := by
  refine fun_of_vc Tryz.func44 rfl (by kernel_rfl) [4] rfl ?_
  push_cast -dsimp (maxSteps := 4000000) [Tryz.ntmps44]
  refine wpL_loop [5, 6, 7, 8, 9, 10, 11, 12, 13, 14, 15, 16, 17, 18] (fun z w' => ∃ n : Nat, z 5 = .int .i64 n ∧ n ≤ s.length ∧ (∀ i, i < n → g (s.getD i 0) = true) ∧ w' = w) (fun z w' => s.length - (intOf (z 5)).toNat) ?_ ?_
  · exact ⟨0, rfl, Nat.zero_le _, fun i hi => by omega, rfl⟩
  rintro z w' ⟨n, hz, hn, hall, rfl⟩
  have hint : (intOf (z 5)).toNat = n := by rw [hz]; simp [intOf]
  push_cast -dsimp [hz]
  refine ⟨fun hlt => ⟨⟨by omega, by omega⟩, ?_⟩, fun hge => ?_⟩
  · refine callK_of (hf (s.getD n 0) w') ?_
    rintro _ _ ⟨rfl, rfl⟩
    cases hg : g (s.getD n 0) with
    | true =>
      push_cast -dsimp [hz]
      refine ⟨⟨by omega, by omega⟩, ⟨n + 1, rfl, by omega, fun i hi => ?_⟩, ?_⟩
      · by_cases h : i < n
        · exact hall i h
        · rw [show i = n by omega]; exact hg
      · simp only [intOf]; omega
    | false =>
      push_cast -dsimp [hz]
      rw [runP_at g s n hn hall (.inr hg)]
  · rw [runP_at g s n hn hall (.inl (by omega))]
theorem next_c (c : UInt8) (r : List UInt8) (hs : (c :: r).length ≤ 1000000000) (w : World) : Fun Tryz.prog 46 [str (c :: r)] w fun v w' => v = .tuple #[.int .i64 ((nextT (c :: r)).1 : Nat), .int .i64 ((nextT (c :: r)).2 : Nat)] ∧ w' = w := by
  have hn := nextT_cons c r
  refine fun_of_vc Tryz.func46 rfl (by kernel_rfl) [2, 3] rfl ?_
  push_cast -dsimp (maxSteps := 4000000) [Tryz.ntmps46]
  have e0 : ((c :: r).getD 0 0) = c := rfl
  refine ⟨by omega, ?_⟩
  refine callK_of (letter_c c w) ?_
  rintro _ _ ⟨rfl, rfl⟩
  cases h1 : letterP c with
  | true =>
    rw [h1, if_pos rfl] at hn
    push_cast -dsimp
    refine callK_of (run_c _ (fun c => letterP c || digitP c) letdig_c (c :: r) hs _) ?_
    rintro _ _ ⟨rfl, rfl⟩
    push_cast -dsimp
    rw [hn]
    rfl
  | false =>
    rw [h1, if_neg (by decide)] at hn
    push_cast -dsimp
    refine callK_of (digit_c c _) ?_
    rintro _ _ ⟨rfl, rfl⟩
    cases h2 : digitP c with
    | true =>
      rw [h2, if_pos rfl] at hn
      push_cast -dsimp
      refine callK_of (run_c _ digitP digit_c (c :: r) hs _) ?_
      rintro _ _ ⟨rfl, rfl⟩
      push_cast -dsimp
      rw [hn]
      rfl
    | false =>
      rw [h2, if_neg (by decide)] at hn
      have h91 : (((c.toNat : Nat) : Int) = 91) ↔ c = 91 := by
        constructor
        · intro h
          exact UInt8.toNat_inj.1 (by show c.toNat = 91; omega)
        · rintro rfl; rfl
      push_cast -dsimp
      refine ⟨fun h3 => ?_, fun h3 => ?_⟩
      · rw [if_pos (h91.1 h3)] at hn
        refine callK_of (indexByte_c (c :: r) 93 _) ?_
        rintro _ _ ⟨rfl, rfl⟩
        have hr := runP_le (· != 93) (c :: r)
        have hib : Lib.indexByte (c :: r) 93 + 1 = (((nextT (c :: r)).2 : Nat) : Int) := by
          rw [ib_run, hn]
          split <;> rfl
        push_cast -dsimp
        refine ⟨?_, ?_⟩
        · rw [hib]; have := nextT_le c r; omega
        · rw [hib, hn]
          rfl
      · rw [if_neg (fun h => h3 (h91.2 h))] at hn
        refine callK_of (indexByte_c markL c _) ?_
        rintro _ _ ⟨rfl, rfl⟩
        have hib : (0 ≤ Lib.indexByte markL c) ↔ markL.contains c = true := by
          rw [ib_spec]
          split
          · rename_i h; exact ⟨fun _ => h, fun _ => by omega⟩
          · rename_i h; exact ⟨fun hh => by omega, fun hh => absurd hh h⟩
        push_cast -dsimp
        refine ⟨fun h => ?_, fun h => ?_⟩
        · rw [if_pos (hib.1 h)] at hn; rw [hn]; rfl
        · rw [if_neg (fun hh => h (hib.2 hh))] at hn; rw [hn]; rfl
theorem encTok_one (t : Cae.Tok) : ∀ u ∈ encTok t, u.oneCell' = true := by
  intro u hu
  simp [encTok] at hu
  rcases hu with rfl | rfl | rfl <;> rfl
/-- What tokens answers. -/
def TokR (w : World) (s : List UInt8) (r : Value) (w' : World) : Prop :=
  (∃ l v, tokP s = .ok l ∧ r = .tuple #[v, .nilIface] ∧ Go.Vc.Own w.heap.size 75 3 encTok w' v l) ∨
  (∃ e pos b, tokP s = .error (e, pos) ∧ r = .tuple #[.slice none 0 0, .iface 105 (.pointer (some ⟨b, 0, none⟩))] ∧ w.heap.size ≤ b ∧ Blk w' b 106 [.int .i64 e, .int .i64 pos])
theorem tokens_c (s : List UInt8) (hs : s.length ≤ 1000000) (w : World) : Fun Tryz.prog 24 [str s] w fun r w' => TokR w s r w' ∧ Below w.heap.size w w' := by
  refine fun_of_vc Tryz.func24 rfl (by kernel_rfl) [2, 3] rfl ?_
  push_cast -dsimp (maxSteps := 4000000) [Tryz.ntmps24]
  refine wpL_loop [2, 3, 4, 5, 6, 7, 8, 9, 10, 11, 12, 13, 14, 15, 16, 17, 18, 19, 20, 21, 22, 23, 24, 25, 26, 27, 28, 29, 30, 31, 32, 33, 34, 35, 36, 37, 38, 39, 40, 41, 42, 43, 44, 45, 46, 47, 48, 49, 50, 51, 52, 53, 54, 55, 56, 57, 58, 59, 60, 61, 62, 63, 64] (fun z w' => ∃ (m i : Nat) (acc : List Cae.Tok) (v : Value), z 5 = .int .i64 i ∧ z 4 = v ∧ i ≤ s.length ∧ (s.drop i).length < m ∧ acc.length ≤ 500 ∧ tokLoop m i (s.drop i) acc = tokP s ∧ Go.Vc.Own w.heap.size 75 3 encTok w' v acc ∧ Below w.heap.size w w') (fun z w' => s.length - (intOf (z 5)).toNat) ?_ ?_
  · exact ⟨s.length + 1, 0, [], _, rfl, rfl, Nat.zero_le _, by simp, by simp, rfl, Vc.Own.nil (enc := encTok) _ _ (fun _ => rfl) _, Below.refl _ _⟩
  rintro z w' ⟨m, i, acc, v, hz5, hz4, hi, hm, hacc, hm2, hO, hb⟩
  obtain ⟨m', rfl⟩ : ∃ m', m = m' + 1 := ⟨m - 1, by omega⟩
  have hzb := hb.size
  obtain ⟨va, vc, rfl⟩ := hO.slice
  have hdl : (s.drop i).length = s.length - i := List.length_drop
  push_cast -dsimp [hz5]
  refine ⟨fun hlt => ?_, fun hge => ?_⟩
  · obtain ⟨c, r, hcr⟩ : ∃ c r, s.drop i = c :: r := by
      cases hd : s.drop i with
      | nil => rw [hd] at hdl; simp at hdl; omega
      | cons c r => exact ⟨c, r, rfl⟩
    have hget : s.getD i 0 = c := by
      have : (s.drop i).getD 0 0 = c := by rw [hcr]; rfl
      rw [← this]; simp [List.getD_eq_getElem?_getD]
    rw [hcr] at hm2 hm hdl
    have hrl : r.length + 1 = s.length - i := by simpa using hdl
    have hstep := hm2
    rw [tokLoop] at hstep
    have hc32 : (((c.toNat : Nat) : Int) = 32) ↔ c = 32 := ⟨fun h => UInt8.toNat_inj.1 (by show c.toNat = 32; omega), fun h => by subst h; rfl⟩
    have hc10 : (((c.toNat : Nat) : Int) = 10) ↔ c = 10 := ⟨fun h => UInt8.toNat_inj.1 (by show c.toNat = 10; omega), fun h => by subst h; rfl⟩
    have hc35 : (((c.toNat : Nat) : Int) = 35) ↔ c = 35 := ⟨fun h => UInt8.toNat_inj.1 (by show c.toNat = 35; omega), fun h => by subst h; rfl⟩
    have hdr : ∀ k, s.drop (i + k) = (c :: r).drop k := fun k => by rw [← hcr, List.drop_drop]
    by_cases h32 : ((c.toNat : Nat) : Int) = 32
    · rw [if_pos (.inl (hc32.1 h32))] at hstep
      push_cast -dsimp [hz5, hget, h32]
      refine ⟨⟨by omega, by omega⟩, ⟨by omega, by omega⟩, ⟨m', i + 1, acc, _, rfl, hz4, by omega, by rw [hdr 1]; simp; omega, hacc, by rw [hdr 1]; exact hstep, hO, hb⟩, by simp only [intOf]; omega⟩
    · by_cases h10 : ((c.toNat : Nat) : Int) = 10
      · rw [if_pos (.inr (hc10.1 h10))] at hstep
        push_cast -dsimp [hz5, hget, h32, h10]
        refine ⟨⟨by omega, by omega⟩, ⟨by omega, by omega⟩, ⟨m', i + 1, acc, _, rfl, hz4, by omega, by rw [hdr 1]; simp; omega, hacc, by rw [hdr 1]; exact hstep, hO, hb⟩, by simp only [intOf]; omega⟩
      · rw [if_neg (fun h => h.elim (fun h => h32 (hc32.2 h)) (fun h => h10 (hc10.2 h)))] at hstep
        by_cases h35 : ((c.toNat : Nat) : Int) = 35
        · rw [if_pos (hc35.1 h35)] at hstep
          have hr := run_c _ (· != 10) noline_c (c :: r) (by rw [List.length_cons]; omega) w'
          rw [← hcr] at hr
          have hle := runP_le (· != 10) (c :: r)
          have hpos : 0 < runP (· != 10) (c :: r) := runP_pos (by rw [hc35.1 h35]; decide)
          rw [List.length_cons] at hle
          push_cast -dsimp [hz5, hget, h32, h10, h35]
          refine ⟨⟨by omega, by omega⟩, ⟨by omega, by omega⟩, ?_⟩
          refine callK_of hr ?_
          rintro _ wq ⟨rfl, hwq⟩
          obtain rfl : w' = wq := hwq.symm
          rw [hcr]
          push_cast -dsimp [hz5]
          refine ⟨⟨by omega, by omega⟩, ⟨m', i + runP (· != 10) (c :: r), acc, _, by first | (push_cast; done) | (push_cast; rfl), hz4, by omega, by rw [hdr]; simp; omega, hacc, by rw [hdr]; exact hstep, hO, hb⟩, by simp only [intOf]; omega⟩
        · rw [if_neg (fun h => h35 (hc35.2 h))] at hstep
          have hr := next_c c r (by rw [List.length_cons]; omega) w'
          rw [← hcr] at hr
          have hle := nextT_le c r
          rw [List.length_cons] at hle
          push_cast -dsimp [hz5, hget, h32, h10, h35]
          refine ⟨⟨by omega, by omega⟩, ⟨by omega, by omega⟩, ?_⟩
          refine callK_of hr ?_
          rintro _ wq ⟨rfl, hwq⟩
          obtain rfl : w' = wq := hwq.symm
          rw [hcr]
          have hkn : ∃ k n, nextT (c :: r) = (k, n) := ⟨_, _, rfl⟩
          obtain ⟨k, n, hkn⟩ := hkn
          rw [hkn] at hle hstep ⊢
          dsimp only at hle hstep ⊢
          push_cast -dsimp [hz5]
          refine ⟨fun h0 => ?_, fun h0 => ?_⟩
          ·
            refine boxK_of ?_
            intro w4 hw4
            have B4 : Blk w4 w'.heap.size 106 [.int .i64 (3 : Nat), .int .i64 i] := hw4.blk
            have b4 := hb.trans (hw4.below.mono hzb)
            push_cast -dsimp
            exact ⟨.inr ⟨3, i, _, by rw [← hstep, if_pos (show n = 0 by omega)], rfl, hzb, B4⟩, b4⟩
          · rw [if_neg (by omega)] at hstep
            push_cast -dsimp [hz4]
            refine ⟨fun h500 => ?_, fun h500 => ?_⟩
            ·
              refine boxK_of ?_
              intro w4 hw4
              have B4 : Blk w4 w'.heap.size 106 [.int .i64 (4 : Nat), .int .i64 i] := hw4.blk
              have b4 := hb.trans (hw4.below.mono hzb)
              push_cast -dsimp
              exact ⟨.inr ⟨4, i, _, by rw [← hstep, if_pos (show acc.length = 500 by omega)], rfl, hzb, B4⟩, b4⟩
            · rw [if_neg (by omega)] at hstep
              refine ⟨⟨by omega, by omega⟩, ⟨by omega, by omega, by omega⟩, ?_⟩
              have htxt : (s.take (i + n)).drop i = (c :: r).take n := by rw [List.drop_take, hcr]; congr 1; omega
              have hpc : partCells [(0, Value.agg #[.int .i64 k, str ((s.take ((i : Int) + n).toNat).drop i), .int .i64 i])] = [(⟨k, (c :: r).take n, i⟩ : Cae.Tok)].flatMap encTok := by
                rw [show ((i : Int) + n).toNat = i + n by omega, htxt]
                rfl
              refine rowK elI_67 rfl rfl (by omega) ?_
              rw [hpc]
              intro w4 hw4
              have hO4 := hO.new hw4
              have z4' := hw4.size
              have b4 := hb.trans (hw4.below.mono hzb)
              push_cast -dsimp
              refine appendK2 (base := w.heap.size) [⟨k, (c :: r).take n, i⟩] (enc := encTok) elI_67 hO4 (by rfl) (fun j y hy => by rw [Nat.zero_add]; exact hw4.cell hy) encTok_one (by simp only [List.length_cons, List.length_nil]; omega) (by omega) ?_
              intro v5 w5 hO5 hg5 hn5
              have b5 := b4.trans ((Kept.grown hg5 (X := fun j => (Value.slice va acc.length vc).ownBlock = some j) (fun _ h => h)).below (B := w.heap.size) (by omega) (fun i h => (hO4.block i h).1))
              push_cast -dsimp [hz5]
              refine ⟨⟨by omega, by omega⟩, ⟨m', i + n, acc ++ [⟨k, (c :: r).take n, i⟩], v5, by first | (push_cast; done) | (push_cast; rfl), rfl, by omega, by rw [hdr]; simp; omega, by rw [List.length_append, List.length_singleton]; omega, by rw [hdr]; exact hstep, hO5, b5⟩, by simp only [intOf]; omega⟩
  · have hpc : partCells [(0, Value.agg #[.int .i64 5, str [], .int .i64 s.length])] = [(⟨5, [], s.length⟩ : Cae.Tok)].flatMap encTok := rfl
    refine rowK elI_67 rfl rfl (by omega) ?_
    rw [hpc]
    intro w4 hw4
    have hO4 := hO.new hw4
    have z4' := hw4.size
    have b4 := hb.trans (hw4.below.mono hzb)
    have hend : s.drop i = [] := List.drop_eq_nil_iff.2 (by omega)
    have hok : tokP s = .ok (acc ++ [⟨5, [], s.length⟩]) := by
      rw [← hm2, hend, tokLoop, show i = s.length by omega]
    push_cast -dsimp [hz4]
    refine appendK2 (base := w.heap.size) [⟨5, [], s.length⟩] (enc := encTok) elI_67 hO4 (by rfl) (fun j y hy => by rw [Nat.zero_add]; exact hw4.cell hy) encTok_one (by simp only [List.length_cons, List.length_nil]; omega) (by omega) ?_
    intro v5 w5 hO5 hg5 hn5
    have b5 := b4.trans ((Kept.grown hg5 (X := fun j => (Value.slice va acc.length vc).ownBlock = some j) (fun _ h => h)).below (B := w.heap.size) (by omega) (fun i h => (hO4.block i h).1))
    push_cast -dsimp
    exact ⟨.inl ⟨_, v5, hok, rfl, hO5⟩, b5⟩
end Go.Proofs.YtphebgkbkdjjoaaGreatDoor
end
section
set_option linter.unusedSimpArgs false
set_option linter.unusedVariables false
namespace Go.Vc
section
variable {P : Program}
/-- What a piece of code in a block leaves, where it leaves by that block's end; or what it throws. -/
def cutQ (id : Nat) (Q : EP) (M : List Nat) (t : Fr) (J : (Nat → Value) → World → Prop) (_ : Ph (Q, t, J)) : EP
  | .exit i, t', w' => i = id ∧ t' = ov t M (at_ t') ∧ J (at_ t') w'
  | .panic c, t', w' => Q (.panic c) t' w'
  | _, _, _ => False
/-- What comes behind a block is walked once. -/
theorem wpL_cutB {c : Code} {id : Nat} {t : Fr} {w : World} {Q : EP} {p q} (M : List Nat) (J : (Nat → Value) → World → Prop) (h1 : wpL P c (cutQ id Q M t J .mk) t w .mk)
    (h2 : ∀ z w', J z w' → Q .normal (ov t M z) w') : wpL P c (blockQ id Q p) t w q := by
  refine wpL_mono ?_ h1
  intro e t' w' h
  cases e <;> simp only [cutQ] at h
  case exit i =>
    obtain ⟨rfl, ht, hJ⟩ := h
    rw [blockQ_same, ht]
    exact h2 _ _ hJ
  case panic c => exact h
theorem cutQ_exit {id : Nat} {Q : EP} {M : List Nat} {t t' : Fr} {w' : World} {J : (Nat → Value) → World → Prop} (p) : cutQ id Q M t J p (.exit id) t' w' = (t' = ov t M (at_ t') ∧ J (at_ t') w') := by simp [cutQ]
theorem cutQ_panic {id : Nat} {Q : EP} {M : List Nat} {t t' : Fr} {w' : World} {J : (Nat → Value) → World → Prop} (c) (p) : cutQ id Q M t J p (.panic c) t' w' = Q (.panic c) t' w' := (rfl)
attribute [push_cast] cutQ_exit cutQ_panic
end
end Go.Vc
end
section
/- Code piece by piece: what comes behind a piece is walked once. -/
namespace Go.Vc
open Go.RowKit
section
variable {P : Program} {t : Fr} {w : World} {Q : EP}
theorem wpL_of {c : Code} {p} (h : vc P c Q t w .mk) : wpL P c Q t w p := vc_ok c Q t w h
theorem wpL_seqW {a b : Code} {p} (h : wpL P a (seqQ (fun t w => wpL P b Q t w .mk) Q .mk) t w .mk) : wpL P (.seq a b) Q t w p := by
  unfold wpL at h ⊢
  refine wp_seq (Code.wp_mono ?_ h)
  rintro e a' w' ⟨hd, hh⟩
  cases e <;> simp only [seqQ] at hh <;> simp only [Exit.then] <;> first | exact ⟨hd, hh⟩ | skip
  rw [act_eq hd]
  exact hh
theorem wpL_seqV {a b : Code} {p} (h : vc P a (seqQ (fun t w => wpL P b Q t w .mk) Q .mk) t w .mk) : wpL P (.seq a b) Q t w p := wpL_seqW (vc_ok _ _ _ _ h)
theorem wpL_seqC {a b : Code} {p} (M : List Nat) (J : (Nat → Value) → World → Prop) (h1 : vc P a (fun e t' w' => e = .normal ∧ t' = ov t M (at_ t') ∧ J (at_ t') w') t w .mk)
    (h2 : ∀ z w', J z w' → wpL P b Q (ov t M z) w' .mk) : wpL P (.seq a b) Q t w p := by
  refine wpL_seqW (wpL_mono ?_ (vc_ok _ _ _ _ h1))
  rintro e t' w' ⟨rfl, ht, hJ⟩
  show wpL P b Q t' w' .mk
  rw [ht]
  exact h2 _ _ hJ
theorem wpL_blockW {i : Nat} {c : Code} {p} (h : wpL P c (blockQ i Q .mk) t w .mk) : wpL P (.block i c) Q t w p := by
  unfold wpL at h ⊢
  refine wp_block (Code.wp_mono ?_ h)
  rintro e a' w' ⟨hd, hh⟩
  cases e <;> simp only [blockQ] at hh <;> simp only [Exit.inBlock] <;> first | exact ⟨hd, hh⟩ | skip
  split at hh
  · rename_i e; simp only [e, if_true]; exact ⟨hd, hh⟩
  · rename_i e; simp only [e, if_false]; exact ⟨hd, hh⟩
theorem wpL_loopW {c : Code} {p} (M : List Nat) (I : (Nat → Value) → World → Prop) (μ : (Nat → Value) → World → Nat) (h0 : I (at_ t) w)
    (hr : ∀ z w', I z w' → wpL P c (seqQ (fun t'' w'' => t'' = ov t M (at_ t'') ∧ I (at_ t'') w'' ∧ μ (at_ t'') w'' < μ z w') Q .mk) (ov t M z) w' .mk) : wpL P (.loop c) Q t w p := by
  unfold wpL
  refine wp_loop (fun a w' => a.defers = [] ∧ a.tmps.toList = ov t M (at_ a.tmps.toList) ∧ I (at_ a.tmps.toList) w') (fun a w' => μ (at_ a.tmps.toList) w') ⟨rfl, by simp [ov_at], by simpa using h0⟩ ?_
  rintro a w' ⟨hd, ht, hI⟩
  have h1 := hr _ w' hI
  unfold wpL at h1
  rw [← ht] at h1
  rw [act_eq hd]
  refine Code.wp_mono ?_ h1
  rintro e a' w'' ⟨hd', hh⟩
  cases e <;> simp only [seqQ] at hh <;> simp only [Exit.then] <;> first | exact ⟨hd', hh⟩ | skip
  exact ⟨⟨hd', hh.1, hh.2.1⟩, by simpa using hh.2.2⟩
theorem fun_of_wL {f : FuncId} {fn : Func} {c : Code} {args : List Value} {R : VK} (hf : P.funcs[f]? = some fn) (hb : fn.body = some c) (hn : (fn.name == "runtime.NumGoroutine") = false)
    (rs : List Tmp) (hrs : fn.results = (rs.map ResultVar.tmp).toArray) (h : wpL P c (retN rs R .mk) (fr0 args fn.ntmps) w .mk) : Fun P f args w R := by
  refine ⟨callFunc_enter hf (by simp [hb]) hn, calls_of_wp hf hb ?_⟩
  unfold wpL at h
  have e : (args.toArray ++ Array.replicate (fn.ntmps - args.toArray.size) undef) = (fr0 args fn.ntmps).toArray := by simp [fr0]
  rw [e]
  refine Code.wp_mono ?_ h
  rintro e a w' ⟨hd, hh⟩
  have ha : a.tmps.toList.toArray = a.tmps := by simp
  cases e <;> simp only [retN] at hh <;> first | exact hh.elim | skip
  · exact ⟨hd, _, by rw [← ha]; exact results_run fn rs hrs _, _, rfl, hh⟩
  · exact ⟨hd, _, by rw [← ha]; exact results_run fn rs hrs _, _, rfl, hh⟩
theorem fun_of_wLC {f : FuncId} {fn : Func} {c : Code} {args : List Value} {R : VK} (hf : P.funcs[f]? = some fn) (hb : fn.body = some c) (hn : (fn.name == "runtime.NumGoroutine") = false)
    (rs : List ResultVar) (hrs : fn.results = rs.toArray) (h : wpL P c (retC P rs R .mk) (fr0 args fn.ntmps) w .mk) : Fun P f args w R := by
  refine ⟨callFunc_enter hf (by simp [hb]) hn, calls_of_wp hf hb ?_⟩
  unfold wpL at h
  have e : (args.toArray ++ Array.replicate (fn.ntmps - args.toArray.size) undef) = (fr0 args fn.ntmps).toArray := by simp [fr0]
  rw [e]
  refine Code.wp_mono ?_ h
  rintro e a w' ⟨hd, hh⟩
  have ha : a.tmps.toList.toArray = a.tmps := by simp
  cases e <;> simp only [retC] at hh <;> first | exact hh.elim | skip
  · obtain ⟨vs, hv, hk⟩ := resultsC_run fn rs hrs _ _ hh
    exact ⟨hd, _, by rw [← ha]; exact hv, _, rfl, hk⟩
  · obtain ⟨vs, hv, hk⟩ := resultsC_run fn rs hrs _ _ hh
    exact ⟨hd, _, by rw [← ha]; exact hv, _, rfl, hk⟩
end
end Go.Vc
end
section
/- The reference's tokens. -/
namespace Cae
theorem mark_one (c : UInt8) : Go.Lib.contains markL [c] = markL.contains c := by
  have h : ∀ n : Fin 256, Go.Lib.contains markL [UInt8.ofNat n.val] = markL.contains (UInt8.ofNat n.val) := by decide +kernel
  have := h ⟨c.toNat, c.toNat_lt⟩
  simpa using this
theorem runP_from {f : UInt8 → Bool} {s : List UInt8} {i k : Nat} (h1 : i ≤ k) (h2 : k ≤ s.length) (ha : ∀ j, i ≤ j → j < k → f (s.getD j 0) = true) (hs : k = s.length ∨ f (s.getD k 0) = false) : k = i + runP f (s.drop i) := by
  have hg : ∀ j, (s.drop i).getD j 0 = s.getD (i + j) 0 := fun j => by simp [List.getD_eq_getElem?_getD]
  have := runP_at f (s.drop i) (k - i) (by rw [List.length_drop]; omega) (fun j hj => by rw [hg]; exact ha _ (by omega) (by omega)) (by
    rw [hg, List.length_drop, show i + (k - i) = k by omega]
    exact hs.imp (fun h => by omega) id)
  omega
end Cae
namespace Go.Proofs.YtphebgkbkdjjoaaGreatDoor
open Go.Vc Go.Proofs Go.RowKit Cae
set_option maxRecDepth 100000
set_option linter.unusedSimpArgs false
set_option linter.unusedVariables false
attribute [local irreducible] wpL callK valK unitK runK Fun Sl Vc.Own vc vcOps opK pureK
set_option maxHeartbeats 40000000
def contR_ren : Go.Shelf.Ren := ⟨fun | 144 => 40 | 143 => 39 | 219 => 61 | 217 => 79 | 225 => 80 | 224 => 81 | 267 => 82 | 266 => 101 | 314 => 102 | n => n, fun | 9 => 9 | 4 => 4 | 3 => 3 | 5 => 5 | 46 => 22 | 146 => 156 | 51 => 155 | n => n, fun | 1 => 1 | n => n⟩
theorem contR : Go.Proofs.Lays.n144 Tryz.prog contR_ren := {
  mixed := by kernel_rfl
  f143 := Tryz.func39.trans (congrArg some (by kernel_rfl))
  f144 := Tryz.func40.trans (congrArg some (by kernel_rfl))
  f217 := Tryz.func79.trans (congrArg some (by kernel_rfl))
  f219 := Tryz.func61.trans (congrArg some (by kernel_rfl))
  f224 := Tryz.func81.trans (congrArg some (by kernel_rfl))
  f225 := Tryz.func80.trans (congrArg some (by kernel_rfl))
  f266 := Tryz.func101.trans (congrArg some (by kernel_rfl))
  f267 := Tryz.func82.trans (congrArg some (by kernel_rfl))
  f314 := Tryz.func102.trans (congrArg some (by kernel_rfl))
  t3 := Tryz.underlying3
  a3 := Tryz.isAgg3
  z3 := Tryz.sizeOf3
  v3 := Tryz.zeroValue3
  t4 := Tryz.underlying4
  a4 := Tryz.isAgg4
  z4 := Tryz.sizeOf4
  v4 := Tryz.zeroValue4
  t5 := Tryz.underlying5
  a5 := Tryz.isAgg5
  z5 := Tryz.sizeOf5
  v5 := Tryz.zeroValue5
  t9 := Tryz.underlying9
  a9 := Tryz.isAgg9
  z9 := Tryz.sizeOf9
  v9 := Tryz.zeroValue9
  t46 := Tryz.underlying22
  a46 := Tryz.isAgg22
  z46 := Tryz.sizeOf22
  v46 := Tryz.zeroValue22
  t51 := Tryz.underlying155
  a51 := Tryz.isAgg155
  z51 := Tryz.sizeOf155
  v51 := Tryz.zeroValue155
  t146 := Tryz.underlying156
  a146 := Tryz.isAgg156
  z146 := Tryz.sizeOf156
  v146 := Tryz.zeroValue156
  g1 := by kernel_rfl }

theorem markHas_c (c : UInt8) (w : World) (hm : Tv w) : Fun Tryz.prog 40 [str markL, str [c]] w fun r w' => r = .bool (markL.contains c) ∧ w' = w := by
  obtain ⟨m, hm⟩ := hm.mx
  refine fun_of_calls Tryz.func40 (by kernel_rfl) (by kernel_rfl) ?_
  refine Calls.mono (Any.strings_Contains contR ⟨markL.toArray⟩ ⟨[c].toArray⟩ m w (by show markL.toArray.size < _; decide) hm) ?_
  rintro e w' ⟨rfl, rfl⟩
  exact ⟨_, rfl, by rw [← mark_one], rfl⟩
theorem low_c (c : UInt8) (w : World) : Fun Tryz.prog 37 [.int .u8 c.toNat] w fun r w' => r = .bool (letterP c) ∧ w' = w := by
  have h : letterP c = (decide (97 ≤ c.toNat) && decide (c.toNat ≤ 122)) := rfl
  refine fun_of_vc Tryz.func37 rfl (by kernel_rfl) [2] rfl ?_
  push_cast -dsimp (maxSteps := 4000000) [Tryz.ntmps37]
  refine ⟨fun h1 => ?_, fun h1 => ?_⟩
  · rw [h, decide_eq_true (show 97 ≤ c.toNat by omega), Bool.true_and]
    congr 1
    exact decide_eq_decide.2 (by omega)
  · rw [h, decide_eq_false (show ¬ 97 ≤ c.toNat by omega)]; rfl
theorem dig_c (c : UInt8) (w : World) : Fun Tryz.prog 38 [.int .u8 c.toNat] w fun r w' => r = .bool (digitP c) ∧ w' = w := by
  have h : digitP c = (decide (48 ≤ c.toNat) && decide (c.toNat ≤ 57)) := rfl
  refine fun_of_vc Tryz.func38 rfl (by kernel_rfl) [2] rfl ?_
  push_cast -dsimp (maxSteps := 4000000) [Tryz.ntmps38]
  refine ⟨fun h1 => ?_, fun h1 => ?_⟩
  · rw [h, decide_eq_true (show 48 ≤ c.toNat by omega), Bool.true_and]
    congr 1
    exact decide_eq_decide.2 (by omega)
  · rw [h, decide_eq_false (show ¬ 48 ≤ c.toNat by omega)]; rfl
theorem fault_agg {w : World} (h : Gr w) : cellsAt w ⟨0, 0, none⟩ 0 2 = some [.int .i64 0, .int .i64 (-1)] := cellsAt_of [.int .i64 0, .int .i64 (-1)] 0 (fun j u hu => by
    rw [Nat.zero_add, Nat.zero_add]
    match j, hu with
    | 0, hu => cases hu; exact h.f0
    | 1, hu => cases hu; exact h.f1
    | j + 2, hu => cases hu)
theorem bne_ten (c : UInt8) : (c != 10) = decide (¬ ((c.toNat : Nat) : Int) = 10) := by
  have : (((c.toNat : Nat) : Int) = 10) ↔ c = 10 := ⟨fun h => UInt8.toNat_inj.1 (by show c.toNat = 10; omega), fun h => by subst h; rfl⟩
  by_cases h : c = 10
  · subst h; rfl
  · rw [decide_eq_true (p := ¬ ((c.toNat : Nat) : Int) = 10) (fun hh => h (this.1 hh))]; simpa using h
/-- What tokens answers. -/
def RTokR (w : World) (s : List UInt8) (r : Value) (w' : World) : Prop :=
  (∃ l v, tokP s = .ok l ∧ r = .tuple #[v, .agg #[.int .i64 0, .int .i64 (-1)]] ∧ Vc.Own w.heap.size 55 3 encTok w' v l) ∨
  (∃ e pos : Nat, tokP s = .error (e, pos) ∧ e ≠ 0 ∧ r = .tuple #[.slice none 0 0, .agg #[.int .i64 e, .int .i64 pos]])
theorem rtokens_c (s : List UInt8) (hs : s.length ≤ 1000000) (w : World) (hg : Gr w) : Fun Tryz.prog 14 [str s] w fun r w' => RTokR w s r w' ∧ Below w.heap.size w w' := by
  refine fun_of_vcC Tryz.func14 rfl (by kernel_rfl) [.tmp 2, .cell 3 31] rfl ?_
  push_cast -dsimp (maxSteps := 4000000) [Tryz.ntmps14]
  refine allocK (z := [.int .i64 0, .int .i64 0]) (by kernel_rfl) ?_
  intro w1 hw1
  have F1 : Blk w1 w.heap.size 31 [.int .i64 0, .int .i64 0] := hw1.blk
  have z1 := hw1.size
  have b1 := hw1.below
  push_cast -dsimp
  refine wpL_loopW [2, 4, 5, 6, 7, 8, 9, 10, 11, 12, 13, 14, 15, 16, 17, 18, 19, 20, 21, 22, 23, 24, 25, 26, 27, 28, 29, 30, 31, 32, 33, 34, 35, 36, 37, 38, 39, 40, 41, 42, 43, 44, 45, 46, 47, 48, 49, 50, 51, 52, 53, 54, 55, 56, 57, 58, 59, 60, 61, 62, 63, 64, 65, 66, 67, 68, 69, 70, 71, 72, 73, 74, 75, 76, 77, 78, 79, 80, 81, 82, 83, 84, 85, 86, 87, 88, 89, 90, 91, 92, 93, 94, 95, 96, 97, 98, 99, 100, 101, 102, 103, 104, 105, 106, 107, 108, 109, 110, 111, 112, 113, 114, 115, 116, 117, 118, 119, 120, 121, 122] (fun z w' => ∃ (m i : Nat) (acc : List Cae.Tok) (v : Value), z 5 = .int .i64 i ∧ z 4 = v ∧ i ≤ s.length ∧ (s.drop i).length < m ∧ acc.length ≤ 500 ∧ tokLoop m i (s.drop i) acc = tokP s ∧ Vc.Own (w.heap.size + 1) 55 3 encTok w' v acc ∧ Blk w' w.heap.size 31 [.int .i64 0, .int .i64 0] ∧ Below w.heap.size w w') (fun z w' => s.length - (intOf (z 5)).toNat) ?_ ?_
  · exact ⟨s.length + 1, 0, [], _, rfl, rfl, Nat.zero_le _, by simp, by simp, rfl, Vc.Own.nil (enc := encTok) _ _ (fun _ => rfl) _, F1, b1⟩
  rintro z w' ⟨m, i, acc, v, hz5, hz4, hi, hm, hacc, hm2, hO, hF, hb⟩
  obtain ⟨m', rfl⟩ : ∃ m', m = m' + 1 := ⟨m - 1, by omega⟩
  have hzb := hb.size
  obtain ⟨va, vc, rfl⟩ := hO.slice
  have hdl : (s.drop i).length = s.length - i := List.length_drop
  refine wpL_seqV ?_
  push_cast -dsimp [hz5]
  refine ⟨fun hlt => ?_, fun hge => ?_⟩
  · obtain ⟨c, r, hcr⟩ : ∃ c r, s.drop i = c :: r := by
      cases hd : s.drop i with
      | nil => rw [hd] at hdl; simp at hdl; omega
      | cons c r => exact ⟨c, r, rfl⟩
    have hget : s.getD i 0 = c := by
      have : (s.drop i).getD 0 0 = c := by rw [hcr]; rfl
      rw [← this]; simp [List.getD_eq_getElem?_getD]
    rw [hcr] at hm2 hm hdl
    have hrl : r.length + 1 = s.length - i := by simpa using hdl
    have hstep := hm2
    rw [tokLoop] at hstep
    have hc32 : (((c.toNat : Nat) : Int) = 32) ↔ c = 32 := ⟨fun h => UInt8.toNat_inj.1 (by show c.toNat = 32; omega), fun h => by subst h; rfl⟩
    have hc10 : (((c.toNat : Nat) : Int) = 10) ↔ c = 10 := ⟨fun h => UInt8.toNat_inj.1 (by show c.toNat = 10; omega), fun h => by subst h; rfl⟩
    have hc35 : (((c.toNat : Nat) : Int) = 35) ↔ c = 35 := ⟨fun h => UInt8.toNat_inj.1 (by show c.toNat = 35; omega), fun h => by subst h; rfl⟩
    have hc91 : (((c.toNat : Nat) : Int) = 91) ↔ c = 91 := ⟨fun h => UInt8.toNat_inj.1 (by show c.toNat = 91; omega), fun h => by subst h; rfl⟩
    have hdr : ∀ k, s.drop (i + k) = (c :: r).drop k := fun k => by rw [← hcr, List.drop_drop]
    refine wpL_blockW (wpL_seqV ?_)
    push_cast -dsimp [hz5, hget]
    refine ⟨⟨by omega, by omega⟩, wpL_seqV ?_⟩
    by_cases h32 : ((c.toNat : Nat) : Int) = 32
    · rw [if_pos (.inl (hc32.1 h32))] at hstep
      push_cast -dsimp [h32]
      refine ⟨⟨by omega, by omega⟩, ⟨m', i + 1, acc, _, rfl, hz4, by omega, by rw [hdr 1]; simp; omega, hacc, by rw [hdr 1]; exact hstep, hO, hF, hb⟩, by simp only [intOf, hz5]; omega⟩
    · by_cases h10 : ((c.toNat : Nat) : Int) = 10
      · rw [if_pos (.inr (hc10.1 h10))] at hstep
        push_cast -dsimp [h32, h10]
        refine ⟨⟨by omega, by omega⟩, ⟨m', i + 1, acc, _, rfl, hz4, by omega, by rw [hdr 1]; simp; omega, hacc, by rw [hdr 1]; exact hstep, hO, hF, hb⟩, by simp only [intOf, hz5]; omega⟩
      · rw [if_neg (fun h => h.elim (fun h => h32 (hc32.2 h)) (fun h => h10 (hc10.2 h)))] at hstep
        push_cast -dsimp [h32, h10]
        refine wpL_seqV ?_
        by_cases h35 : ((c.toNat : Nat) : Int) = 35
        · rw [if_pos (hc35.1 h35)] at hstep
          have hpos : 0 < runP (· != 10) (c :: r) := runP_pos (by rw [hc35.1 h35]; decide)
          have hle := runP_le (· != 10) (c :: r)
          rw [List.length_cons] at hle
          push_cast -dsimp [h35]
          -- 1 the loop; (· != 10) what a byte is asked; w' the world; 5 the slot
          refine wpL_cutB [5, 28, 29, 30, 31, 32, 33, 34, 35, 36, 37, 38, 39] (fun z wx => ∃ k : Nat, z 5 = .int .i64 k ∧ k = i + runP (· != 10) (c :: r) ∧ wx = w') ?_ ?_
          · refine wpL_loop [5, 28, 29, 30, 31, 32, 33, 34, 35, 36, 37, 38, 39] (fun z wx => ∃ k : Nat, z 5 = .int .i64 k ∧ i ≤ k ∧ k ≤ s.length ∧ (∀ j, i ≤ j → j < k → (· != 10) (s.getD j 0) = true) ∧ wx = w') (fun z wx => s.length - (intOf (z 5)).toNat) ?_ ?_
            · exact ⟨i, rfl, Nat.le_refl _, hi, fun j h1 h2 => by omega, rfl⟩
            · rintro z2 w2 ⟨k, hz, hk1, hk2, hall, rfl⟩
              have hnx : (· != 10) (s.getD k 0) = true → ∀ j, i ≤ j → j < k + 1 → (· != 10) (s.getD j 0) = true := fun hb j h1 h2 => by
                by_cases h : j < k
                · exact hall j h1 h
                · rw [show j = k by omega]; exact hb
              have hend : (k = s.length ∨ (· != 10) (s.getD k 0) = false) → k = i + runP (· != 10) (c :: r) := fun h => by rw [← hcr]; exact runP_from hk1 hk2 hall h
              push_cast -dsimp [hz]
              refine ⟨fun hkl => ⟨⟨by omega, by omega⟩, ?_⟩, fun hkl => ⟨k, rfl, hend (.inl (by omega))⟩⟩
              refine ⟨fun h => ⟨⟨by omega, by omega⟩, ⟨k + 1, rfl, by omega, by omega, hnx ((bne_ten _).trans (decide_eq_true h))⟩, by simp only [intOf]; omega⟩, fun h => ⟨k, rfl, hend (.inr ((bne_ten _).trans (decide_eq_false h)))⟩⟩
          · rintro z2 w2 ⟨k, hz, hk, rfl⟩
            push_cast -dsimp [hz]
            exact ⟨⟨m', k, acc, _, rfl, hz4, by omega, by rw [hk, hdr]; simp; omega, hacc, by rw [hk, hdr]; exact hstep, hO, hF, hb⟩, by simp only [intOf, hz5]; omega⟩
        · rw [if_neg (fun h => h35 (hc35.2 h))] at hstep
          have hn := nextT_cons c r
          push_cast -dsimp [h35]
          refine wpL_seqV ?_
          push_cast -dsimp
          refine allocK (z := [.int .i64 0, str [], .int .i64 0]) (by kernel_rfl) ?_
          intro w4 hw4
          have z4 := hw4.size
          push_cast -dsimp
          refine storeAgg (xt := 55) (n := 3) (by kernel_rfl) hw4.blk rfl (by decide) (by simp; exact ⟨rfl, rfl, rfl⟩) ?_
          intro w5 hw5
          have hgt : ∃ tb, tb = w'.heap.size := ⟨_, rfl⟩
          obtain ⟨tb, htb⟩ := hgt
          have T5 : Blk w5 tb 55 [.int .i64 0, str [], .int .i64 i] := by rw [htb]; exact hw5.blk
          have z5 := hw5.size
          have k5 : Kept (fun _ => False) w' w5 := Kept.of_below (hw4.below.trans (hw5.kept.below (B := w'.heap.size) (by omega) (fun i h => by omega))) (fun i h1 h2 => by omega)
          rw [← htb]
          push_cast -dsimp
          refine wpL_seqC [7, 9, 42, 43, 44, 45, 46, 47, 48, 49, 50, 51, 52, 53, 54, 55, 56, 57, 58, 59, 60, 61, 62, 63, 64, 65, 66, 67, 68, 69, 70, 71, 72, 73, 74, 75, 76, 77, 78, 79, 80, 81, 82, 83, 84, 85, 86, 87, 88, 89, 90, 91, 92, 93, 94, 95, 96, 97, 98, 99, 100, 101, 102] (fun z wx => ∃ k n kk : Nat, z 7 = .int .i64 k ∧ k = i + n ∧ nextT (c :: r) = (kk, n) ∧ Blk wx tb 55 [.int .i64 kk, str [], .int .i64 i] ∧ Kept (· = tb) w5 wx) ?_ ?_
          · push_cast -dsimp
            refine callK_of (low_c c w5) ?_
            rintro _ wq ⟨rfl, hwq⟩
            obtain rfl : w5 = wq := hwq.symm
            cases h1 : letterP c with
            | true =>
              rw [h1, if_pos rfl] at hn
              push_cast -dsimp
              refine storeK_of T5 (by simp) rfl ?_
              intro w6 hw6
              have T6 : Blk w6 tb 55 [.int .i64 1, str [], .int .i64 i] := hw6.blk
              have k6 := hw6.kept
              push_cast -dsimp
              -- 2 the loop; (fun c => letterP c || digitP c) what a byte is asked; w6 the world; 7 the slot
              refine wpL_cutB [7, 55, 56, 57, 58, 59, 60, 61, 62, 63, 64, 65, 66, 67, 68, 69, 70, 71, 72] (fun z wx => ∃ k : Nat, z 7 = .int .i64 k ∧ k = i + runP (fun c => letterP c || digitP c) (c :: r) ∧ wx = w6) ?_ ?_
              · refine wpL_loop [7, 55, 56, 57, 58, 59, 60, 61, 62, 63, 64, 65, 66, 67, 68, 69, 70, 71, 72] (fun z wx => ∃ k : Nat, z 7 = .int .i64 k ∧ i ≤ k ∧ k ≤ s.length ∧ (∀ j, i ≤ j → j < k → (fun c => letterP c || digitP c) (s.getD j 0) = true) ∧ wx = w6) (fun z wx => s.length - (intOf (z 7)).toNat) ?_ ?_
                · exact ⟨i, rfl, Nat.le_refl _, hi, fun j h1 h2 => by omega, rfl⟩
                · rintro z2 w2 ⟨k, hz, hk1, hk2, hall, rfl⟩
                  have hnx : (fun c => letterP c || digitP c) (s.getD k 0) = true → ∀ j, i ≤ j → j < k + 1 → (fun c => letterP c || digitP c) (s.getD j 0) = true := fun hb j h1 h2 => by
                    by_cases h : j < k
                    · exact hall j h1 h
                    · rw [show j = k by omega]; exact hb
                  have hend : (k = s.length ∨ (fun c => letterP c || digitP c) (s.getD k 0) = false) → k = i + runP (fun c => letterP c || digitP c) (c :: r) := fun h => by rw [← hcr]; exact runP_from hk1 hk2 hall h
                  push_cast -dsimp [hz]
                  refine ⟨fun hkl => ⟨⟨by omega, by omega⟩, ?_⟩, fun hkl => ⟨k, rfl, hend (.inl (by omega))⟩⟩
                  skip
                  refine callK_of (low_c (s.getD k 0) w2) ?_
                  rintro _ wq ⟨rfl, hwq⟩
                  obtain rfl : w2 = wq := hwq.symm
                  cases hl : letterP (s.getD k 0) with
                  | true =>
                    push_cast -dsimp
                    exact ⟨⟨by omega, by omega⟩, ⟨k + 1, rfl, by omega, by omega, hnx (by show (letterP _ || digitP _) = true; rw [hl]; rfl)⟩, by simp only [intOf, hz]; omega⟩
                  | false =>
                    push_cast -dsimp
                    refine ⟨⟨by omega, by omega⟩, ?_⟩
                    refine callK_of (dig_c (s.getD k 0) w2) ?_
                    rintro _ wq ⟨rfl, hwq⟩
                    obtain rfl : w2 = wq := hwq.symm
                    cases hd : digitP (s.getD k 0) with
                    | true =>
                      push_cast -dsimp
                      exact ⟨⟨by omega, by omega⟩, ⟨k + 1, rfl, by omega, by omega, hnx (by show (letterP _ || digitP _) = true; rw [hd, Bool.or_true])⟩, by simp only [intOf, hz]; omega⟩
                    | false =>
                      push_cast -dsimp
                      exact ⟨k, rfl, hend (.inr (by show (letterP _ || digitP _) = false; rw [hl, hd]; rfl))⟩
              · rintro z2 w7 ⟨k, hz, hk, rfl⟩
                push_cast -dsimp [hz]
                exact ⟨k, _, 1, rfl, hk, hn, T6, k6⟩
            | false =>
              rw [h1, if_neg (by decide)] at hn
              push_cast -dsimp
              refine callK_of (dig_c c w5) ?_
              rintro _ wq ⟨rfl, hwq⟩
              obtain rfl : w5 = wq := hwq.symm
              cases h2 : digitP c with
              | true =>
                rw [h2, if_pos rfl] at hn
                push_cast -dsimp
                refine storeK_of T5 (by simp) rfl ?_
                intro w6 hw6
                have T6 : Blk w6 tb 55 [.int .i64 2, str [], .int .i64 i] := hw6.blk
                have k6 := hw6.kept
                push_cast -dsimp
                -- 3 the loop; digitP what a byte is asked; w6 the world; 7 the slot
                refine wpL_cutB [7, 77, 78, 79, 80, 81, 82, 83, 84, 85, 86, 87, 88] (fun z wx => ∃ k : Nat, z 7 = .int .i64 k ∧ k = i + runP digitP (c :: r) ∧ wx = w6) ?_ ?_
                · refine wpL_loop [7, 77, 78, 79, 80, 81, 82, 83, 84, 85, 86, 87, 88] (fun z wx => ∃ k : Nat, z 7 = .int .i64 k ∧ i ≤ k ∧ k ≤ s.length ∧ (∀ j, i ≤ j → j < k → digitP (s.getD j 0) = true) ∧ wx = w6) (fun z wx => s.length - (intOf (z 7)).toNat) ?_ ?_
                  · exact ⟨i, rfl, Nat.le_refl _, hi, fun j h1 h2 => by omega, rfl⟩
                  · rintro z2 w2 ⟨k, hz, hk1, hk2, hall, rfl⟩
                    have hnx : digitP (s.getD k 0) = true → ∀ j, i ≤ j → j < k + 1 → digitP (s.getD j 0) = true := fun hb j h1 h2 => by
                      by_cases h : j < k
                      · exact hall j h1 h
                      · rw [show j = k by omega]; exact hb
                    have hend : (k = s.length ∨ digitP (s.getD k 0) = false) → k = i + runP digitP (c :: r) := fun h => by rw [← hcr]; exact runP_from hk1 hk2 hall h
                    push_cast -dsimp [hz]
                    refine ⟨fun hkl => ⟨⟨by omega, by omega⟩, ?_⟩, fun hkl => ⟨k, rfl, hend (.inl (by omega))⟩⟩
                    skip
                    refine callK_of (dig_c (s.getD k 0) w2) ?_
                    rintro _ wq ⟨rfl, hwq⟩
                    obtain rfl : w2 = wq := hwq.symm
                    cases hd : digitP (s.getD k 0) with
                    | true =>
                      push_cast -dsimp
                      exact ⟨⟨by omega, by omega⟩, ⟨k + 1, rfl, by omega, by omega, hnx hd⟩, by simp only [intOf, hz]; omega⟩
                    | false =>
                      push_cast -dsimp
                      exact ⟨k, rfl, hend (.inr hd)⟩
                · rintro z2 w7 ⟨k, hz, hk, rfl⟩
                  push_cast -dsimp [hz]
                  exact ⟨k, _, 2, rfl, hk, hn, T6, k6⟩
              | false =>
                rw [h2, if_neg (by decide)] at hn
                push_cast -dsimp
                refine ⟨fun h3 => ?_, fun h3 => ?_⟩
                · rw [if_pos (hc91.1 h3)] at hn
                  refine storeK_of T5 (by simp) rfl ?_
                  intro w6 hw6
                  have T6 : Blk w6 tb 55 [.int .i64 3, str [], .int .i64 i] := hw6.blk
                  have k6 := hw6.kept
                  have hib := ib_run (s := c :: r) (c := 93)
                  push_cast -dsimp [hcr]
                  refine ⟨⟨by omega, by omega⟩, ?_⟩
                  refine callK_of (index_s (c :: r) 93 w6) ?_
                  rintro _ wq ⟨rfl, hwq⟩
                  obtain rfl : w6 = wq := hwq.symm
                  cases hct : (c :: r).contains 93 with
                  | true =>
                    rw [hct, if_pos rfl] at hib hn
                    have hrl2 := runP_le (· != 93) (c :: r)
                    rw [List.length_cons] at hrl2
                    push_cast -dsimp
                    exact ⟨fun _ => ⟨⟨by omega, by omega⟩, ⟨by omega, by omega⟩, i + (runP (· != 93) (c :: r) + 1), _, 3, by rw [show (i : Int) + Lib.indexByte (c :: r) 93 + 1 = ((i + (runP (· != 93) (c :: r) + 1) : Nat) : Int) by omega], rfl, hn, T6, k6⟩, fun h => by omega⟩
                  | false =>
                    rw [hct, if_neg (by decide)] at hib hn
                    push_cast -dsimp
                    exact ⟨fun h => by omega, fun _ => ⟨i, 0, 3, rfl, rfl, hn, T6, k6⟩⟩
                · rw [if_neg (fun h => h3 (hc91.2 h))] at hn
                  refine storeK_of T5 (by simp) rfl ?_
                  intro w6 hw6
                  have T6 : Blk w6 tb 55 [.int .i64 4, str [], .int .i64 i] := hw6.blk
                  have k6 := hw6.kept
                  have hone : (s.take ((i : Int) + 1).toNat).drop i = [c] := by rw [show ((i : Int) + 1).toNat = i + 1 by omega, List.drop_take, hcr, show i + 1 - i = 1 by omega]; rfl
                  push_cast -dsimp [hone]
                  refine ⟨⟨by omega, by omega⟩, ⟨by omega, by omega, by omega⟩, ?_⟩
                  refine callK_of (markHas_c c w6 (hg.below (hb.trans (((k5.weaken (Y := fun i => w'.heap.size ≤ i) (fun i _ h => h.elim)).trans k6 (fun i h1 h2 => by omega)).below (B := w.heap.size) hzb (fun i h => by omega)))).t) ?_
                  rintro _ wq ⟨rfl, hwq⟩
                  obtain rfl : w6 = wq := hwq.symm
                  cases hct : markL.contains c with
                  | true =>
                    rw [hct, if_pos rfl] at hn
                    push_cast -dsimp
                    exact ⟨⟨by omega, by omega⟩, i + 1, 1, 4, rfl, rfl, hn, T6, k6⟩
                  | false =>
                    rw [hct, if_neg (by decide)] at hn
                    push_cast -dsimp
                    exact ⟨i, 0, 4, rfl, rfl, hn, T6, k6⟩
          · rintro z2 w6 ⟨k, n, kk, hz7, hk, hn2, T6, k6⟩
            refine wpL_of ?_
            have hle := nextT_le c r
            rw [hn2] at hle hstep
            dsimp only at hle hstep
            rw [List.length_cons] at hle
            have hfl := hF.lt
            have F6 := (hF.kept k5 (fun h => h)).kept k6 (by omega)
            have kk6 : Kept (fun i => w'.heap.size ≤ i) w' w6 := (k5.weaken (fun i _ h => h.elim)).trans k6 (fun i h1 h2 => by omega)
            have b6 := hb.trans (kk6.below (B := w.heap.size) hzb (fun i h => by omega))
            have z6 := k6.size
            push_cast -dsimp [hz7]
            refine ⟨fun h0 => ?_, fun h0 => ?_⟩
            ·
              refine storeAgg (xt := 31) (n := 2) (by kernel_rfl) F6 rfl (by decide) (by simp; exact ⟨rfl, rfl⟩) ?_
              intro w7 hw7
              have F7 : Blk w7 w.heap.size 31 [.int .i64 (3 : Nat), .int .i64 i] := hw7.blk
              have d7 : cellsAt w7 ⟨w.heap.size, 0, none⟩ 0 2 = some [.int .i64 (3 : Nat), .int .i64 i] := F7.cellsAt
              have b7 := b6.trans (hw7.kept.below (B := w.heap.size) (by omega) (fun i h => by omega))
              push_cast -dsimp [d7]
              exact ⟨.inr ⟨3, i, by rw [← hstep, if_pos (show n = 0 by omega)], by decide, rfl⟩, b7⟩
            · rw [if_neg (by omega)] at hstep
              push_cast -dsimp [hz4]
              refine ⟨fun h500 => ?_, fun h500 => ?_⟩
              ·
                refine storeAgg (xt := 31) (n := 2) (by kernel_rfl) F6 rfl (by decide) (by simp; exact ⟨rfl, rfl⟩) ?_
                intro w7 hw7
                have F7 : Blk w7 w.heap.size 31 [.int .i64 (4 : Nat), .int .i64 i] := hw7.blk
                have d7 : cellsAt w7 ⟨w.heap.size, 0, none⟩ 0 2 = some [.int .i64 (4 : Nat), .int .i64 i] := F7.cellsAt
                have b7 := b6.trans (hw7.kept.below (B := w.heap.size) (by omega) (fun i h => by omega))
                push_cast -dsimp [d7]
                exact ⟨.inr ⟨4, i, by rw [← hstep, if_pos (show acc.length = 500 by omega)], by decide, rfl⟩, b7⟩
              · rw [if_neg (by omega)] at hstep
                have htxt : (s.take k).drop i = (c :: r).take n := by rw [List.drop_take, hcr]; congr 1; omega
                have hpc : partCells [(0, Value.agg #[.int .i64 kk, str ((c :: r).take n), .int .i64 i])] = [(⟨kk, (c :: r).take n, i⟩ : Cae.Tok)].flatMap encTok := rfl
                push_cast -dsimp [htxt]
                refine ⟨⟨by omega, by omega, by omega⟩, ?_⟩
                refine storeK_of T6 (by simp) rfl ?_
                intro w7 hw7
                have T7 : Blk w7 tb 55 [.int .i64 kk, str ((c :: r).take n), .int .i64 i] := hw7.blk
                have d7 : cellsAt w7 ⟨tb, 0, none⟩ 0 3 = some [.int .i64 kk, str ((c :: r).take n), .int .i64 i] := T7.cellsAt
                have k7 := kk6.trans hw7.kept (fun i h1 h2 => by omega)
                have z7 := hw7.size
                have b7 := hb.trans (k7.below (B := w.heap.size) hzb (fun i h => by omega))
                have F7 := F6.kept hw7.kept (by omega)
                have O7 := hO.keptX k7 (fun g hg h => by have := (hO.block g hg).2; omega)
                push_cast -dsimp [d7]
                refine rowK elI_47 rfl rfl (by omega) ?_
                rw [hpc]
                intro w8 hw8
                have hO8 := O7.new hw8
                have z8 := hw8.size
                have b8 := b7.trans (hw8.below.mono b7.size)
                have F8 := F7.below hw8.below F7.lt
                push_cast -dsimp [hz4]
                refine appendK2 (base := w.heap.size + 1) [⟨kk, (c :: r).take n, i⟩] (enc := encTok) elI_47 hO8 (by rfl) (fun j y hy => by rw [Nat.zero_add]; exact hw8.cell hy) encTok_one (by simp only [List.length_cons, List.length_nil]; omega) (by omega) ?_
                intro v9 w9 hO9 hg9 hn9
                have kg := Kept.grown hg9 (X := fun j => (Value.slice va acc.length vc).ownBlock = some j) (fun _ h => h)
                have b9 := b8.trans (kg.below (B := w.heap.size) (by omega) (fun i h => by have := (hO8.block i h).1; omega))
                have F9 := F8.kept kg (fun h => by have := (hO8.block _ h).1; omega)
                push_cast -dsimp
                exact ⟨⟨m', k, acc ++ [⟨kk, (c :: r).take n, i⟩], v9, rfl, rfl, by omega, by rw [hk, hdr]; simp; omega, by rw [List.length_append, List.length_singleton]; omega, by rw [hk, hdr]; exact hstep, hO9, F9, b9⟩, by simp only [intOf, hz5]; omega⟩
  · have hgw := hg.below hb
    have hend : s.drop i = [] := List.drop_eq_nil_iff.2 (by omega)
    have hok : tokP s = .ok (acc ++ [⟨5, [], s.length⟩]) := by
      rw [← hm2, hend, tokLoop, show i = s.length by omega]
    have hpc : partCells [(0, Value.agg #[.int .i64 5, str [], .int .i64 s.length])] = [(⟨5, [], s.length⟩ : Cae.Tok)].flatMap encTok := rfl
    refine wpL_draw (fun w'' => cellsAt w'' ⟨0, 0, none⟩ 0 2 = some [.int .i64 0, .int .i64 (-1)]) mixed (by kernel_rfl) (fault_agg (w := w'.drew) (hgw.below (below_drewR w'))) ?_
    have zd : w'.drew.heap.size = w'.heap.size := rfl
    have bd := hb.trans ((below_drewR w').mono hzb)
    have hOd := hO.keptX (Kept.refl (fun _ => False) w').drew (fun _ _ h => h)
    have hFd := hF.drew
    push_cast -dsimp [hz4]
    refine rowK elI_47 rfl rfl (by omega) ?_
    rw [hpc]
    intro w4 hw4
    have hO4 := hOd.new hw4
    have z4' := hw4.size
    have b4 := bd.trans (hw4.below.mono (by omega))
    have F4 := hFd.below hw4.below hFd.lt
    refine ⟨fault_agg (hg.below b4), ?_⟩
    push_cast -dsimp
    refine appendK2 (base := w.heap.size + 1) [⟨5, [], s.length⟩] (enc := encTok) elI_47 hO4 (by rfl) (fun j y hy => by rw [Nat.zero_add]; exact hw4.cell hy) encTok_one (by simp only [List.length_cons, List.length_nil]; omega) (by omega) ?_
    intro v5 w5 hO5 hg5 hn5
    have kg := Kept.grown hg5 (X := fun j => (Value.slice va acc.length vc).ownBlock = some j) (fun _ h => h)
    have b5 := b4.trans (kg.below (B := w.heap.size) (by omega) (fun i h => by have := (hO4.block i h).1; omega))
    have F5 := F4.kept kg (fun h => by have := (hO4.block _ h).1; omega)
    have d5 := fault_agg (hg.below b5)
    have hsh := hO5.slice
    obtain ⟨a5, c5, rfl⟩ := hsh
    refine ⟨d5, ?_⟩
    push_cast -dsimp [d5]
    refine ⟨fun w'' h => by rw [h]; exact rfl, ?_⟩
    refine storeAgg (xt := 31) (n := 2) (by kernel_rfl) F5 rfl (by decide) (by simp; exact ⟨rfl, rfl⟩) ?_
    intro w6 hw6
    have F6 : Blk w6 w.heap.size 31 [.int .i64 0, .int .i64 (-1)] := hw6.blk
    have d6 : cellsAt w6 ⟨w.heap.size, 0, none⟩ 0 2 = some [.int .i64 0, .int .i64 (-1)] := F6.cellsAt
    have b6 := b5.trans (hw6.kept.below (B := w.heap.size) b5.size (fun i h => by omega))
    refine ⟨fault_agg (hg.below b6), ?_⟩
    push_cast -dsimp [d6]
    exact ⟨.inl ⟨_, _, hok, rfl, (hO5.keptX hw6.kept (fun g hg h => by have := (hO5.block g hg).1; omega)).mono (by omega)⟩, b6⟩
end Go.Proofs.YtphebgkbkdjjoaaGreatDoor
end
section
/- The reference's name and number. -/
namespace Go.Proofs.YtphebgkbkdjjoaaGreatDoor
open Go.Vc Go.Proofs Go.RowKit Cae
set_option maxRecDepth 100000
set_option linter.unusedSimpArgs false
set_option linter.unusedVariables false
attribute [local irreducible] wpL callK valK unitK runK Fun Sl Vc.Own vc vcOps opK pureK
set_option maxHeartbeats 4000000
theorem Kept.rb {rb B : Nat} {w w' : World} (hl : B ≤ w.heap.size) (hr : rb < B) (hb : Below w.heap.size w w') : Kept (· = rb) w w' := Kept.of_below hb (fun i h1 h2 => by omega)
section
variable {rb B : Nat} {w : World} {l : List Cae.Tok} {bad : Option (Nat × Nat)} (h : RS rb B w l bad)
include h
theorem rname_c : Rc 18 [.pointer (some ⟨rb, 0, none⟩)] rb B w l bad nameP (fun _ r n => r = str n) (fun r => ∃ n, r = str n) := by
  obtain ⟨t, r, rfl⟩ := h.cons
  obtain ⟨b, o, c, hB, hc, hne, c0, c1, c2, c3⟩ := h.hd
  have cb : w.cell? ⟨rb, 0, none⟩ = some (.slice (some ⟨b, o, none⟩) (r.length + 1) c) := hB.cell rfl
  have hle := h.le
  have hlt := h.lt
  refine fun_of_vc Tryz.func18 rfl (by kernel_rfl) [2] rfl ?_
  push_cast -dsimp (maxSteps := 4000000) [Tryz.ntmps18]
  push_cast -dsimp [cb, Nat.zero_mul, Nat.add_zero, c3]
  refine ⟨by omega, ?_⟩
  refine allocK (z := [.int .i64 0, str [], .int .i64 0]) (by kernel_rfl) ?_
  intro w1 hw1
  have z1 := hw1.size
  have P1 := h.below hw1.below
  push_cast -dsimp
  refine storeAgg (xt := 55) (n := 3) (by kernel_rfl) hw1.blk rfl (by decide) (by simp; exact ⟨rfl, rfl, rfl⟩) ?_
  intro w2 hw2
  have z2 := hw2.size
  have B2 : Blk w2 w.heap.size 55 [.int .i64 t.kind, str t.text, .int .i64 t.pos] := hw2.blk
  have P2 := P1.keptB hw2.kept (fun i hi => by omega)
  have b2 := hw1.below.trans (hw2.kept.below (B := w.heap.size) (by omega) (fun i h => by omega))
  push_cast -dsimp
  refine callK_of (risName_c P2) ?_
  rintro _ w3 ⟨rfl, hb3⟩
  have P3 := P2.below hb3
  have B3 := B2.below hb3 (by omega)
  have k3 : Kept (· = rb) w w3 := Kept.rb hle hlt (b2.trans (hb3.mono (by omega)))
  unfold RRes
  cases hnm : namedP (t :: r) with
  | false =>
    have heo : outP bad nameP (t :: r) = .error (bad.getD (3, (Cae.hd (t :: r)).pos)) := by
      cases bad with
      | none => unfold outP nameP pif; rw [hnm]; rfl
      | some e => rfl
    push_cast -dsimp
    refine callK_of (rfails_c P3 3 (by decide)) ?_
    rintro _ w4 ⟨rfl, P4, k4⟩
    have B4 := B3.kept k4 (by omega)
    have d4 : w4.cell? ⟨w.heap.size, 1, none⟩ = some (str t.text) := B4.cell rfl
    have k4' := k3.trans k4 (fun i _ h => h)
    push_cast -dsimp [d4]
    refine ⟨fun hl => ?_, fun hl => ?_⟩
    · refine callK_of (rfails_c P4 4 (by decide)) ?_
      rintro _ w5 ⟨rfl, P5, k5⟩
      have B5 := B4.kept k5 (by omega)
      have k5' := k4'.trans k5 (fun i _ h => h)
      push_cast -dsimp
      -- w5: the world, P5: its reader, B5: the token's block, k5': Kept
      refine callK_of (rok_c P5) ?_
      rintro _ wo ⟨rfl, hbo⟩
      have do1 : wo.cell? ⟨w.heap.size, 1, none⟩ = some (str t.text) := (Blk.below B5 hbo (Blk.lt B5)).cell rfl
      have Po := (P5).below hbo
      have ko2 : Kept (· = rb) w wo := Kept.trans k5' (Kept.rb (P5).le (P5).lt hbo) (fun i _ h => h)
      push_cast -dsimp [do1]
      refine ⟨ko2, ?_⟩
      rw [heo]
      exact ⟨⟨_, rfl⟩, _, Po⟩
    ·
      -- w4: the world, P4: its reader, B4: the token's block, k4': Kept
      refine callK_of (rok_c P4) ?_
      rintro _ wo ⟨rfl, hbo⟩
      have do1 : wo.cell? ⟨w.heap.size, 1, none⟩ = some (str t.text) := (Blk.below B4 hbo (Blk.lt B4)).cell rfl
      have Po := (P4).below hbo
      have ko2 : Kept (· = rb) w wo := Kept.trans k4' (Kept.rb (P4).le (P4).lt hbo) (fun i _ h => h)
      push_cast -dsimp [do1]
      refine ⟨ko2, ?_⟩
      rw [heo]
      exact ⟨⟨_, rfl⟩, _, Po⟩
  | true =>
    have d3 : w3.cell? ⟨w.heap.size, 1, none⟩ = some (str t.text) := B3.cell rfl
    push_cast -dsimp [d3]
    refine ⟨fun hl => ?_, fun hl => ?_⟩
    · have hlo : longP (t :: r) = true := decide_eq_true (show 10 < t.text.length by omega)
      have heo : outP bad nameP (t :: r) = .error (bad.getD (4, (Cae.hd (t :: r)).pos)) := by
        cases bad with
        | none => unfold outP nameP pif; rw [hnm, hlo]; rfl
        | some e => rfl
      refine callK_of (rfails_c P3 4 (by decide)) ?_
      rintro _ w5 ⟨rfl, P5, k5⟩
      have B5 := B3.kept k5 (by omega)
      have k5' := k3.trans k5 (fun i _ h => h)
      push_cast -dsimp
      -- w5: the world, P5: its reader, B5: the token's block, k5': Kept
      refine callK_of (rok_c P5) ?_
      rintro _ wo ⟨rfl, hbo⟩
      have do1 : wo.cell? ⟨w.heap.size, 1, none⟩ = some (str t.text) := (Blk.below B5 hbo (Blk.lt B5)).cell rfl
      have Po := (P5).below hbo
      have ko2 : Kept (· = rb) w wo := Kept.trans k5' (Kept.rb (P5).le (P5).lt hbo) (fun i _ h => h)
      push_cast -dsimp [do1]
      refine ⟨ko2, ?_⟩
      rw [heo]
      exact ⟨⟨_, rfl⟩, _, Po⟩
    · have hlo : longP (t :: r) = false := decide_eq_false (show ¬ 10 < t.text.length by omega)
      cases bad with
      | some e =>
        have heo : outP (some e) nameP (t :: r) = .error e := rfl
        -- w3: the world, P3: its reader, B3: the token's block, k3: Kept
        refine callK_of (rok_c P3) ?_
        rintro _ wo ⟨rfl, hbo⟩
        have do1 : wo.cell? ⟨w.heap.size, 1, none⟩ = some (str t.text) := (Blk.below B3 hbo (Blk.lt B3)).cell rfl
        have Po := (P3).below hbo
        have ko2 : Kept (· = rb) w wo := Kept.trans k3 (Kept.rb (P3).le (P3).lt hbo) (fun i _ h => h)
        push_cast -dsimp [do1]
        refine ⟨ko2, ?_⟩
        rw [heo]
        exact ⟨⟨_, rfl⟩, _, Po⟩
      | none =>
        have h5 : t.kind ≠ 5 := by
          have hn : namedP (t :: r) = (t.kind == 1 && !keptP t.text) := rfl
          rw [hn] at hnm
          simp at hnm
          omega
        refine callK_of (rok_c P3) ?_
        rintro _ w4 ⟨rfl, hb4⟩
        have P4 := P3.below hb4
        have B4 := B3.below hb4 (by have := B3.lt; omega)
        obtain ⟨b', o', c', hB4, hc4, _⟩ := P4.hd
        have cb4 : w4.cell? ⟨rb, 0, none⟩ = some (.slice (some ⟨b', o', none⟩) (r.length + 1) c') := hB4.cell rfl
        push_cast -dsimp [cb4, slice1]
        refine ⟨by omega, ?_⟩
        refine storeK_of hB4 (by simp) rfl ?_
        intro w5 hw5
        have P5 := P4.pop hB4 h5 hw5
        have B5 := B4.kept hw5.kept (by omega)
        have d5 : w5.cell? ⟨w.heap.size, 1, none⟩ = some (str t.text) := B5.cell rfl
        have k5 := (k3.trans (Kept.rb P3.le P3.lt hb4) (fun i _ h => h)).trans hw5.kept (fun i _ h => h)
        push_cast -dsimp [d5]
        refine ⟨k5, ?_⟩
        have heo : outP none nameP (t :: r) = .ok (t.text, r) := by unfold outP; simp [nameP, pif, hnm, hlo, Cae.pb, peek, popP, pr, h5, Cae.hd]
        rw [heo]
        exact ⟨rfl, P5⟩
theorem rnumber_c : Rc 64 [.pointer (some ⟨rb, 0, none⟩)] rb B w l bad timesP (fun _ r n => r = .int .i64 (n : Int) ∧ n ≤ 12) (fun r => r = .int .i64 0) := by
  obtain ⟨t, r, rfl⟩ := h.cons
  obtain ⟨b, o, c, hB, hc, hne, c0, c1, c2, c3⟩ := h.hd
  have cb : w.cell? ⟨rb, 0, none⟩ = some (.slice (some ⟨b, o, none⟩) (r.length + 1) c) := hB.cell rfl
  have hle := h.le
  have hlt := h.lt
  refine fun_of_vc Tryz.func64 rfl (by kernel_rfl) [2] rfl ?_
  push_cast -dsimp (maxSteps := 4000000) [Tryz.ntmps64]
  push_cast -dsimp [cb, Nat.zero_mul, Nat.add_zero, c3]
  refine ⟨by omega, ?_⟩
  refine allocK (z := [.int .i64 0, str [], .int .i64 0]) (by kernel_rfl) ?_
  intro w1 hw1
  have z1 := hw1.size
  have P1 := h.below hw1.below
  push_cast -dsimp
  refine storeAgg (xt := 55) (n := 3) (by kernel_rfl) hw1.blk rfl (by decide) (by simp; exact ⟨rfl, rfl, rfl⟩) ?_
  intro w2 hw2
  have z2 := hw2.size
  have B2 : Blk w2 w.heap.size 55 [.int .i64 t.kind, str t.text, .int .i64 t.pos] := hw2.blk
  have P2 := P1.keptB hw2.kept (fun i hi => by omega)
  have b2 := hw1.below.trans (hw2.kept.below (B := w.heap.size) (by omega) (fun i h => by omega))
  have k2 : Kept (· = rb) w w2 := Kept.rb hle hlt b2
  push_cast -dsimp
  refine callK_of (rok_c P2) ?_
  rintro _ w3 ⟨rfl, hb3⟩
  have P3 := P2.below hb3
  have B3 := B2.below hb3 (by omega)
  have k3 := k2.trans (Kept.rb P2.le P2.lt hb3) (fun i _ h => h)
  have d0 : w3.cell? ⟨w.heap.size, 0, none⟩ = some (.int .i64 t.kind) := B3.cell rfl
  have d1 : w3.cell? ⟨w.heap.size, 1, none⟩ = some (str t.text) := B3.cell rfl
  unfold RRes
  cases bad with
  | some e =>
    push_cast -dsimp
    refine callK_of (rfails_c P3 3 (by decide)) ?_
    rintro _ w4 ⟨rfl, P4, k4⟩
    push_cast -dsimp
    exact ⟨k3.trans k4 (fun i _ h => h), _, P4⟩
  | none =>
    push_cast -dsimp [d0]
    refine ⟨fun hk => ?_, fun hk => ?_⟩
    · have hk2 : isKind 2 (t :: r) = false := by
        have : t.kind ≠ 2 := fun e => hk (by omega)
        simp [isKind, Cae.hd, this]
      have heo : outP none timesP (t :: r) = .error (3, (Cae.hd (t :: r)).pos) := by unfold outP timesP pif; rw [hk2]; rfl
      refine callK_of (rfails_c P3 3 (by decide)) ?_
      rintro _ w4 ⟨rfl, P4, k4⟩
      push_cast -dsimp
      rw [heo]
      exact ⟨k3.trans k4 (fun i _ h => h), _, P4⟩
    · have hkk : t.kind = 2 := by omega
      have hk2 : isKind 2 (t :: r) = true := by simp [isKind, Cae.hd, hkk]
      have hnum := h.tl.num t (by simp) hkk
      have hlong : 12 < decV t.text → outP none timesP (t :: r) = .error (4, (Cae.hd (t :: r)).pos) := fun h12 => by
        unfold outP timesP pif
        rw [hk2]
        simp [Cae.pb, peek, Cae.hd, h12, pfail]
      push_cast -dsimp [d1]
      refine callK_of (atoi_c t.text (h.tl.txt t (by simp)) hnum.1 hnum.2 w3 P3.gr.e) ?_
      rintro rv w4 ⟨hr, hb4⟩
      have P4 := P3.below hb4
      have k4 := k3.trans (Kept.rb P3.le P3.lt hb4) (fun i _ h => h)
      rcases hr with rfl | ⟨h12, v, t', p, rfl⟩
      · push_cast -dsimp
        refine ⟨fun hh => ?_, fun hh => ?_⟩
        · have heo := hlong (by omega)
          refine callK_of (rfails_c P4 4 (by decide)) ?_
          rintro _ w5 ⟨rfl, P5, k5⟩
          push_cast -dsimp
          rw [heo]
          exact ⟨k4.trans k5 (fun i _ h => h), _, P5⟩
        · have h5 : t.kind ≠ 5 := by omega
          obtain ⟨b', o', c', hB4, hc4, _⟩ := P4.hd
          have cb4 : w4.cell? ⟨rb, 0, none⟩ = some (.slice (some ⟨b', o', none⟩) (r.length + 1) c') := hB4.cell rfl
          push_cast -dsimp [cb4, slice1]
          refine ⟨by omega, ?_⟩
          refine storeK_of hB4 (by simp) rfl ?_
          intro w5 hw5
          have P5 := P4.pop hB4 h5 hw5
          have h12 : ¬ 12 < decV t.text := by omega
          have heo : outP none timesP (t :: r) = .ok (decV t.text, r) := by unfold outP timesP pif; rw [hk2]; simp [Cae.pb, peek, Cae.hd, h12, popP, h5, pr]
          push_cast -dsimp
          rw [heo]
          exact ⟨k4.trans hw5.kept (fun i _ h => h), ⟨rfl, by omega⟩, P5⟩
      · have heo := hlong h12
        push_cast -dsimp
        refine callK_of (rfails_c P4 4 (by decide)) ?_
        rintro _ w5 ⟨rfl, P5, k5⟩
        push_cast -dsimp
        rw [heo]
        exact ⟨k4.trans k5 (fun i _ h => h), _, P5⟩
end
end Go.Proofs.YtphebgkbkdjjoaaGreatDoor
end
