import Derived.Test.YtplbgmoeannobaaGreatDoorRof
import Derived.Test.YtplbgmoeannobaaGreatDoorPpar
namespace Cae
/-- The text of a set up to a place. -/
def textTo (s : List Rg) (i : Nat) : List UInt8 := Go.Lib.join ((s.take i).map rgP) [32]
theorem join_snoc (x : List UInt8) : ∀ (l : List (List UInt8)), Go.Lib.join (l ++ [x]) [32] = if l = [] then x else Go.Lib.join l [32] ++ 32 :: x
  | [] => by simp [Go.Lib.join_one]
  | y :: l => by
    rw [if_neg (by simp), List.cons_append, Go.Lib.join_cons, Go.Lib.join_cons]
    simp [Go.Lib.joinTail]
theorem textTo_next {s : List Rg} {i : Nat} {x : Rg} (ht : s.take (i + 1) = s.take i ++ [x]) (hi : i < s.length) : textTo s (i + 1) = (if 0 < i then textTo s i ++ [32] else []) ++ rgP x := by
  unfold textTo
  rw [ht, List.map_append, List.map_cons, List.map_nil, join_snoc]
  by_cases h : 0 < i
  · rw [if_pos h, if_neg (by
      intro e
      have := congrArg List.length e
      simp at this
      rcases this with h' | h'
      · omega
      · subst h'; simp at hi)]
    simp
  · have : i = 0 := by omega
    subst this
    simp
theorem textTo_len (s : List Rg) : ∀ i : Nat, i ≤ s.length → (textTo s i).length ≤ 20 * i
  | 0, _ => Nat.le_refl 0
  | i + 1, h => by
    have ih := textTo_len s i (by omega)
    have ht : s.take (i + 1) = s.take i ++ [s[i]'(by omega)] := (List.take_append_getElem (by omega)).symm
    have := rgP_len (s[i]'(by omega))
    rw [textTo_next ht (by omega), List.length_append]
    split
    · rw [List.length_append, List.length_singleton]; omega
    · simp; omega
end Cae
/- The reference's SetText. -/
namespace Go.Proofs.YtplbgmoeannobaaGreatDoor
open Go.Vc Go.Proofs Go.RowKit Cae
set_option maxRecDepth 100000
set_option linter.unusedSimpArgs false
set_option linter.unusedVariables false
attribute [local irreducible] wpL callK valK unitK runK Fun Sl Own vc vcOps opK pureK
set_option maxHeartbeats 4000000
theorem setTextR_c (s : List Rg) (hs : s.length < 10000000) (hr : setRight (-2) s = true) (X : Nat → Prop) (v : Value) (w : World) (hv : Sl X 2 (En encR) w v s) (h : Db w) :
    Fun Tryz.prog 23 [v] w fun r w' => r = str (printP s) ∧ Below w.heap.size w w' := by
  obtain ⟨a, c, rfl, hc⟩ := hv.shape
  refine fun_of_vc Tryz.func23 rfl (by kernel_rfl) [2] rfl ?_
  push_cast -dsimp (maxSteps := 4000000) [Tryz.ntmps23]
  refine wpL_loop [3, 4, 5, 8, 9, 10, 11, 12, 13, 14, 15, 16, 17, 18, 19, 20, 21, 22, 23, 24, 25, 26, 27, 28, 29, 30, 31, 32, 33] (fun z wx => ∃ (i : Nat), z 8 = .int .i64 i ∧ z 3 = str (textTo s i) ∧ i ≤ s.length ∧ Below w.heap.size w wx) (fun z _ => s.length - (intOf (z 8)).toNat) ?_ ?_
  · exact ⟨0, rfl, rfl, Nat.zero_le _, Below.refl _ _⟩
  · intro z wx hI
    obtain ⟨i, h8, h3, hi, hbx⟩ := hI
    have szx := hbx.size
    push_cast -dsimp [h8, h3]
    refine ⟨fun hlt => ?_, fun hge => ?_⟩
    · have hg := lt_get (l := s) (i := i) (by omega)
      obtain ⟨x, hx, hxm, _, ht⟩ := hg
      have hg := (hv.below hbx).get hx
      obtain ⟨b, o, rfl, hnb, hcell⟩ := hg
      have cx : cellsAt wx ⟨b, o + i * 2, none⟩ 0 2 = some [.int .i64 x.1, .int .i64 x.2] := cellsAt_of (encR x) 0 (fun j u hu => by simpa using hcell j u hu)
      have hxr := mem_right (by omega) hr x hxm
      have hgn : ∃ n : Nat, x.1 = n := ⟨x.1.toNat, by omega⟩
      obtain ⟨n, hn⟩ := hgn
      have hgm : ∃ m : Nat, x.2 = m := ⟨x.2.toNat, by omega⟩
      obtain ⟨m, hm⟩ := hgm
      have hT := textTo_next ht (by omega)
      have hrg : rgP x = hexP n ++ (if n < m then 45 :: hexP m else []) := by unfold rgP; rw [hn, hm]; simp
      rw [hrg] at hT
      rw [hn, hm] at cx
      push_cast -dsimp [cx]
      refine ⟨⟨by omega, by omega⟩, ?_⟩
      refine allocK (z := [.int .i64 0, .int .i64 0]) (by kernel_rfl) ?_
      intro w3 hw3
      have sz3 := hw3.size
      push_cast -dsimp
      refine storeAgg (n := 2) (by kernel_rfl) hw3.blk rfl (by simp) (by simp [Value.oneCell']) ?_
      intro w4 hw4
      have sz4 := hw4.size
      have c0 : w4.cell? ⟨wx.heap.size, 0, none⟩ = some (.int .i64 (n : Int)) := hw4.blk.cell rfl
      have c1 : w4.cell? ⟨wx.heap.size, 1, none⟩ = some (.int .i64 (m : Int)) := hw4.blk.cell rfl
      have k4 : Kept (fun j => j = wx.heap.size) wx w4 := (Kept.new hw3).trans hw4.kept (fun _ _ h => h)
      have hb4 : Below w.heap.size w w4 := hbx.trans (k4.below szx (fun _ h => by omega))
      have hTl := textTo_len s i hi
      have hL1 := hexP_len n
      have hL2 := hexP_len m
      have key : ∀ P : List UInt8, P = (if 0 < i then textTo s i ++ [32] else []) → P.length ≤ 20 * i + 1 := fun P e => by
        rw [e]
        split
        · rw [List.length_append, List.length_singleton]; omega
        · simp
      push_cast -dsimp [c0]
      refine ⟨fun hpos => ⟨by omega, ?_⟩, fun hpos => ?_⟩
      · rw [if_pos (by omega)] at hT key
        have hP := key _ rfl
        refine callK_of (fmtI_c n (by omega) w4 (h.below hb4 h.lt)) ?_
        rintro _ w5 ⟨rfl, hb5⟩
        have hB5 := hb4.trans (hb5.mono (show w.heap.size ≤ w4.heap.size by omega))
        have c5 : w5.cell? ⟨wx.heap.size, 0, none⟩ = some (.int .i64 (n : Int)) := (hb5.cell (by show wx.heap.size < w4.heap.size; omega)).trans c0
        have c5' : w5.cell? ⟨wx.heap.size, 1, none⟩ = some (.int .i64 (m : Int)) := (hb5.cell (by show wx.heap.size < w4.heap.size; omega)).trans c1
        push_cast -dsimp [c5, c5']
        refine ⟨by first | omega | (simp only [List.length_append, List.length_singleton] at hP ⊢; omega), fun hne => ?_, fun heq => ?_⟩
        · refine callK_of (fmtI_c m (by omega) w5 (h.below hB5 h.lt)) ?_
          rintro _ w6 ⟨rfl, hb6⟩
          have hB6 := hB5.trans (hb6.mono hB5.size)
          rw [if_pos (by omega)] at hT
          push_cast -dsimp
          refine ⟨by omega, by simp only [List.length_append, List.length_cons, List.length_nil]; first | omega | (simp only [List.length_append, List.length_cons, List.length_nil] at hP; omega), ⟨by omega, by omega⟩, ⟨i + 1, rfl, ?_, by omega, hB6⟩, by rw [h8]; simp only [intOf]; omega⟩
          rw [hT]
          simp
        · rw [if_neg (by omega)] at hT
          refine ⟨⟨by omega, by omega⟩, ⟨i + 1, rfl, ?_, by omega, hB5⟩, by rw [h8]; simp only [intOf]; omega⟩
          rw [hT]
          simp
      · have hi0 : i = 0 := by omega
        rw [if_neg (by omega)] at hT key
        have hP := key _ rfl
        have h0 : textTo s i = [] := by rw [hi0]; rfl
        rw [h0]
        refine callK_of (fmtI_c n (by omega) w4 (h.below hb4 h.lt)) ?_
        rintro _ w5 ⟨rfl, hb5⟩
        have hB5 := hb4.trans (hb5.mono (show w.heap.size ≤ w4.heap.size by omega))
        have c5 : w5.cell? ⟨wx.heap.size, 0, none⟩ = some (.int .i64 (n : Int)) := (hb5.cell (by show wx.heap.size < w4.heap.size; omega)).trans c0
        have c5' : w5.cell? ⟨wx.heap.size, 1, none⟩ = some (.int .i64 (m : Int)) := (hb5.cell (by show wx.heap.size < w4.heap.size; omega)).trans c1
        push_cast -dsimp [c5, c5']
        refine ⟨by first | omega | (simp only [List.length_append, List.length_singleton] at hP ⊢; omega), fun hne => ?_, fun heq => ?_⟩
        · refine callK_of (fmtI_c m (by omega) w5 (h.below hB5 h.lt)) ?_
          rintro _ w6 ⟨rfl, hb6⟩
          have hB6 := hB5.trans (hb6.mono hB5.size)
          rw [if_pos (by omega)] at hT
          push_cast -dsimp
          refine ⟨by omega, by simp only [List.length_append, List.length_cons, List.length_nil]; first | omega | (simp only [List.length_append, List.length_cons, List.length_nil] at hP; omega), ⟨by omega, by omega⟩, ⟨i + 1, rfl, ?_, by omega, hB6⟩, by rw [h8]; simp only [intOf]; omega⟩
          rw [hT]
          simp
        · rw [if_neg (by omega)] at hT
          refine ⟨⟨by omega, by omega⟩, ⟨i + 1, rfl, ?_, by omega, hB5⟩, by rw [h8]; simp only [intOf]; omega⟩
          rw [hT]
          simp
    · have hin : i = s.length := by omega
      have hTl := textTo_len s i hi
      refine ⟨by omega, by simp only [List.length_append, List.length_singleton]; omega, ?_, hbx⟩
      unfold textTo printP
      rw [hin, List.take_length]
      simp
end Go.Proofs.YtplbgmoeannobaaGreatDoor
