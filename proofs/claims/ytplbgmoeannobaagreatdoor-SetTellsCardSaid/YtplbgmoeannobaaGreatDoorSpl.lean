import Derived.Test.YtplbgmoeannobaaGreatDoorRng
import Derived.Test.YtplbgmoeannobaaGreatDoorCut
namespace Go.Proofs.YtplbgmoeannobaaGreatDoor
open Go.Vc Go.Proofs Go.RowKit Cae
set_option maxRecDepth 100000
set_option linter.unusedSimpArgs false
set_option linter.unusedVariables false
attribute [local irreducible] wpL callK valK unitK runK Fun Sl Own vc vcOps opK pureK
set_option maxHeartbeats 4000000

theorem splitSeq_c (s : List UInt8) (c : UInt8) (w : World) : Fun Tryz.prog 70 [str s, str [c], .int .i64 0] w fun r w' => r = .func (.func 103) #[] #[.pointer (some ⟨w.heap.size + 1, 0, none⟩), .pointer (some ⟨w.heap.size, 0, none⟩), .pointer (some ⟨w.heap.size + 2, 0, none⟩)] ∧ Blk w' w.heap.size 9 [str s] ∧ Blk w' (w.heap.size + 1) 9 [str [c]] ∧ Blk w' (w.heap.size + 2) 3 [.int .i64 0] ∧ w'.heap.size = w.heap.size + 3 ∧ Below w.heap.size w w' := by
  refine fun_of_vc Tryz.func70 rfl (by kernel_rfl) [6] rfl ?_
  simp -dsimp (maxSteps := 4000000) only [push_cast, fr0, Tryz.ntmps70, List.length_cons, List.length_nil, Nat.reduceAdd, Nat.reduceSub, Nat.reduceBEq, List.replicate_succ, List.replicate_zero]
  refine boxK_of ?_
  intro w1 hw1
  have sz1 := hw1.size
  simp -dsimp only [push_cast, Nat.reduceAdd, Nat.reduceLeDiff, Nat.reduceBEq, Int.reduceNe, Int.reduceEq, Int.reduceLT, Int.reduceLE]
  refine boxK_of ?_
  intro w2 hw2
  have sz2 := hw2.size
  simp -dsimp only [push_cast, Nat.reduceAdd, Nat.reduceLeDiff, Nat.reduceBEq, Int.reduceNe, Int.reduceEq, Int.reduceLT, Int.reduceLE]
  refine boxK_of ?_
  intro w3 hw3
  have sz3 := hw3.size
  simp -dsimp only [push_cast, Nat.reduceAdd, Nat.reduceLeDiff, Nat.reduceBEq, Int.reduceNe, Int.reduceEq, Int.reduceLT, Int.reduceLE, sz1, sz2]
  have b1 := (hw1.blk.below hw2.below (by omega)).below hw3.below (by omega)
  have b2 := hw2.blk.below hw3.below (by omega)
  have b3 := hw3.blk
  rw [sz1] at b2
  rw [sz2, sz1] at b3
  exact ⟨b1, b2, b3, by omega, (hw1.below.trans (hw2.below.mono (by omega))).trans (hw3.below.mono (by omega))⟩
theorem splitSeqs_c (s : List UInt8) (c : UInt8) (w : World) : Fun Tryz.prog 44 [str s, str [c]] w fun r w' => r = .func (.func 103) #[] #[.pointer (some ⟨w.heap.size + 1, 0, none⟩), .pointer (some ⟨w.heap.size, 0, none⟩), .pointer (some ⟨w.heap.size + 2, 0, none⟩)] ∧ Blk w' w.heap.size 9 [str s] ∧ Blk w' (w.heap.size + 1) 9 [str [c]] ∧ Blk w' (w.heap.size + 2) 3 [.int .i64 0] ∧ w'.heap.size = w.heap.size + 3 ∧ Below w.heap.size w w' := by
  refine fun_of_vc Tryz.func44 rfl (by kernel_rfl) [4] rfl ?_
  simp -dsimp (maxSteps := 4000000) only [push_cast, fr0, Tryz.ntmps44, List.length_cons, List.length_nil, Nat.reduceAdd, Nat.reduceSub, Nat.reduceBEq, List.replicate_succ, List.replicate_zero]
  refine callK_of (splitSeq_c s c w) ?_
  rintro _ w1 ⟨rfl, h⟩
  simp -dsimp only [push_cast, Nat.reduceAdd, Nat.reduceLeDiff, Nat.reduceBEq, Int.reduceNe, Int.reduceEq, Int.reduceLT, Int.reduceLE]
  exact h

def rdLen (w : World) (b : Nat) : Nat := match w.cell? ⟨b, 0, none⟩ with | some (.string s) => s.size | _ => 0
theorem rdLen_of {w : World} {b : Nat} {s : List UInt8} (h : w.cell? ⟨b, 0, none⟩ = some (str s)) : rdLen w b = s.length := by
  unfold rdLen; rw [h]; rfl
theorem split_it (s : List UInt8) (c : UInt8) (hs : s.length ≤ 1000000000) (n bs bp bv : Nat) (h1' : bs ≠ bp) (h2' : bs ≠ bv) (w : World) (hS : Blk w bs 9 [str s]) (hP : Blk w bp 9 [str [c]]) (hV : Blk w bv 3 [.int .i64 0]) :
    Iter Tryz.prog n 103 #[.pointer (some ⟨bp, 0, none⟩), .pointer (some ⟨bs, 0, none⟩), .pointer (some ⟨bv, 0, none⟩)] (fun x : List UInt8 => #[str x]) (fun k => k = bs) (fun k => k = bs ∨ k = bp ∨ k = bv) (fun xs => xs = splitB c s) (fun pre => pre <+: splitB c s) (fun pre x => pre ++ [x] <+: splitB c s) w := by
  intro l J Jx W hW hWs hJ hJx hY h0
  have hS : Blk W bs 9 [str s] := (hW _ hS.lt).trans hS
  have hP : Blk W bp 9 [str [c]] := (hW _ hP.lt).trans hP
  have hV : Blk W bv 3 [.int .i64 0] := (hW _ hV.lt).trans hV
  refine callsIn_of_wp Tryz.func103 rfl trivial ?_ rfl
  have c0 : W.cell? ⟨bp, 0, none⟩ = some (str [c]) := hP.cell rfl
  simp only [Tryz.ntmps103, List.size_toArray, List.length_cons, List.length_nil, Nat.reduceAdd, Nat.reduceSub, Array.replicate_succ, Array.replicate_zero, List.push_toArray, List.append_toArray, List.nil_append, List.cons_append]
  refine wpIn_seq (seqIn (ro := none) (by rfl) ?_)
  simp -dsimp only [push_cast, Nat.reduceAdd, Nat.reduceLeDiff, Nat.reduceBEq, Int.reduceNe, Int.reduceEq, Int.reduceLT, Int.reduceLE, c0]
  refine condF (by rfl) (wpIn_skip ?_)
  simp -dsimp only [push_cast, Nat.reduceAdd, Nat.reduceLeDiff, Nat.reduceBEq, Int.reduceNe, Int.reduceEq, Int.reduceLT, Int.reduceLE]
  refine wpIn_seq (wpIn_block (loopIn (ro := none) [7, 8, 29, 30, 31, 32, 33, 34, 35, 36, 37, 38, 39, 40, 41, 42, 43, 44, 45, 46, 47, 48] (fun z wx => ∃ pre rest, pre ++ splitB c rest = splitB c s ∧ J pre wx ∧ Blk wx bs 9 [str rest] ∧ Blk wx bp 9 [str [c]] ∧ Blk wx bv 3 [.int .i64 0] ∧ rest.length ≤ s.length) (fun _ wx => rdLen wx bs) ?_ ?_))
  · exact ⟨[], s, rfl, h0, hS, hP, hV, Nat.le_refl _⟩
  · intro z wx hI
    obtain ⟨pre, rest, hsp, hj, hS, hP, hV, hlr⟩ := hI
    have hrd := rdLen_of (hS.cell (o := 0) rfl)
    have cS : wx.cell? ⟨bs, 0, none⟩ = some (str rest) := hS.cell rfl
    have cP : wx.cell? ⟨bp, 0, none⟩ = some (str [c]) := hP.cell rfl
    have cV : wx.cell? ⟨bv, 0, none⟩ = some (.int .i64 0) := hV.cell rfl
    have hse := splitB_eq c rest
    refine wpIn_block (seqIn (ro := none) (by rfl) ?_)
    simp -dsimp only [push_cast, Nat.reduceAdd, Nat.reduceLeDiff, Nat.reduceBEq, Int.reduceNe, Int.reduceEq, Int.reduceLT, Int.reduceLE, cS, cP]
    refine callK_of (index_s rest c wx) ?_
    rintro _ w1 ⟨rfl, rfl⟩
    rw [ib_spec]
    simp -dsimp only [push_cast, Nat.reduceAdd, Nat.reduceLeDiff, Nat.reduceBEq, Int.reduceNe, Int.reduceEq, Int.reduceLT, Int.reduceLE]
    refine seqIn (ro := none) (by rfl) ?_
    have fin : ∀ (x : Exit) (t : Fr) (w2 : World), (x = .normal ∨ x = .ret) → ((∃ xs, xs = splitB c s ∧ J xs w2) ∨ ∃ pre, pre <+: splitB c s ∧ Jx pre w2) → bodyPost Tryz.prog Tryz.f103 (fun e W' => (∃ v, e = .returned v) ∧ ((∃ xs, xs = splitB c s ∧ J xs W') ∨ ∃ pre, pre <+: splitB c s ∧ Jx pre W')) x ⟨t.toArray, []⟩ w2 := fun x t w2 hx hh => by
      obtain ⟨vs, h1, _⟩ := resultsC_run (P := Tryz.prog) (w := w2) Tryz.f103 [] (by rfl) t (fun _ => True) trivial
      rcases hx with rfl | rfl <;> exact ⟨rfl, _, h1, ⟨_, rfl⟩, hh⟩
    cases hc : rest.contains c with
    | false =>
      simp only [Bool.false_eq_true, if_false]
      simp -dsimp only [push_cast, Nat.reduceAdd, Nat.reduceLeDiff, Nat.reduceBEq, Int.reduceNe, Int.reduceEq, Int.reduceLT, Int.reduceLE]
      rw [if_neg (by decide)]
      have hone : splitB c rest = [rest] := by rw [hse, hc, tw_all hc]; rfl
      rw [hone] at hsp
      have hy := hY pre rest w1 hj (by show pre ++ [rest] <+: _; rw [hsp]; exact List.prefix_refl _)
      refine yieldRegion (l := l) (m := n) (l1 := [_, _]) (l2 := []) (by rfl) (by rfl) (by rfl) (by rfl) ?_
      simp -dsimp only [push_cast, Nat.reduceAdd, Nat.reduceLeDiff, Nat.reduceBEq, Int.reduceNe, Int.reduceEq, Int.reduceLT, Int.reduceLE, cS]
      refine ⟨_, hy, ?_⟩
      rintro e w2 hr
      rcases hr with ⟨rfl, h1, _, _⟩ | ⟨rfl, h1⟩
      · refine ⟨true, rfl, ?_⟩
        exact fin .normal _ _ (.inl rfl) (.inl ⟨_, hsp, h1⟩)
      · refine ⟨false, rfl, ?_⟩
        exact fin .normal _ _ (.inl rfl) (.inr ⟨_, by rw [hsp]; exact List.prefix_refl _, h1⟩)
    | true =>
      simp only [if_true]
      have hlt := tw_lt hc
      rw [hc, if_pos rfl] at hse
      have hg : ∃ k, (rest.takeWhile (· != c)).length = k := ⟨_, rfl⟩
      obtain ⟨k, hk⟩ := hg
      have h1 : rest.takeWhile (· != c) = rest.take k := by rw [← hk]; exact (take_tw _ rest).symm
      have h2 : (rest.dropWhile (· != c)).drop 1 = rest.drop (k + 1) := by rw [← drop_tw, List.drop_drop, hk]
      rw [h1, h2] at hse
      rw [hk] at hlt ⊢
      have hge : decide ((k : Int) < 0) = false := decide_eq_false (by omega)
      have hy := hY pre (rest.take k) w1 hj (by show pre ++ [rest.take k] <+: _; rw [← hsp, hse]; exact ⟨splitB c (rest.drop (k + 1)), by simp⟩)
      simp -dsimp only [push_cast, Nat.reduceAdd, Nat.reduceLeDiff, Nat.reduceBEq, Int.reduceNe, Int.reduceEq, Int.reduceLT, Int.reduceLE, hge]
      refine seqIn (ro := none) (by rfl) ?_
      simp -dsimp only [push_cast, Nat.reduceAdd, Nat.reduceLeDiff, Nat.reduceBEq, Int.reduceNe, Int.reduceEq, Int.reduceLT, Int.reduceLE, cS, cV]
      have ek : ((k : Int) + 0).toNat = k := by omega
      refine ⟨by omega, by omega, ?_⟩
      rw [ek]
      refine wpIn_seq (wpIn_seq (yieldRegion (l := l) (m := n) (l1 := [_, _]) (l2 := [_]) (by rfl) (by rfl) (by rfl) (by rfl) ?_))
      simp -dsimp only [push_cast, Nat.reduceAdd, Nat.reduceLeDiff, Nat.reduceBEq, Int.reduceNe, Int.reduceEq, Int.reduceLT, Int.reduceLE]
      refine ⟨_, hy, ?_⟩
      rintro e w2 hr
      have hpre : pre ++ [rest.take k] <+: splitB c s := by rw [← hsp, hse]; exact ⟨splitB c (rest.drop (k + 1)), by simp⟩
      rcases hr with ⟨rfl, h1, hz, hsz⟩ | ⟨rfl, h1⟩
      · refine ⟨true, rfl, ?_⟩
        have hS2 : Blk w2 bs 9 [str rest] := (hz _ (.inl rfl)).trans hS
        have hP2 : Blk w2 bp 9 [str [c]] := (hz _ (.inr (.inl rfl))).trans hP
        have hV2 : Blk w2 bv 3 [.int .i64 0] := (hz _ (.inr (.inr rfl))).trans hV
        have dS : w2.cell? ⟨bs, 0, none⟩ = some (str rest) := hS2.cell rfl
        have dP : w2.cell? ⟨bp, 0, none⟩ = some (str [c]) := hP2.cell rfl
        simp -dsimp only [push_cast, Nat.reduceAdd, Nat.reduceLeDiff, Nat.reduceBEq, Int.reduceNe, Int.reduceEq, Int.reduceLT, Int.reduceLE]
        refine condF (by rfl) (wpIn_skip ?_)
        simp -dsimp only [push_cast, Nat.reduceAdd, Nat.reduceLeDiff, Nat.reduceBEq, Int.reduceNe, Int.reduceEq, Int.reduceLT, Int.reduceLE]
        refine plainIn (ro := none) (by rfl) ?_
        simp -dsimp only [push_cast, Nat.reduceAdd, Nat.reduceLeDiff, Nat.reduceBEq, Int.reduceNe, Int.reduceEq, Int.reduceLT, Int.reduceLE, dS, dP]
        have ek1 : ((k : Int) + (0 + 1)).toNat = k + 1 := by omega
        refine ⟨by omega, by omega, ?_⟩
        rw [ek1]
        refine storeK_of hS2 (by simp) rfl ?_
        intro w3 hw3
        have hP3 := hP2.kept hw3.kept (fun h => h1' h.symm)
        have hV3 := hV2.kept hw3.kept (fun h => h2' h.symm)
        have hS3 : Blk w3 bs 9 [str (rest.drop (k + 1))] := hw3.blk
        simp -dsimp only [push_cast, Nat.reduceAdd, Nat.reduceLeDiff, Nat.reduceBEq, Int.reduceNe, Int.reduceEq, Int.reduceLT, Int.reduceLE]
        refine ⟨⟨_, _, by rw [List.append_assoc, List.singleton_append, ← hse]; exact hsp, hJ _ _ _ h1 hw3.kept, hS3, hP3, hV3, by rw [List.length_drop]; omega⟩, ?_⟩
        rw [rdLen_of (hS3.cell (o := 0) rfl), hrd, List.length_drop]
        omega
      · refine ⟨false, rfl, ?_⟩
        simp -dsimp only [push_cast, Nat.reduceAdd, Nat.reduceLeDiff, Nat.reduceBEq, Int.reduceNe, Int.reduceEq, Int.reduceLT, Int.reduceLE]
        refine condT (by rfl) (wpIn_ret ?_)
        simp -dsimp only [push_cast, Nat.reduceAdd, Nat.reduceLeDiff, Nat.reduceBEq, Int.reduceNe, Int.reduceEq, Int.reduceLT, Int.reduceLE]
        exact fin .ret _ _ (.inr rfl) (.inr ⟨_, hpre, h1⟩)
end Go.Proofs.YtplbgmoeannobaaGreatDoor
