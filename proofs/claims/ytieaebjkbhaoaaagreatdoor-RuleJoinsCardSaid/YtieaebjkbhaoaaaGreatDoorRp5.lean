import Derived.Test.YtieaebjkbhaoaaaGreatDoorRp4
namespace Go.Proofs.YtieaebjkbhaoaaaGreatDoor
open Go.Vc Go.Proofs Go.RowKit Cae
set_option maxRecDepth 100000
set_option linter.unusedSimpArgs false
set_option linter.unusedVariables false
attribute [local irreducible] wpL callK valK unitK runK Fun Sl Own vc vcOps opK pureK
set_option maxHeartbeats 4000000

/-! What a pattern is in memory: no block of X is read. -/
def ptrP (b : Nat) : Value := .pointer (some ⟨b, 0, none⟩)
def encP (b : Nat) : List Value := [ptrP b]
theorem encP_one (b : Nat) : ∀ u ∈ encP b, u.oneCell' = true := by
  intro u hu
  simp [encP, ptrP] at hu
  subst hu
  rfl
mutual
def PatV (X : Nat → Prop) (w : World) : Value → PatP → Prop
  | v, .one k => ∃ b u, v = .pointer (some ⟨b, 0, none⟩) ∧ ¬ X b ∧ Blk w b 90 [.int .i64 1, u, .slice none 0 0, .int .i64 0, .int .i64 0] ∧ KindV X w u k
  | v, .any => ∃ b, v = .pointer (some ⟨b, 0, none⟩) ∧ ¬ X b ∧ Blk w b 90 [.int .i64 2, .pointer none, .slice none 0 0, .int .i64 0, .int .i64 0]
  | v, .edge => ∃ b, v = .pointer (some ⟨b, 0, none⟩) ∧ ¬ X b ∧ Blk w b 90 [.int .i64 3, .pointer none, .slice none 0 0, .int .i64 0, .int .i64 0]
  | v, .cat l => ∃ b sv vs, v = .pointer (some ⟨b, 0, none⟩) ∧ ¬ X b ∧ Blk w b 90 [.int .i64 4, .pointer none, sv, .int .i64 0, .int .i64 0] ∧ Sl X 1 (En encP) w sv vs ∧ PatsV X w vs l
  | v, .alt l => ∃ b sv vs, v = .pointer (some ⟨b, 0, none⟩) ∧ ¬ X b ∧ Blk w b 90 [.int .i64 5, .pointer none, sv, .int .i64 0, .int .i64 0] ∧ Sl X 1 (En encP) w sv vs ∧ PatsV X w vs l
  | v, .many x lo hi => ∃ b sv u, v = .pointer (some ⟨b, 0, none⟩) ∧ ¬ X b ∧ Blk w b 90 [.int .i64 6, .pointer none, sv, .int .i64 lo, .int .i64 hi] ∧ Sl X 1 (En encP) w sv [u] ∧ PatV X w (ptrP u) x
def PatsV (X : Nat → Prop) (w : World) : List Nat → List PatP → Prop
  | [], [] => True
  | v :: vs, x :: l => PatV X w (ptrP v) x ∧ PatsV X w vs l
  | _, _ => False
end
mutual
theorem PatV.mono {X X' Y : Nat → Prop} {w w' : World} (hk : Kept Y w w') (hY : ∀ i, Y i → X i) (hX : ∀ i, X' i → X i) : ∀ {x : PatP} {v : Value}, PatV X w v x → PatV X' w' v x
  | .one k, v, h => by
    simp only [PatV] at h ⊢
    obtain ⟨b, u, hv, hb, hB, h⟩ := h
    exact ⟨b, u, hv, fun hh => hb (hX b hh), hB.kept hk (fun hh => hb (hY b hh)), h.mono hk hY hX⟩
  | .any, v, h => by
    simp only [PatV] at h ⊢
    obtain ⟨b, hv, hb, hB⟩ := h
    exact ⟨b, hv, fun hh => hb (hX b hh), hB.kept hk (fun hh => hb (hY b hh))⟩
  | .edge, v, h => by
    simp only [PatV] at h ⊢
    obtain ⟨b, hv, hb, hB⟩ := h
    exact ⟨b, hv, fun hh => hb (hX b hh), hB.kept hk (fun hh => hb (hY b hh))⟩
  | .cat l, v, h => by
    simp only [PatV] at h ⊢
    obtain ⟨b, sv, vs, hv, hb, hB, hs, h⟩ := h
    exact ⟨b, sv, vs, hv, fun hh => hb (hX b hh), hB.kept hk (fun hh => hb (hY b hh)), (hs.kept hk hY).weaken hX, PatsV.mono hk hY hX h⟩
  | .alt l, v, h => by
    simp only [PatV] at h ⊢
    obtain ⟨b, sv, vs, hv, hb, hB, hs, h⟩ := h
    exact ⟨b, sv, vs, hv, fun hh => hb (hX b hh), hB.kept hk (fun hh => hb (hY b hh)), (hs.kept hk hY).weaken hX, PatsV.mono hk hY hX h⟩
  | .many x lo hi, v, h => by
    simp only [PatV] at h ⊢
    obtain ⟨b, sv, u, hv, hb, hB, hs, h⟩ := h
    exact ⟨b, sv, u, hv, fun hh => hb (hX b hh), hB.kept hk (fun hh => hb (hY b hh)), (hs.kept hk hY).weaken hX, PatV.mono hk hY hX h⟩
theorem PatsV.mono {X X' Y : Nat → Prop} {w w' : World} (hk : Kept Y w w') (hY : ∀ i, Y i → X i) (hX : ∀ i, X' i → X i) : ∀ {l : List PatP} {vs : List Nat}, PatsV X w vs l → PatsV X' w' vs l
  | [], [], _ => by simp only [PatsV]
  | [], _ :: _, h => by simp only [PatsV] at h
  | _ :: _, [], h => by simp only [PatsV] at h
  | x :: l, v :: vs, h => by
    simp only [PatsV] at h ⊢
    exact ⟨PatV.mono hk hY hX h.1, PatsV.mono hk hY hX h.2⟩
end
mutual
theorem PatV.top {X : Nat → Prop} {w : World} : ∀ {x : PatP} {v : Value}, PatV X w v x → PatV (fun b => X b ∨ w.heap.size ≤ b) w v x
  | .one k, v, h => by
    simp only [PatV] at h ⊢
    obtain ⟨b, u, hv, hb, hB, h⟩ := h
    exact ⟨b, u, hv, fun hh => hh.elim hb (fun hh => by have := hB.lt; omega), hB, h.top⟩
  | .any, v, h => by
    simp only [PatV] at h ⊢
    obtain ⟨b, hv, hb, hB⟩ := h
    exact ⟨b, hv, fun hh => hh.elim hb (fun hh => by have := hB.lt; omega), hB⟩
  | .edge, v, h => by
    simp only [PatV] at h ⊢
    obtain ⟨b, hv, hb, hB⟩ := h
    exact ⟨b, hv, fun hh => hh.elim hb (fun hh => by have := hB.lt; omega), hB⟩
  | .cat l, v, h => by
    simp only [PatV] at h ⊢
    obtain ⟨b, sv, vs, hv, hb, hB, hs, h⟩ := h
    exact ⟨b, sv, vs, hv, fun hh => hh.elim hb (fun hh => by have := hB.lt; omega), hB, Sl.top (by decide) hs, PatsV.top h⟩
  | .alt l, v, h => by
    simp only [PatV] at h ⊢
    obtain ⟨b, sv, vs, hv, hb, hB, hs, h⟩ := h
    exact ⟨b, sv, vs, hv, fun hh => hh.elim hb (fun hh => by have := hB.lt; omega), hB, Sl.top (by decide) hs, PatsV.top h⟩
  | .many x lo hi, v, h => by
    simp only [PatV] at h ⊢
    obtain ⟨b, sv, u, hv, hb, hB, hs, h⟩ := h
    exact ⟨b, sv, u, hv, fun hh => hh.elim hb (fun hh => by have := hB.lt; omega), hB, Sl.top (by decide) hs, PatV.top h⟩
theorem PatsV.top {X : Nat → Prop} {w : World} : ∀ {l : List PatP} {vs : List Nat}, PatsV X w vs l → PatsV (fun b => X b ∨ w.heap.size ≤ b) w vs l
  | [], [], _ => by simp only [PatsV]
  | [], _ :: _, h => by simp only [PatsV] at h
  | _ :: _, [], h => by simp only [PatsV] at h
  | x :: l, v :: vs, h => by
    simp only [PatsV] at h ⊢
    exact ⟨PatV.top h.1, PatsV.top h.2⟩
end
theorem PatV.ptr {X : Nat → Prop} {w : World} {x : PatP} {v : Value} (h : PatV X w v x) : ∃ b, v = .pointer (some ⟨b, 0, none⟩) ∧ b < w.heap.size ∧ ¬ X b := by
  cases x <;> simp only [PatV] at h
  · obtain ⟨b, u, hv, hx, hB, _⟩ := h; exact ⟨b, hv, hB.lt, hx⟩
  · obtain ⟨b, hv, hx, hB⟩ := h; exact ⟨b, hv, hB.lt, hx⟩
  · obtain ⟨b, hv, hx, hB⟩ := h; exact ⟨b, hv, hB.lt, hx⟩
  · obtain ⟨b, _, _, hv, hx, hB, _⟩ := h; exact ⟨b, hv, hB.lt, hx⟩
  · obtain ⟨b, _, _, hv, hx, hB, _⟩ := h; exact ⟨b, hv, hB.lt, hx⟩
  · obtain ⟨b, _, _, hv, hx, hB, _⟩ := h; exact ⟨b, hv, hB.lt, hx⟩
theorem PatV.below {X : Nat → Prop} {w w' : World} {x : PatP} {v : Value} (h : PatV X w v x) (hb : Below w.heap.size w w') : PatV X w' v x :=
  h.mono (X := X) (Kept.of_below hb (X := fun _ => False) (fun i h1 h2 => by omega)) (fun _ h => h.elim) (fun _ h => h)
theorem PatsV.snoc {X : Nat → Prop} {w : World} : ∀ {l : List PatP} {vs : List Nat} {x : PatP} {v : Nat}, PatsV X w vs l → PatV X w (ptrP v) x → PatsV X w (vs ++ [v]) (l ++ [x])
  | [], [], _, _, _, hx => by
    simp only [List.nil_append, PatsV]
    exact ⟨hx, trivial⟩
  | [], _ :: _, _, _, h, _ => by simp only [PatsV] at h
  | _ :: _, [], _, _, h, _ => by simp only [PatsV] at h
  | x :: l, v :: vs, y, u, h, hx => by
    simp only [PatsV, List.cons_append] at h ⊢
    exact ⟨h.1, PatsV.snoc h.2 hx⟩
theorem PatsV.len {X : Nat → Prop} {w : World} : ∀ {l : List PatP} {vs : List Nat}, PatsV X w vs l → vs.length = l.length
  | [], [], _ => rfl
  | [], _ :: _, h => by simp only [PatsV] at h
  | _ :: _, [], h => by simp only [PatsV] at h
  | x :: l, v :: vs, h => by
    simp only [PatsV] at h
    simp [PatsV.len h.2]

def UnitC (d : Nat) : Prop := ∀ (n : Int), 0 ≤ n → n + (d : Int) = 9 → ∀ (pb B : Nat) (w : World) (l : List Tok), PS pb B w l → Pc 63 [.pointer (some ⟨pb, 0, none⟩), .int .i64 n] pb B w l (unitP d) (fun w' r x => PatV (· < w.heap.size) w' r x)
def AgainC (d : Nat) : Prop := ∀ (n : Int), 0 ≤ n → n + (d : Int) = 9 → ∀ (pb B : Nat) (w : World) (l : List Tok), PS pb B w l → Pc 51 [.pointer (some ⟨pb, 0, none⟩), .int .i64 n] pb B w l (againW d (unitP d)) (fun w' r x => PatV (· < w.heap.size) w' r x)
def RowC (d : Nat) : Prop := ∀ (n : Int), 0 ≤ n → n + (d : Int) = 9 → ∀ (pb B : Nat) (w : World) (l : List Tok), PS pb B w l → Pc 40 [.pointer (some ⟨pb, 0, none⟩), .int .i64 n] pb B w l (rowW (againW d (unitP d))) (fun w' r x => PatV (· < w.heap.size) w' r x)
def PatC (d : Nat) : Prop := ∀ (n : Int), 0 ≤ n → n + (d : Int) = 9 → ∀ (pb B : Nat) (w : World) (l : List Tok), PS pb B w l → Pc 28 [.pointer (some ⟨pb, 0, none⟩), .int .i64 n] pb B w l (patP d) (fun w' r x => PatV (· < w.heap.size) w' r x)
theorem unit_zero : UnitC 0 := by
  intro n hn0 hn pb B w l h
  refine fun2_of_vc Tryz.func63 rfl (by kernel_rfl) [.tmp 4] rfl ?_
  simp -dsimp (maxSteps := 4000000) only [push_cast, fr0, Tryz.ntmps63, List.length_cons, List.length_nil, Nat.reduceAdd, Nat.reduceSub, Nat.reduceBEq, List.replicate_succ, List.replicate_zero]
  refine callP_of (deep_c n h) ?_ ?_
  · rintro _ _ ⟨h8, rfl, rfl⟩
    omega
  · rintro c w' ⟨h8, ht, hb⟩
    simp -dsimp only [push_cast, Nat.reduceAdd, Nat.reduceLeDiff, Nat.reduceBEq, decide_true, ne_eq, eq_self, not_true_eq_false, not_false_eq_true, true_imp_iff, false_imp_iff, Int.reduceNe, Int.reduceEq, Int.reduceLT, Int.reduceLE, Bool.not_true, Bool.not_false]
    exact ⟨4, _, rfl, ht, Kept.of_below hb (fun i h1 h2 => by omega)⟩
theorem unit_succ (d : Nat) (ihp : PatC d) : UnitC (d + 1) := by
  intro n hn0 hn pb B w l0 h0
  obtain ⟨t, r, hl0⟩ := h0.tl.cons
  have hhd : Cae.hd l0 = t := by rw [hl0]; rfl
  have h0' := h0
  rw [hl0] at h0'
  obtain ⟨b, o, c, hB, hc, hne, c0, c1, c2, c3⟩ := h0'.hd
  have cb : w.cell? ⟨pb, 0, none⟩ = some (.slice (some ⟨b, o, none⟩) (r.length + 1) c) := hB.cell rfl
  have hle := h0.le
  have hlt := h0.lt
  have hunf : unitP (d + 1) l0 = pif (seeP [46]) (Cae.pb popP fun _ => pr .any)
    (pif (seeP [36]) (Cae.pb popP fun _ => pr .edge)
    (pif (seeP [40]) (Cae.pb popP fun _ => Cae.pb (patP d) fun x => Cae.pb (mustP [41]) fun _ => pr x)
    (pif unitStart (Cae.pb (oneP (d + 1)) fun k => pr (.one k)) (pfail 3)))) l0 := rfl
  refine fun2_of_vc Tryz.func63 rfl (by kernel_rfl) [.tmp 4] rfl ?_
  simp -dsimp (maxSteps := 4000000) only [push_cast, fr0, Tryz.ntmps63, List.length_cons, List.length_nil, Nat.reduceAdd, Nat.reduceSub, Nat.reduceBEq, List.replicate_succ, List.replicate_zero]
  refine callP_of (deep_c n h0) ?_ (fun c w' hh => by have := hh.1; omega)
  rintro _ w0 ⟨h8, rfl, hw0⟩
  obtain rfl : w = w0 := hw0.symm
  simp -dsimp only [push_cast, Nat.reduceAdd, Nat.reduceLeDiff, Nat.reduceBEq, decide_true, ne_eq, eq_self, not_true_eq_false, not_false_eq_true, true_imp_iff, false_imp_iff, Int.reduceNe, Int.reduceEq, Int.reduceLT, Int.reduceLE, Bool.not_true, Bool.not_false]
  refine callK_of (take_c [46] h0) ?_
  rintro _ w2 hT
  rcases hT with ⟨hs1, rfl, t1, r1, el1, h51, P2, kt, hz⟩ | ⟨hs1, rfl, hww⟩
  · have hpop : popP l0 = .ok ((), r1) := by rw [el1]; exact popP_cons h51
    simp -dsimp only [push_cast, Nat.reduceAdd, Nat.reduceLeDiff, Nat.reduceBEq, decide_true, ne_eq, eq_self, not_true_eq_false, not_false_eq_true, true_imp_iff, false_imp_iff, Int.reduceNe, Int.reduceEq, Int.reduceLT, Int.reduceLE, Bool.not_true, Bool.not_false]
    refine boxK_of ?_
    intro w3 hw3
    have B3 : Blk w3 w2.heap.size 90 [.int .i64 2, .pointer none, .slice none 0 0, .int .i64 0, .int .i64 0] := hw3.blk
    have P3 := P2.below hw3.below
    have k3 := kt.trans (Kept.new (X := (· = pb)) hw3) (fun i _ h => h)
    simp -dsimp only [push_cast, Nat.reduceAdd, Nat.reduceLeDiff, Nat.reduceBEq, decide_true, ne_eq, eq_self, not_true_eq_false, not_false_eq_true, true_imp_iff, false_imp_iff, Int.reduceNe, Int.reduceEq, Int.reduceLT, Int.reduceLE, Bool.not_true, Bool.not_false]
    refine ⟨.any, r1, ?_, ?_, P3, k3⟩
    · rw [hunf]
      unfold pif
      rw [hs1, if_pos rfl, pb_of hpop]
      rfl
    · simp only [PatV]
      exact ⟨_, rfl, by omega, B3⟩
  · obtain rfl : w = w2 := hww.symm
    simp -dsimp only [push_cast, Nat.reduceAdd, Nat.reduceLeDiff, Nat.reduceBEq, decide_true, ne_eq, eq_self, not_true_eq_false, not_false_eq_true, true_imp_iff, false_imp_iff, Int.reduceNe, Int.reduceEq, Int.reduceLT, Int.reduceLE, Bool.not_true, Bool.not_false]
    refine callK_of (take_c [36] h0) ?_
    rintro _ w2 hT
    rcases hT with ⟨hs2, rfl, t1, r1, el1, h51, P2, kt, hz⟩ | ⟨hs2, rfl, hww⟩
    · have hpop : popP l0 = .ok ((), r1) := by rw [el1]; exact popP_cons h51
      simp -dsimp only [push_cast, Nat.reduceAdd, Nat.reduceLeDiff, Nat.reduceBEq, decide_true, ne_eq, eq_self, not_true_eq_false, not_false_eq_true, true_imp_iff, false_imp_iff, Int.reduceNe, Int.reduceEq, Int.reduceLT, Int.reduceLE, Bool.not_true, Bool.not_false]
      refine boxK_of ?_
      intro w3 hw3
      have B3 : Blk w3 w2.heap.size 90 [.int .i64 3, .pointer none, .slice none 0 0, .int .i64 0, .int .i64 0] := hw3.blk
      have P3 := P2.below hw3.below
      have k3 := kt.trans (Kept.new (X := (· = pb)) hw3) (fun i _ h => h)
      simp -dsimp only [push_cast, Nat.reduceAdd, Nat.reduceLeDiff, Nat.reduceBEq, decide_true, ne_eq, eq_self, not_true_eq_false, not_false_eq_true, true_imp_iff, false_imp_iff, Int.reduceNe, Int.reduceEq, Int.reduceLT, Int.reduceLE, Bool.not_true, Bool.not_false]
      refine ⟨.edge, r1, ?_, ?_, P3, k3⟩
      · rw [hunf]
        unfold pif
        rw [hs1, hs2, if_neg (by decide), if_pos rfl, pb_of hpop]
        rfl
      · simp only [PatV]
        exact ⟨_, rfl, by omega, B3⟩
    · obtain rfl : w = w2 := hww.symm
      simp -dsimp only [push_cast, Nat.reduceAdd, Nat.reduceLeDiff, Nat.reduceBEq, decide_true, ne_eq, eq_self, not_true_eq_false, not_false_eq_true, true_imp_iff, false_imp_iff, Int.reduceNe, Int.reduceEq, Int.reduceLT, Int.reduceLE, Bool.not_true, Bool.not_false]
      refine callK_of (take_c [40] h0) ?_
      rintro _ w2 hT
      rcases hT with ⟨hs3, rfl, t1, r1, el1, h51, P2, kt, hz⟩ | ⟨hs3, rfl, hww⟩
      · have hpop : popP l0 = .ok ((), r1) := by rw [el1]; exact popP_cons h51
        have hred : unitP (d + 1) l0 = Cae.pb (patP d) (fun x => Cae.pb (mustP [41]) fun _ => pr x) r1 := by
          rw [hunf]
          unfold pif
          rw [hs1, hs2, hs3, if_neg (by decide), if_neg (by decide), if_pos rfl, pb_of hpop]
        simp -dsimp only [push_cast, Nat.reduceAdd, Nat.reduceLeDiff, Nat.reduceBEq, decide_true, ne_eq, eq_self, not_true_eq_false, not_false_eq_true, true_imp_iff, false_imp_iff, Int.reduceNe, Int.reduceEq, Int.reduceLT, Int.reduceLE, Bool.not_true, Bool.not_false]
        refine ⟨⟨by omega, by omega⟩, ?_⟩
        refine callP_of (ihp (n + 1) (by omega) (by omega) pb B w2 r1 P2) ?_ ?_
        · rintro u w3 ⟨x, l3, e3, V3, P3, k3⟩
          simp -dsimp only [push_cast, Nat.reduceAdd, Nat.reduceLeDiff, Nat.reduceBEq, decide_true, ne_eq, eq_self, not_true_eq_false, not_false_eq_true, true_imp_iff, false_imp_iff, Int.reduceNe, Int.reduceEq, Int.reduceLT, Int.reduceLE, Bool.not_true, Bool.not_false]
          refine callP_of (must_c [41] P3) ?_ ?_
          · rintro _ w4 ⟨_, l4, e4, rfl, P4, k4⟩
            simp -dsimp only [push_cast, Nat.reduceAdd, Nat.reduceLeDiff, Nat.reduceBEq, decide_true, ne_eq, eq_self, not_true_eq_false, not_false_eq_true, true_imp_iff, false_imp_iff, Int.reduceNe, Int.reduceEq, Int.reduceLT, Int.reduceLE, Bool.not_true, Bool.not_false]
            have z3 := k3.size
            refine ⟨x, l4, ?_, V3.mono k4 (fun i h => by omega) (fun i h => by omega), P4, (kt.trans k3 (fun i _ h => h)).trans k4 (fun i _ h => h)⟩
            rw [hred, pb_of e3, pb_of e4]
            rfl
          · rintro c w4 ⟨e, pos, he, ht, hk⟩
            simp -dsimp only [push_cast, Nat.reduceAdd, Nat.reduceLeDiff, Nat.reduceBEq, decide_true, ne_eq, eq_self, not_true_eq_false, not_false_eq_true, true_imp_iff, false_imp_iff, Int.reduceNe, Int.reduceEq, Int.reduceLT, Int.reduceLE, Bool.not_true, Bool.not_false]
            have z3 := k3.size
            refine ⟨e, pos, ?_, ht.mono (by omega), (kt.trans k3 (fun i _ h => h)).trans hk (fun i _ h => h)⟩
            rw [hred, pb_of e3]
            unfold Cae.pb
            rw [he]
        · rintro c w3 ⟨e, pos, he, ht, hk⟩
          simp -dsimp only [push_cast, Nat.reduceAdd, Nat.reduceLeDiff, Nat.reduceBEq, decide_true, ne_eq, eq_self, not_true_eq_false, not_false_eq_true, true_imp_iff, false_imp_iff, Int.reduceNe, Int.reduceEq, Int.reduceLT, Int.reduceLE, Bool.not_true, Bool.not_false]
          refine ⟨e, pos, ?_, ht.mono (by omega), kt.trans hk (fun i _ h => h)⟩
          rw [hred]
          unfold Cae.pb
          rw [he]
      · obtain rfl : w = w2 := hww.symm
        have hus : unitStart l0 = (t.kind == 3 || namedP l0) := by unfold unitStart isKind; rw [hhd]
        simp -dsimp only [push_cast, Nat.reduceAdd, Nat.reduceLeDiff, Nat.reduceBEq, decide_true, ne_eq, eq_self, not_true_eq_false, not_false_eq_true, true_imp_iff, false_imp_iff, Int.reduceNe, Int.reduceEq, Int.reduceLT, Int.reduceLE, Bool.not_true, Bool.not_false, cb, c0]
        have hone : unitStart l0 = true → unitP (d + 1) l0 = Cae.pb (oneP (d + 1)) (fun k => pr (.one k)) l0 := fun hu => by
          rw [hunf]
          unfold pif
          rw [hs1, hs2, hs3, hu, if_neg (by decide), if_neg (by decide), if_neg (by decide), if_pos rfl]
        refine ⟨by omega, fun h3 => ?_, fun h3 => ?_⟩
        · refine callK_of (named_c h0) ?_
          rintro _ w1 ⟨rfl, b1⟩
          have P1 := h0.below b1
          have k1 : Kept (· = pb) w w1 := Kept.of_below b1 (fun i h1 h2 => by omega)
          have z1 := b1.size
          have hk3 : (t.kind == 3) = false := by
            have : t.kind ≠ 3 := fun e => h3 (by omega)
            simpa using this
          rw [hk3, Bool.false_or] at hus
          cases hnm : namedP l0 with
          | true =>
            have hred := hone (by rw [hus, hnm])
            simp -dsimp only [push_cast, Nat.reduceAdd, Nat.reduceLeDiff, Nat.reduceBEq, decide_true, ne_eq, eq_self, not_true_eq_false, not_false_eq_true, true_imp_iff, false_imp_iff, Int.reduceNe, Int.reduceEq, Int.reduceLT, Int.reduceLE, Bool.not_true, Bool.not_false]
            refine callP_of (one_c (d + 1) n (by omega) (by omega) pb B w1 l0 P1) ?_ ?_
            · rintro u w3 ⟨k, l3, e3, V3, P3, k3⟩
              obtain ⟨ub, rfl, hub⟩ := V3.ptr
              simp -dsimp only [push_cast, Nat.reduceAdd, Nat.reduceLeDiff, Nat.reduceBEq, decide_true, ne_eq, eq_self, not_true_eq_false, not_false_eq_true, true_imp_iff, false_imp_iff, Int.reduceNe, Int.reduceEq, Int.reduceLT, Int.reduceLE, Bool.not_true, Bool.not_false]
              refine boxK_of ?_
              intro w4 hw4
              have B4 : Blk w4 w3.heap.size 90 [.int .i64 1, .pointer (some ⟨ub, 0, none⟩), .slice none 0 0, .int .i64 0, .int .i64 0] := hw4.blk
              have P4 := P3.below hw4.below
              have z3 := k3.size
              have k4 := (k1.trans k3 (fun i _ h => h)).trans (Kept.new (X := (· = pb)) hw4) (fun i _ h => h)
              simp -dsimp only [push_cast, Nat.reduceAdd, Nat.reduceLeDiff, Nat.reduceBEq, decide_true, ne_eq, eq_self, not_true_eq_false, not_false_eq_true, true_imp_iff, false_imp_iff, Int.reduceNe, Int.reduceEq, Int.reduceLT, Int.reduceLE, Bool.not_true, Bool.not_false]
              refine ⟨.one k, l3, ?_, ?_, P4, k4⟩
              · rw [hred, pb_of e3]
                rfl
              · simp only [PatV]
                exact ⟨_, _, rfl, by omega, B4, V3.mono (Kept.new (X := fun _ => False) hw4) (fun _ h => h.elim) (fun i h => by omega)⟩
            · rintro c w3 ⟨e, pos, he, ht, hk⟩
              simp -dsimp only [push_cast, Nat.reduceAdd, Nat.reduceLeDiff, Nat.reduceBEq, decide_true, ne_eq, eq_self, not_true_eq_false, not_false_eq_true, true_imp_iff, false_imp_iff, Int.reduceNe, Int.reduceEq, Int.reduceLT, Int.reduceLE, Bool.not_true, Bool.not_false]
              refine ⟨e, pos, ?_, ht.mono (by omega), k1.trans hk (fun i _ h => h)⟩
              rw [hred]
              unfold Cae.pb
              rw [he]
          | false =>
            simp -dsimp only [push_cast, Nat.reduceAdd, Nat.reduceLeDiff, Nat.reduceBEq, decide_true, ne_eq, eq_self, not_true_eq_false, not_false_eq_true, true_imp_iff, false_imp_iff, Int.reduceNe, Int.reduceEq, Int.reduceLT, Int.reduceLE, Bool.not_true, Bool.not_false]
            refine callP_of (fail_c 3 P1) (fun _ _ h => h.elim) ?_
            rintro c w4 ⟨ht, hb⟩
            simp -dsimp only [push_cast, Nat.reduceAdd, Nat.reduceLeDiff, Nat.reduceBEq, decide_true, ne_eq, eq_self, not_true_eq_false, not_false_eq_true, true_imp_iff, false_imp_iff, Int.reduceNe, Int.reduceEq, Int.reduceLT, Int.reduceLE, Bool.not_true, Bool.not_false]
            refine ⟨3, _, ?_, ht.mono (by omega), k1.trans (Kept.of_below hb (X := (· = pb)) (fun i h1 h2 => by omega)) (fun i _ h => h)⟩
            rw [hunf]
            unfold pif
            rw [hs1, hs2, hs3, hus, hnm, if_neg (by decide), if_neg (by decide), if_neg (by decide), if_neg (by decide)]
            rfl
        · have hred := hone (by
            have : t.kind = 3 := by omega
            rw [hus, this]; rfl)
          have k1 : Kept (· = pb) w w := Kept.refl _ _
          have z1 : w.heap.size ≤ w.heap.size := Nat.le_refl _
          refine callP_of (one_c (d + 1) n (by omega) (by omega) pb B w l0 h0) ?_ ?_
          · rintro u w3 ⟨k, l3, e3, V3, P3, k3⟩
            obtain ⟨ub, rfl, hub⟩ := V3.ptr
            simp -dsimp only [push_cast, Nat.reduceAdd, Nat.reduceLeDiff, Nat.reduceBEq, decide_true, ne_eq, eq_self, not_true_eq_false, not_false_eq_true, true_imp_iff, false_imp_iff, Int.reduceNe, Int.reduceEq, Int.reduceLT, Int.reduceLE, Bool.not_true, Bool.not_false]
            refine boxK_of ?_
            intro w4 hw4
            have B4 : Blk w4 w3.heap.size 90 [.int .i64 1, .pointer (some ⟨ub, 0, none⟩), .slice none 0 0, .int .i64 0, .int .i64 0] := hw4.blk
            have P4 := P3.below hw4.below
            have z3 := k3.size
            have k4 := (k1.trans k3 (fun i _ h => h)).trans (Kept.new (X := (· = pb)) hw4) (fun i _ h => h)
            simp -dsimp only [push_cast, Nat.reduceAdd, Nat.reduceLeDiff, Nat.reduceBEq, decide_true, ne_eq, eq_self, not_true_eq_false, not_false_eq_true, true_imp_iff, false_imp_iff, Int.reduceNe, Int.reduceEq, Int.reduceLT, Int.reduceLE, Bool.not_true, Bool.not_false]
            refine ⟨.one k, l3, ?_, ?_, P4, k4⟩
            · rw [hred, pb_of e3]
              rfl
            · simp only [PatV]
              exact ⟨_, _, rfl, by omega, B4, V3.mono (Kept.new (X := fun _ => False) hw4) (fun _ h => h.elim) (fun i h => by omega)⟩
          · rintro c w3 ⟨e, pos, he, ht, hk⟩
            simp -dsimp only [push_cast, Nat.reduceAdd, Nat.reduceLeDiff, Nat.reduceBEq, decide_true, ne_eq, eq_self, not_true_eq_false, not_false_eq_true, true_imp_iff, false_imp_iff, Int.reduceNe, Int.reduceEq, Int.reduceLT, Int.reduceLE, Bool.not_true, Bool.not_false]
            refine ⟨e, pos, ?_, ht.mono (by omega), k1.trans hk (fun i _ h => h)⟩
            rw [hred]
            unfold Cae.pb
            rw [he]
end Go.Proofs.YtieaebjkbhaoaaaGreatDoor
