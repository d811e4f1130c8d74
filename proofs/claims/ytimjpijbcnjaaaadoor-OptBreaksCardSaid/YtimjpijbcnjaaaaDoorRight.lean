import Derived.Test.YtimjpijbcnjaaaaDoorSet
namespace Go.Proofs.YtimjpijbcnjaaaaDoor
open Go.Vc Go.Proofs Go.RowKit Cae
set_option maxRecDepth 100000
set_option linter.unusedSimpArgs false
set_option linter.unusedVariables false
attribute [local irreducible] wpL callK valK unitK runK Fun Sl Own vc vcOps opK pureK
set_option maxHeartbeats 4000000

def encIn (x : I3) : List Value := [.int .i64 x.op, .int .i64 x.a, .int .i64 x.b]

/-- The value that a load of an element of so many cells gives. -/
def elV : List Value → Value
  | [v] => v
  | cs => .agg cs.toArray

theorem setsIndex_c {α : Type} (R : List Value → α → Prop) (g : FuncId) (cap : List Value) (f : α → Bool) (l : List α) (hl : l.length < 1000000000) (X : Nat → Prop) (v : Value) (w : World) (hv : Sl X 1 R w v l)
    (hf : ∀ x ∈ l, ∀ cs, R cs x → cs.length = 1 → ∀ w', Below w.heap.size w w' → Fun Tryd.prog g (elV cs :: cap) w' fun r w'' => r = .bool (f x) ∧ Below w'.heap.size w' w'') :
    Fun Tryd.prog 78 [v, .func (.func g) #[] cap.toArray] w fun r w' => (∃ n : Int, r = .int .i64 n ∧ (0 ≤ n ↔ l.any f = true)) ∧ Below w.heap.size w w' := by
  obtain ⟨a, c, rfl, hc⟩ := hv.shape
  refine fun_of_vc Tryd.func78 rfl (by kernel_rfl) [4] rfl ?_
  simp -dsimp only [push_cast, fr0, Tryd.ntmps78, List.length_cons, List.length_nil, Nat.reduceAdd, Nat.reduceSub, Nat.reduceBEq, List.replicate_succ, List.replicate_zero]
  refine wpL_loop [4, 5, 8, 9, 10, 11, 12, 13, 14, 15, 16, 17, 18] (fun z wx => ∃ (i : Nat), z 8 = .int .i64 i ∧ i ≤ l.length ∧ (∀ x ∈ l.take i, f x = false) ∧ Below w.heap.size w wx) (fun z _ => l.length - (intOf (z 8)).toNat) ?_ ?_
  · exact ⟨0, rfl, Nat.zero_le _, by simp, Below.refl _ _⟩
  · intro z wx hI
    obtain ⟨i, h8, hi, hok, hb⟩ := hI
    simp -dsimp only [push_cast, Nat.reduceAdd, Nat.reduceLeDiff, Nat.reduceBEq, decide_true, h8]
    refine ⟨fun hlt => ?_, fun hge => ?_⟩
    · obtain ⟨x, hx, hxm, hd, ht⟩ := lt_get (l := l) (i := i) (by omega)
      obtain ⟨b, o, cs, ha, hX, hk, hcell, hR⟩ := (hv.below hb).getR hx
      subst ha
      obtain ⟨u, rfl⟩ : ∃ u, cs = [u] := (match cs, hk with | [u], _ => ⟨u, rfl⟩); have c0 : wx.cell? ⟨b, o + i, none⟩ = some u := (by simpa using hcell 0 u rfl); simp -dsimp only [push_cast, Nat.reduceAdd, Nat.reduceLeDiff, Nat.reduceBEq, decide_true, c0]
      refine ⟨⟨by omega, by omega⟩, ?_⟩
      refine callK_of (hf x hxm _ hR rfl wx hb) ?_
      rintro _ w1 ⟨rfl, hb1⟩
      have hB1 := hb.trans (hb1.mono hb.size)
      simp -dsimp only [push_cast, Nat.reduceAdd, Nat.reduceLeDiff, Nat.reduceBEq, decide_true, condK_b]
      refine ⟨fun hyes => ?_, fun hno => ?_⟩
      · exact ⟨⟨i, rfl, ⟨fun _ => List.any_eq_true.2 ⟨x, hxm, hyes⟩, fun _ => by omega⟩⟩, hB1⟩
      · refine ⟨⟨by omega, by omega⟩, ⟨i + 1, rfl, by omega, ?_, hB1⟩, by rw [h8]; simp only [intOf]; omega⟩
        intro y hy
        rw [ht, List.mem_append, List.mem_singleton] at hy
        rcases hy with hy | rfl
        · exact hok y hy
        · exact hno
    · refine ⟨⟨-1, rfl, ?_⟩, hb⟩
      rw [List.take_of_length_le (by omega)] at hok
      constructor
      · intro h; omega
      · intro h
        obtain ⟨x, hx, hn⟩ := List.any_eq_true.1 h
        rw [hok x hx] at hn; cases hn

theorem setsContains_c {α : Type} (R : List Value → α → Prop) (g : FuncId) (cap : List Value) (f : α → Bool) (l : List α) (hl : l.length < 1000000000) (X : Nat → Prop) (v : Value) (w : World) (hv : Sl X 1 R w v l)
    (hf : ∀ x ∈ l, ∀ cs, R cs x → cs.length = 1 → ∀ w', Below w.heap.size w w' → Fun Tryd.prog g (elV cs :: cap) w' fun r w'' => r = .bool (f x) ∧ Below w'.heap.size w' w'') :
    Fun Tryd.prog 39 [v, .func (.func g) #[] cap.toArray] w fun r w' => r = .bool (l.any f) ∧ Below w.heap.size w w' := by
  refine fun_of_vc Tryd.func39 rfl (by kernel_rfl) [4] rfl ?_
  simp -dsimp only [push_cast, fr0, Tryd.ntmps39, List.length_cons, List.length_nil, Nat.reduceAdd, Nat.reduceSub, Nat.reduceBEq, List.replicate_succ, List.replicate_zero]
  refine callK_of (setsIndex_c R g cap f l hl X v w hv hf) ?_
  rintro r w1 ⟨⟨n, rfl, hn⟩, hb⟩
  simp -dsimp only [push_cast, Nat.reduceAdd, Nat.reduceLeDiff, Nat.reduceBEq, decide_true]
  refine ⟨?_, hb⟩
  congr 1
  cases h : l.any f with
  | true => rw [h] at hn; exact decide_eq_true (hn.2 rfl)
  | false => rw [h] at hn; exact decide_eq_false (fun h0 => by have := hn.1 h0; cases this)
theorem insIndex_c {α : Type} (R : List Value → α → Prop) (g : FuncId) (cap : List Value) (f : α → Bool) (l : List α) (hl : l.length < 1000000000) (X : Nat → Prop) (v : Value) (w : World) (hv : Sl X 3 R w v l)
    (hf : ∀ x ∈ l, ∀ cs, R cs x → cs.length = 3 → ∀ w', Below w.heap.size w w' → Fun Tryd.prog g (elV cs :: cap) w' fun r w'' => r = .bool (f x) ∧ Below w'.heap.size w' w'') :
    Fun Tryd.prog 49 [v, .func (.func g) #[] cap.toArray] w fun r w' => (∃ n : Int, r = .int .i64 n ∧ (0 ≤ n ↔ l.any f = true)) ∧ Below w.heap.size w w' := by
  obtain ⟨a, c, rfl, hc⟩ := hv.shape
  refine fun_of_vc Tryd.func49 rfl (by kernel_rfl) [4] rfl ?_
  simp -dsimp only [push_cast, fr0, Tryd.ntmps49, List.length_cons, List.length_nil, Nat.reduceAdd, Nat.reduceSub, Nat.reduceBEq, List.replicate_succ, List.replicate_zero]
  refine wpL_loop [4, 5, 8, 9, 10, 11, 12, 13, 14, 15, 16, 17, 18] (fun z wx => ∃ (i : Nat), z 8 = .int .i64 i ∧ i ≤ l.length ∧ (∀ x ∈ l.take i, f x = false) ∧ Below w.heap.size w wx) (fun z _ => l.length - (intOf (z 8)).toNat) ?_ ?_
  · exact ⟨0, rfl, Nat.zero_le _, by simp, Below.refl _ _⟩
  · intro z wx hI
    obtain ⟨i, h8, hi, hok, hb⟩ := hI
    simp -dsimp only [push_cast, Nat.reduceAdd, Nat.reduceLeDiff, Nat.reduceBEq, decide_true, h8]
    refine ⟨fun hlt => ?_, fun hge => ?_⟩
    · obtain ⟨x, hx, hxm, hd, ht⟩ := lt_get (l := l) (i := i) (by omega)
      obtain ⟨b, o, cs, ha, hX, hk, hcell, hR⟩ := (hv.below hb).getR hx
      subst ha
      obtain ⟨u0, u1, u2, rfl⟩ : ∃ u0 u1 u2, cs = [u0, u1, u2] := (match cs, hk with | [u0, u1, u2], _ => ⟨u0, u1, u2, rfl⟩); have c0 : cellsAt wx ⟨b, o + i * 3, none⟩ 0 3 = some [u0, u1, u2] := (cellsAt_of [u0, u1, u2] 0 (fun j u hu => by simpa using hcell j u hu)); simp -dsimp only [push_cast, Nat.reduceAdd, Nat.reduceLeDiff, Nat.reduceBEq, decide_true, c0]
      refine ⟨⟨by omega, by omega⟩, ?_⟩
      refine callK_of (hf x hxm _ hR rfl wx hb) ?_
      rintro _ w1 ⟨rfl, hb1⟩
      have hB1 := hb.trans (hb1.mono hb.size)
      simp -dsimp only [push_cast, Nat.reduceAdd, Nat.reduceLeDiff, Nat.reduceBEq, decide_true, condK_b]
      refine ⟨fun hyes => ?_, fun hno => ?_⟩
      · exact ⟨⟨i, rfl, ⟨fun _ => List.any_eq_true.2 ⟨x, hxm, hyes⟩, fun _ => by omega⟩⟩, hB1⟩
      · refine ⟨⟨by omega, by omega⟩, ⟨i + 1, rfl, by omega, ?_, hB1⟩, by rw [h8]; simp only [intOf]; omega⟩
        intro y hy
        rw [ht, List.mem_append, List.mem_singleton] at hy
        rcases hy with hy | rfl
        · exact hok y hy
        · exact hno
    · refine ⟨⟨-1, rfl, ?_⟩, hb⟩
      rw [List.take_of_length_le (by omega)] at hok
      constructor
      · intro h; omega
      · intro h
        obtain ⟨x, hx, hn⟩ := List.any_eq_true.1 h
        rw [hok x hx] at hn; cases hn

theorem insContains_c {α : Type} (R : List Value → α → Prop) (g : FuncId) (cap : List Value) (f : α → Bool) (l : List α) (hl : l.length < 1000000000) (X : Nat → Prop) (v : Value) (w : World) (hv : Sl X 3 R w v l)
    (hf : ∀ x ∈ l, ∀ cs, R cs x → cs.length = 3 → ∀ w', Below w.heap.size w w' → Fun Tryd.prog g (elV cs :: cap) w' fun r w'' => r = .bool (f x) ∧ Below w'.heap.size w' w'') :
    Fun Tryd.prog 13 [v, .func (.func g) #[] cap.toArray] w fun r w' => r = .bool (l.any f) ∧ Below w.heap.size w w' := by
  refine fun_of_vc Tryd.func13 rfl (by kernel_rfl) [4] rfl ?_
  simp -dsimp only [push_cast, fr0, Tryd.ntmps13, List.length_cons, List.length_nil, Nat.reduceAdd, Nat.reduceSub, Nat.reduceBEq, List.replicate_succ, List.replicate_zero]
  refine callK_of (insIndex_c R g cap f l hl X v w hv hf) ?_
  rintro r w1 ⟨⟨n, rfl, hn⟩, hb⟩
  simp -dsimp only [push_cast, Nat.reduceAdd, Nat.reduceLeDiff, Nat.reduceBEq, decide_true]
  refine ⟨?_, hb⟩
  congr 1
  cases h : l.any f with
  | true => rw [h] at hn; exact decide_eq_true (hn.2 rfl)
  | false => rw [h] at hn; exact decide_eq_false (fun h0 => by have := hn.1 h0; cases this)
end Go.Proofs.YtimjpijbcnjaaaaDoor
