import Derived.Test.YtimjpijbcnjaaaaDoorImr1
namespace Go.Proofs.YtimjpijbcnjaaaaDoor
open Go.Vc Go.Proofs Go.RowKit Cae
set_option maxRecDepth 100000
set_option linter.unusedSimpArgs false
set_option linter.unusedVariables false
attribute [local irreducible] wpL callK valK unitK runK Fun Sl Own vc vcOps opK pureK
set_option maxHeartbeats 4000000

theorem ok1 {c : CodeP} {j : Nat} {x : I3} (h : x.op = 1) : okP c j x ↔ (0 ≤ x.a ∧ x.a < c.sets.length ∧ x.b = 0) ∧ j + 1 < c.ins.length := by unfold okP insRight; simp [h]
theorem ok2 {c : CodeP} {j : Nat} {x : I3} (h : x.op = 2) : okP c j x ↔ (0 ≤ x.a ∧ x.a < c.ins.length) ∧ (0 ≤ x.b ∧ x.b < c.ins.length) := by unfold okP insRight; simp [h]
theorem ok3 {c : CodeP} {j : Nat} {x : I3} (h : x.op = 3) : okP c j x ↔ (0 ≤ x.a ∧ x.a < c.ins.length) ∧ x.b = 0 := by unfold okP insRight; simp [h]
theorem ok4 {c : CodeP} {j : Nat} {x : I3} (h : x.op = 4) : okP c j x ↔ (x.a = 0 ∧ x.b = 0) ∧ j + 1 < c.ins.length := by unfold okP insRight; simp [h]
theorem ok5 {c : CodeP} {j : Nat} {x : I3} (h : x.op = 5) : okP c j x ↔ x.a = 0 ∧ x.b = 0 := by unfold okP insRight; simp [h]
theorem ok6 {c : CodeP} {j : Nat} {x : I3} (n1 : x.op ≠ 1) (n2 : x.op ≠ 2) (n3 : x.op ≠ 3) (n4 : x.op ≠ 4) (n5 : x.op ≠ 5) : ¬ okP c j x := by unfold okP insRight; simp [n1, n2, n3, n4, n5]

set_option maxHeartbeats 40000000 in
theorem rightCodeR_c (c : CodeP) (hl : CodeLen c) (X : Nat → Prop) (v : Value) (w : World) (hv : CodeV X w v c) :
    Fun Tryd.prog 20 [v] w fun r w' => r = .bool (codeRight c) ∧ Below w.heap.size w w' := by
  obtain ⟨hl1, hl2, hl3⟩ := hl
  obtain ⟨sv, iv, rfl, hsv, hiv⟩ := hv
  obtain ⟨a1, c1, rfl, hc1⟩ := hsv.shape
  obtain ⟨a2, c2, rfl, hc2⟩ := hiv.shape
  refine fun_of_vc Tryd.func20 rfl (by kernel_rfl) [2] rfl ?_
  simp -dsimp only [push_cast, fr0, Tryd.ntmps20, List.length_cons, List.length_nil, Nat.reduceAdd, Nat.reduceSub, Nat.reduceBEq, List.replicate_succ, List.replicate_zero]
  refine boxK_of ?_
  intro w1 hw1
  have hw1 : New w w1 25 [.slice a1 c.sets.length c1, .slice a2 c.ins.length c2] := hw1
  have sz1 := hw1.size
  have d1 : w1.cell? ⟨w.heap.size, 1, none⟩ = some (.slice a2 c.ins.length c2) := hw1.cell rfl
  have d0 : w1.cell? ⟨w.heap.size, 0, none⟩ = some (.slice a1 c.sets.length c1) := hw1.cell rfl
  simp -dsimp only [push_cast, Nat.reduceAdd, Nat.reduceLeDiff, Nat.reduceBEq, decide_true, d1]
  refine callK_of (rin_c _ 1 2000 w1) ?_
  rintro _ w2 ⟨rfl, rfl⟩
  have hno : (∀ (h : codeRight c = true), False) → Value.bool false = Value.bool (codeRight c) := fun h => by
    cases hr : codeRight c with
    | false => rfl
    | true => exact (h hr).elim
  by_cases hn : (1 : Int) ≤ c.ins.length ∧ (c.ins.length : Int) ≤ 2000
  · rw [decide_eq_true hn]
    simp -dsimp only [push_cast, Nat.reduceAdd, Nat.reduceLeDiff, Nat.reduceBEq, decide_true, ne_eq, eq_self, not_true_eq_false, not_false_eq_true, true_imp_iff, false_imp_iff, Int.reduceNe, Int.reduceEq, Int.reduceLT, Int.reduceLE, Bool.not_true, Bool.not_false, d0]
    refine ⟨fun hbig => ⟨hno (fun h => by have := (CR.of h).sets; omega), hw1.below⟩, fun hsets => ?_⟩
    refine wpL_loop [2, 5, 24, 25, 26, 27, 28, 29, 30, 31] (fun z wx => ∃ (i : Nat), z 24 = .int .i64 i ∧ i ≤ c.sets.length ∧ (∀ s ∈ c.sets.take i, setRight (-2) s = true) ∧ Below w2.heap.size w2 wx) (fun z _ => c.sets.length - (intOf (z 24)).toNat) ?_ ?_
    · exact ⟨0, rfl, Nat.zero_le _, by simp, Below.refl _ _⟩
    · intro z wx hI
      obtain ⟨i, h24, hi, hok, hbx⟩ := hI
      have hLx : Below w.heap.size w wx := hw1.below.trans (hbx.mono (by omega))
      have hPx : Blk wx w.heap.size 25 [.slice a1 c.sets.length c1, .slice a2 c.ins.length c2] := hw1.blk.below hbx (by omega)
      simp -dsimp only [push_cast, Nat.reduceAdd, Nat.reduceLeDiff, Nat.reduceBEq, decide_true, h24]
      refine ⟨fun hlt => ?_, fun hge => ?_⟩
      · have hex := lt_get (l := c.sets) (i := i) (by omega)
        obtain ⟨s, hex⟩ := hex
        have hsm := hex.2.1
        have ht := hex.2.2.2
        have hget := Sl.getR (SetsV.below hsv hLx) hex.1
        obtain ⟨b, o, cs, rfl, hX, hk, hcell, u, rfl, hu⟩ := hget
        have cu : wx.cell? ⟨b, o + i, none⟩ = some u := by simpa using hcell 0 u rfl
        simp -dsimp only [push_cast, Nat.reduceAdd, Nat.reduceLeDiff, Nat.reduceBEq, decide_true, cu]
        refine ⟨⟨by omega, by omega⟩, ?_⟩
        refine callK_of (rightSetR_c s (hl1 s hsm) X u wx hu) ?_
        rintro _ w3 ⟨rfl, hb3⟩
        have hbx3 := hbx.trans (hb3.mono hbx.size)
        cases hsr : setRight (-2) s with
        | false =>
          simp -dsimp only [push_cast, Nat.reduceAdd, Nat.reduceLeDiff, Nat.reduceBEq, decide_true, ne_eq, eq_self, not_true_eq_false, not_false_eq_true, true_imp_iff, false_imp_iff, Int.reduceNe, Int.reduceEq, Int.reduceLT, Int.reduceLE, Bool.not_true, Bool.not_false]
          exact ⟨hno (fun h => by have := (CR.of h).set s hsm; rw [hsr] at this; cases this), hw1.below.trans (hbx3.mono (by omega))⟩
        | true =>
          simp -dsimp only [push_cast, Nat.reduceAdd, Nat.reduceLeDiff, Nat.reduceBEq, decide_true, ne_eq, eq_self, not_true_eq_false, not_false_eq_true, true_imp_iff, false_imp_iff, Int.reduceNe, Int.reduceEq, Int.reduceLT, Int.reduceLE, Bool.not_true, Bool.not_false]
          refine ⟨⟨by omega, by omega⟩, ⟨i + 1, rfl, by omega, ?_, hbx3⟩, by rw [h24]; simp only [intOf]; omega⟩
          intro y hy
          rw [ht, List.mem_append, List.mem_singleton] at hy
          rcases hy with hy | rfl
          · exact hok y hy
          · exact hsr
      · rw [List.take_of_length_le (by omega)] at hok
        have e1 : wx.cell? ⟨w.heap.size, 1, none⟩ = some (.slice a2 c.ins.length c2) := hPx.cell rfl
        simp -dsimp only [push_cast, Nat.reduceAdd, Nat.reduceLeDiff, Nat.reduceBEq, decide_true, e1]
        refine wpL_loop [2, 6, 7, 8, 35, 36, 37, 38, 39, 40, 41, 42, 43, 44, 45, 46, 47, 48, 49, 50, 51, 52, 53, 54, 55, 56, 57, 58, 59, 60, 61, 62, 63, 64, 65, 66, 67, 68, 69, 70, 71, 72, 73, 74, 75, 76, 77, 78, 79, 80, 81, 82, 83, 84, 85, 86, 87, 88, 89, 90, 91, 92, 93, 94, 95, 96, 97, 98, 99, 100, 101, 102, 103, 104, 105, 106, 107, 108, 109, 110, 111, 112, 113, 114, 115, 116, 117, 118, 119, 120, 121, 122, 123, 124, 125, 126, 127, 128, 129, 130, 131, 132] (fun z' wy => ∃ (j : Nat), z' 35 = .int .i64 j ∧ j ≤ c.ins.length ∧ (∀ (k : Nat) (x : I3), k < j → c.ins[k]? = some x → okP c k x) ∧ Below wx.heap.size wx wy) (fun z' _ => c.ins.length - (intOf (z' 35)).toNat) ?_ ?_
        · exact ⟨0, rfl, Nat.zero_le _, fun k x h => absurd h (by omega), Below.refl _ _⟩
        · intro z' wy hI
          obtain ⟨j, h35, hj, hok2, hby⟩ := hI
          have hLy : Below w.heap.size w wy := hLx.trans (hby.mono hLx.size)
          have hPy : Blk wy w.heap.size 25 [.slice a1 c.sets.length c1, .slice a2 c.ins.length c2] := hPx.below hby hPx.lt
          have szy := hLy.size
          simp -dsimp only [push_cast, Nat.reduceAdd, Nat.reduceLeDiff, Nat.reduceBEq, decide_true, h35]
          refine ⟨fun hlt2 => ?_, fun hge2 => ?_⟩
          · have hex := lt_get (l := c.ins) (i := j) (by omega)
            obtain ⟨x, hex⟩ := hex
            have hx := hex.1
            have hget := (hiv.below hLy).get hx
            obtain ⟨b, o, rfl, hX, hcell⟩ := hget
            have ce : cellsAt wy ⟨b, o + j * 3, none⟩ 0 3 = some [.int .i64 x.op, .int .i64 x.a, .int .i64 x.b] := cellsAt_of (encIn x) 0 (fun k u hu => by simpa using hcell k u hu)
            simp -dsimp only [push_cast, Nat.reduceAdd, Nat.reduceLeDiff, Nat.reduceBEq, decide_true, ce]
            refine ⟨⟨by omega, by omega⟩, ?_⟩
            refine allocK (z := [.int .i64 0, .int .i64 0, .int .i64 0]) (by kernel_rfl) ?_
            intro w4 hw4
            simp -dsimp only [push_cast, Nat.reduceAdd, Nat.reduceLeDiff, Nat.reduceBEq, decide_true]
            refine storeAgg (n := 3) (by kernel_rfl) hw4.blk rfl (by simp) (by simp [Value.oneCell']) ?_
            intro w5 hw5
            have sz4 := hw4.size
            have hb5 : Below wy.heap.size wy w5 := hw4.below.trans (hw5.kept.below (by omega) (fun _ h => by omega))
            have hby5 : Below wx.heap.size wx w5 := hby.trans (hb5.mono hby.size)
            have hL5 := hLy.trans (hb5.mono hLy.size)
            have hB5 : Blk w5 wy.heap.size 37 [.int .i64 x.op, .int .i64 x.a, .int .i64 x.b] := hw5.blk
            have hP5 := hPy.below hb5 hPy.lt
            have e0 : w5.cell? ⟨wy.heap.size, 0, none⟩ = some (.int .i64 x.op) := hB5.cell rfl
            have ea : w5.cell? ⟨wy.heap.size, 1, none⟩ = some (.int .i64 x.a) := hB5.cell rfl
            have eb : w5.cell? ⟨wy.heap.size, 2, none⟩ = some (.int .i64 x.b) := hB5.cell rfl
            have es : w5.cell? ⟨w.heap.size, 0, none⟩ = some (.slice a1 c.sets.length c1) := hP5.cell rfl
            have hyes : okP c j x → ∀ (k : Nat) (y : I3), k < j + 1 → c.ins[k]? = some y → okP c k y := fun h k y hk hy => by
              rcases Nat.lt_or_ge k j with h' | h'
              · exact hok2 k y h' hy
              · have : k = j := by omega
                subst this
                rw [hx] at hy; cases hy; exact h
            have hbad : ¬ okP c j x → Value.bool false = Value.bool (codeRight c) := fun h => hno (fun h' => h (codeRight_ok h' hx))
            have hgo : okP c j x ∨ ¬ okP c j x := Classical.em _
            have hops : x.op = 1 ∨ x.op = 2 ∨ x.op = 3 ∨ x.op = 4 ∨ x.op = 5 ∨ (x.op ≠ 1 ∧ x.op ≠ 2 ∧ x.op ≠ 3 ∧ x.op ≠ 4 ∧ x.op ≠ 5) := by omega
            rcases hops with hop | hop | hop | hop | hop | ⟨n1, n2, n3, n4, n5⟩
            · rw [hop] at e0
              simp -dsimp only [push_cast, Nat.reduceAdd, Nat.reduceLeDiff, Nat.reduceBEq, decide_true, ne_eq, eq_self, not_true_eq_false, not_false_eq_true, true_imp_iff, false_imp_iff, Int.reduceNe, Int.reduceEq, Int.reduceLT, Int.reduceLE, Bool.not_true, Bool.not_false, e0, ea, eb, es]
              exact ⟨fun q1 => ⟨fun q2 => ⟨fun q3 => ⟨⟨by omega, by omega⟩, fun q4 => ⟨hbad (fun h => by have := (ok1 hop).1 h; omega), hL5⟩, fun q4 => ⟨⟨by omega, by omega⟩, ⟨j + 1, rfl, by omega, hyes ((ok1 hop).2 (by omega)), hby5⟩, by rw [h35]; simp only [intOf]; omega⟩⟩, fun q3 => ⟨hbad (fun h => by have := (ok1 hop).1 h; omega), hL5⟩⟩, fun q2 => ⟨hbad (fun h => by have := (ok1 hop).1 h; omega), hL5⟩⟩, fun q1 => ⟨hbad (fun h => by have := (ok1 hop).1 h; omega), hL5⟩⟩
            · rw [hop] at e0
              simp -dsimp (maxSteps := 4000000) only [push_cast, Nat.reduceAdd, Nat.reduceLeDiff, Nat.reduceBEq, decide_true, ne_eq, eq_self, not_true_eq_false, not_false_eq_true, true_imp_iff, false_imp_iff, Int.reduceNe, Int.reduceEq, Int.reduceLT, Int.reduceLE, Bool.not_true, Bool.not_false, e0, ea, eb]
              exact ⟨fun q1 => ⟨fun q2 => ⟨fun q3 => ⟨fun q4 => ⟨hbad (fun h => by have := (ok2 hop).1 h; omega), hL5⟩, fun q4 => ⟨⟨by omega, by omega⟩, ⟨j + 1, rfl, by omega, hyes ((ok2 hop).2 (by omega)), hby5⟩, by rw [h35]; simp only [intOf]; omega⟩⟩, fun q3 => ⟨hbad (fun h => by have := (ok2 hop).1 h; omega), hL5⟩⟩, fun q2 => ⟨hbad (fun h => by have := (ok2 hop).1 h; omega), hL5⟩⟩, fun q1 => ⟨hbad (fun h => by have := (ok2 hop).1 h; omega), hL5⟩⟩
            · rw [hop] at e0
              simp -dsimp (maxSteps := 4000000) only [push_cast, Nat.reduceAdd, Nat.reduceLeDiff, Nat.reduceBEq, decide_true, ne_eq, eq_self, not_true_eq_false, not_false_eq_true, true_imp_iff, false_imp_iff, Int.reduceNe, Int.reduceEq, Int.reduceLT, Int.reduceLE, Bool.not_true, Bool.not_false, e0, ea, eb]
              exact ⟨fun q1 => ⟨fun q2 => ⟨fun q3 => ⟨hbad (fun h => by have := (ok3 hop).1 h; omega), hL5⟩, fun q3 => ⟨⟨by omega, by omega⟩, ⟨j + 1, rfl, by omega, hyes ((ok3 hop).2 (by omega)), hby5⟩, by rw [h35]; simp only [intOf]; omega⟩⟩, fun q2 => ⟨hbad (fun h => by have := (ok3 hop).1 h; omega), hL5⟩⟩, fun q1 => ⟨hbad (fun h => by have := (ok3 hop).1 h; omega), hL5⟩⟩
            · rw [hop] at e0
              simp -dsimp (maxSteps := 4000000) only [push_cast, Nat.reduceAdd, Nat.reduceLeDiff, Nat.reduceBEq, decide_true, ne_eq, eq_self, not_true_eq_false, not_false_eq_true, true_imp_iff, false_imp_iff, Int.reduceNe, Int.reduceEq, Int.reduceLT, Int.reduceLE, Bool.not_true, Bool.not_false, e0, ea, eb]
              exact ⟨fun q1 => ⟨fun q2 => ⟨⟨by omega, by omega⟩, fun q3 => ⟨hbad (fun h => by have := (ok4 hop).1 h; omega), hL5⟩, fun q3 => ⟨⟨by omega, by omega⟩, ⟨j + 1, rfl, by omega, hyes ((ok4 hop).2 (by omega)), hby5⟩, by rw [h35]; simp only [intOf]; omega⟩⟩, fun q2 => ⟨hbad (fun h => by have := (ok4 hop).1 h; omega), hL5⟩⟩, fun q1 => ⟨hbad (fun h => by have := (ok4 hop).1 h; omega), hL5⟩⟩
            · rw [hop] at e0
              simp -dsimp (maxSteps := 4000000) only [push_cast, Nat.reduceAdd, Nat.reduceLeDiff, Nat.reduceBEq, decide_true, ne_eq, eq_self, not_true_eq_false, not_false_eq_true, true_imp_iff, false_imp_iff, Int.reduceNe, Int.reduceEq, Int.reduceLT, Int.reduceLE, Bool.not_true, Bool.not_false, e0, ea, eb]
              exact ⟨fun q1 => ⟨fun q2 => ⟨hbad (fun h => by have := (ok5 hop).1 h; omega), hL5⟩, fun q2 => ⟨⟨by omega, by omega⟩, ⟨j + 1, rfl, by omega, hyes ((ok5 hop).2 (by omega)), hby5⟩, by rw [h35]; simp only [intOf]; omega⟩⟩, fun q1 => ⟨hbad (fun h => by have := (ok5 hop).1 h; omega), hL5⟩⟩
            · have m1 := eq_false n1
              have m2 := eq_false n2
              have m3 := eq_false n3
              have m4 := eq_false n4
              have m5 := eq_false n5
              simp -dsimp only [push_cast, Nat.reduceAdd, Nat.reduceLeDiff, Nat.reduceBEq, decide_true, ne_eq, eq_self, not_true_eq_false, not_false_eq_true, true_imp_iff, false_imp_iff, Int.reduceNe, Int.reduceEq, Int.reduceLT, Int.reduceLE, Bool.not_true, Bool.not_false, e0, m1, m2, m3, m4, m5, decide_false]
              exact ⟨hbad (ok6 n1 n2 n3 n4 n5), hL5⟩
          · have hall := codeRight_of ⟨by omega, by omega, by omega⟩ hok (fun k x hkx => hok2 k x (by have := (List.getElem?_eq_some_iff.1 hkx).1; omega) hkx)
            exact ⟨by rw [hall], hLy⟩
  · rw [decide_eq_false hn]
    simp -dsimp only [push_cast, Nat.reduceAdd, Nat.reduceLeDiff, Nat.reduceBEq, decide_true, ne_eq, eq_self, not_true_eq_false, not_false_eq_true, true_imp_iff, false_imp_iff, Int.reduceNe, Int.reduceEq, Int.reduceLT, Int.reduceLE, Bool.not_true, Bool.not_false]
    exact ⟨hno (fun h => by have h1 := (CR.of h).one; have h2 := (CR.of h).many; omega), hw1.below⟩
end Go.Proofs.YtimjpijbcnjaaaaDoor
