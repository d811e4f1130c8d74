import Derived.Test.YtieaebjkbhaoaaaGreatDoorRq5
namespace Cae
theorem All2.at {α β : Type} {R : α → β → Prop} {l : List α} {m : List β} (h : All2 R l m) : ∀ {i : Nat} {y : β}, m[i]? = some y → ∃ x, l[i]? = some x ∧ R x y := by
  induction h with
  | nil => intro i y hy; simp at hy
  | cons h1 _ ih =>
    intro i y hy
    cases i with
    | zero => cases hy; exact ⟨_, rfl, h1⟩
    | succ i =>
      obtain ⟨x, hx, hr⟩ := ih (i := i) (y := y) (by simpa using hy)
      exact ⟨x, by simpa using hx, hr⟩
theorem flat_mem {α : Type} (f : α → List UInt8) {l : List α} {x : α} (h : x ∈ l) : (f x).length ≤ (l.flatMap f).length := by
  induction l with
  | nil => cases h
  | cons y l ih =>
    simp only [List.flatMap_cons, List.length_append]
    rcases List.mem_cons.1 h with rfl | h
    · omega
    · have := ih h; omega
theorem flat_take {α : Type} (f : α → List UInt8) (l : List α) (i : Nat) : ((l.take i).flatMap f).length ≤ (l.flatMap f).length := by
  have : l.flatMap f = (l.take i).flatMap f ++ (l.drop i).flatMap f := by rw [← List.flatMap_append, List.take_append_drop]
  rw [this, List.length_append]
  omega
theorem pt_zero (x : PatP) : (patText x 2).length ≤ (patText x 0).length + 2 := by
  cases x with
  | cat l =>
    have h1 := (inPar_len (decide (1 < 2)) (Go.Lib.join (patTexts l 2) [32])).2
    have h2 := (inPar_len (decide (1 < 0)) (Go.Lib.join (patTexts l 2) [32])).1
    simp only [patText]
    omega
  | alt l =>
    have h1 := (inPar_len (decide (0 < 2)) (Go.Lib.join (patTexts l 1) [32, 124, 32])).2
    have h2 := (inPar_len (decide (0 < 0)) (Go.Lib.join (patTexts l 1) [32, 124, 32])).1
    simp only [patText]
    omega
  | _ => simp [patText]
theorem rt_len (r : RuleP) : (patText r.before 0).length + (patText r.after 0).length ≤ (ruleText r).length ∧ (ruleText r).length ≤ (patText r.before 0).length + (patText r.after 0).length + 20 := by
  unfold ruleText
  split <;> split <;> split <;> simp [*] <;> omega
def FileOk (f : FileP) : Prop := (∀ c ∈ f.classes, KindOk c.kind) ∧ ∀ r ∈ f.rules, PatOk r.before ∧ PatOk r.after
end Cae
namespace Go.Proofs.YtieaebjkbhaoaaaGreatDoor
open Go.Vc Go.Proofs Go.RowKit Cae
set_option maxRecDepth 100000
set_option linter.unusedSimpArgs false
set_option linter.unusedVariables false
attribute [local irreducible] wpL callK valK unitK runK Fun Sl Own vc vcOps opK pureK
set_option maxHeartbeats 4000000
theorem print_walk (f : FileP) (hok : FileOk f) (hlen : (fileText f).length ≤ 50000000) (hc1 : f.classes.length ≤ 1000) (hr1 : f.rules.length ≤ 1000) (X : Nat → Prop) (v : Value) (w : World) (hv : FileV X w v f) (hd : Db w) :
    Fun Tryz.prog 8 [v] w fun r w' => r = str (fileText f) ∧ Below w.heap.size w w' := by
  obtain ⟨cv, rv, cs, rs, rfl, S1, S2, A1, A2⟩ := hv
  have hsh1 := S1.shape
  obtain ⟨ca, cc, rfl, hcc⟩ := hsh1
  have hsh2 := S2.shape
  obtain ⟨ra, rc, rfl, hrc⟩ := hsh2
  have l1 := A1.len
  have l2 := A2.len
  refine fun_of_vc Tryz.func8 rfl (by kernel_rfl) [2] rfl ?_
  simp -dsimp (maxSteps := 4000000) only [push_cast, fr0, Tryz.ntmps8, List.length_cons, List.length_nil, Nat.reduceAdd, Nat.reduceSub, Nat.reduceBEq, List.replicate_succ, List.replicate_zero]
  refine boxK_of ?_
  intro w1 hw1
  have B1 := hw1.blk
  have z1 := hw1.size
  have b1 := hw1.below
  simp -dsimp only [push_cast, Nat.reduceAdd, Nat.reduceLeDiff, Nat.reduceBEq, decide_true, ne_eq, eq_self, not_true_eq_false, not_false_eq_true, true_imp_iff, false_imp_iff, Int.reduceNe, Int.reduceEq, Int.reduceLT, Int.reduceLE, Bool.not_true, Bool.not_false, z1]
  refine allocK (z := [.pointer none, .slice none 0 0]) (by kernel_rfl) ?_
  intro w2 hw2
  have BX2 := B1.below hw2.below (by omega)
  have z2 := hw2.size
  have b2 := b1.trans (hw2.below.mono (by omega))
  have U2 : Bu (w.heap.size + 1) (w.heap.size + 1) [] w2 := Bu.fresh hw2 (by omega) _ (by omega)
  have d20 : w2.cell? ⟨w.heap.size, 0, none⟩ = some (.slice ca cs.length cc) := BX2.cell rfl
  have hcl : (f.classes.flatMap classText).length ≤ (fileText f).length := by unfold fileText; rw [List.length_append, List.length_append]; omega
  simp -dsimp only [push_cast, Nat.reduceAdd, Nat.reduceLeDiff, Nat.reduceBEq, decide_true, ne_eq, eq_self, not_true_eq_false, not_false_eq_true, true_imp_iff, false_imp_iff, Int.reduceNe, Int.reduceEq, Int.reduceLT, Int.reduceLE, Bool.not_true, Bool.not_false, d20, z1]
  refine wpL_loop [5, 14, 15, 16, 17, 18, 19, 20, 21, 22, 23, 24, 25, 26, 27, 28] (fun z wx => ∃ i : Nat, z 14 = .int .i64 i ∧ i ≤ f.classes.length ∧ Bu (w.heap.size + 1) (w.heap.size + 1) ((f.classes.take i).flatMap classText) wx ∧ Below (w.heap.size + 1) w2 wx) (fun z _ => f.classes.length - (intOf (z 14)).toNat) ?_ ?_
  · exact ⟨0, rfl, Nat.zero_le _, U2, Below.refl _ _⟩
  · intro z wx hI
    obtain ⟨i, h14, hi, hU, hbx⟩ := hI
    have zx := hbx.size
    simp -dsimp only [push_cast, Nat.reduceAdd, Nat.reduceLeDiff, Nat.reduceBEq, decide_true, ne_eq, eq_self, not_true_eq_false, not_false_eq_true, true_imp_iff, false_imp_iff, Int.reduceNe, Int.reduceEq, Int.reduceLT, Int.reduceLE, Bool.not_true, Bool.not_false, h14]
    refine ⟨fun hlt => ?_, fun hge => ?_⟩
    · obtain ⟨c, hc, hcm, _, ht⟩ := lt_get (l := f.classes) (i := i) (by omega)
      obtain ⟨a, ha, hca⟩ := A1.at hc
      obtain ⟨n1, n2, hK⟩ := hca
      have hbw : Below w.heap.size w wx := b2.trans (hbx.mono (by omega))
      obtain ⟨b, o, rfl, hnb, hcell⟩ := (S1.below hbw).get ha
      have cx : cellsAt wx ⟨b, o + i * 3, none⟩ 0 3 = some [str a.1, .int .i64 a.2.1, .pointer (some ⟨a.2.2, 0, none⟩)] := cellsAt_of (encC a) 0 (fun j u hu => by simpa using hcell j u hu)
      simp -dsimp only [push_cast, Nat.reduceAdd, Nat.reduceLeDiff, Nat.reduceBEq, decide_true, ne_eq, eq_self, not_true_eq_false, not_false_eq_true, true_imp_iff, false_imp_iff, Int.reduceNe, Int.reduceEq, Int.reduceLT, Int.reduceLE, Bool.not_true, Bool.not_false, cx]
      refine ⟨⟨by omega, by omega⟩, ?_⟩
      refine allocK (z := [str [], .int .i64 0, .pointer none]) (by kernel_rfl) ?_
      intro w3 hw3
      have z3 := hw3.size
      simp -dsimp only [push_cast, Nat.reduceAdd, Nat.reduceLeDiff, Nat.reduceBEq, decide_true, ne_eq, eq_self, not_true_eq_false, not_false_eq_true, true_imp_iff, false_imp_iff, Int.reduceNe, Int.reduceEq, Int.reduceLT, Int.reduceLE, Bool.not_true, Bool.not_false]
      refine storeAgg (n := 3) (by kernel_rfl) hw3.blk rfl (by simp) (by simp; exact ⟨rfl, rfl, rfl⟩) ?_
      intro w4 hw4
      have z4 := hw4.size
      have B4 := hw4.blk
      have hb4 : Below wx.heap.size wx w4 := hw3.below.trans (hw4.kept.below (B := wx.heap.size) (by omega) (fun i h => by omega))
      have hbw4 := hbw.trans (hb4.mono (by omega))
      have Bd := B4.drew
      have e0 : ∀ w'', Below w4.drew.heap.size w4.drew w'' → w''.cell? ⟨wx.heap.size, 0, none⟩ = some (str a.1) := fun w'' h => (Bd.below h Bd.lt).cell rfl
      have e2 : ∀ w'', Below w4.drew.heap.size w4.drew w'' → w''.cell? ⟨wx.heap.size, 2, none⟩ = some (.pointer (some ⟨a.2.2, 0, none⟩)) := fun w'' h => (Bd.below h Bd.lt).cell rfl
      have hr := Below.refl w4.drew.heap.size w4.drew
      have hct : classText c = [99, 108, 97, 115, 115, 32] ++ c.name ++ [32, 61, 32] ++ kindText c.kind false ++ [59, 10] := rfl
      have hcl2 : (classText c).length ≤ (f.classes.flatMap classText).length := flat_mem classText hcm
      rw [hct] at hcl2
      simp only [List.length_append, List.length_cons, List.length_nil] at hcl2
      have hkl := kt_len c.kind
      have htl := flat_take classText f.classes i
      simp -dsimp only [push_cast, Nat.reduceAdd, Nat.reduceLeDiff, Nat.reduceBEq, decide_true, ne_eq, eq_self, not_true_eq_false, not_false_eq_true, true_imp_iff, false_imp_iff, Int.reduceNe, Int.reduceEq, Int.reduceLT, Int.reduceLE, Bool.not_true, Bool.not_false]
      refine wpL_lastN (fun w' => Below w4.drew.heap.size w4.drew w') mixed (by kernel_rfl) (by simp) (Below.refl _ _) ?_
      simp -dsimp only [push_cast, Nat.reduceAdd, Nat.reduceLeDiff, Nat.reduceBEq, decide_true, ne_eq, eq_self, not_true_eq_false, not_false_eq_true, true_imp_iff, false_imp_iff, Int.reduceNe, Int.reduceEq, Int.reduceLT, Int.reduceLE, Bool.not_true, Bool.not_false, e0 _ hr, e2 _ hr]
      rw [n1]
      simp only [List.length_append, List.length_cons, List.length_nil]
      refine ⟨fun w'' h => by rw [e0 _ h, n1]; exact rfl, by omega, by omega, fun w'' h => by rw [e2 _ h]; exact rfl, ?_⟩
      refine callK_of (kindText_c c.kind (hok.1 c hcm) false (by omega) X (ptrP a.2.2) w4.drew ((hK.below hbw4).drew) (show Db w4.drew from (hd.below hbw4 hd.lt : Db w4))) ?_
      rintro _ w5 ⟨rfl, hb5⟩
      refine ⟨hb5, ?_⟩
      have z5 : w4.heap.size ≤ w5.heap.size := hb5.size
      have U5 := ((hU.below hb4).below (below_drew w4)).below hb5
      simp -dsimp only [push_cast, Nat.reduceAdd, Nat.reduceLeDiff, Nat.reduceBEq, decide_true, ne_eq, eq_self, not_true_eq_false, not_false_eq_true, true_imp_iff, false_imp_iff, Int.reduceNe, Int.reduceEq, Int.reduceLT, Int.reduceLE, Bool.not_true, Bool.not_false, n1]
      simp only [List.length_append, List.length_cons, List.length_nil]
      refine ⟨by omega, by omega, ?_⟩
      refine callK_of (write_c _ _ _ (classText c) w5 U5 (by rw [hct]; simp only [List.length_append, List.length_cons, List.length_nil]; omega) (by omega)) ?_
      rintro _ w6 ⟨U6, hb6⟩
      simp -dsimp only [push_cast, Nat.reduceAdd, Nat.reduceLeDiff, Nat.reduceBEq, decide_true, ne_eq, eq_self, not_true_eq_false, not_false_eq_true, true_imp_iff, false_imp_iff, Int.reduceNe, Int.reduceEq, Int.reduceLT, Int.reduceLE, Bool.not_true, Bool.not_false]
      have z6 := hb6.size
      refine ⟨⟨by omega, by omega⟩, ⟨i + 1, rfl, by omega, by rw [ht, List.flatMap_append, List.flatMap_singleton]; exact U6, ?_⟩, by rw [h14]; simp only [intOf]; omega⟩
      have h1 : Below (w.heap.size + 1) wx w4.drew := (hb4.trans (below_drew w4 |>.mono (by omega))).mono (by omega)
      exact (hbx.trans h1).trans ((hb5.mono (by show w.heap.size + 1 ≤ w4.heap.size; omega)).trans hb6)
    · have hin : i = f.classes.length := by omega
      subst hin
      rw [List.take_length] at hU
      have BXx : Blk wx w.heap.size 26 [.slice ca cs.length cc, .slice ra rs.length rc, .bool f.els] := BX2.below hbx (by omega)
      have d21 : wx.cell? ⟨w.heap.size, 1, none⟩ = some (.slice ra rs.length rc) := BXx.cell rfl
      have hbw : Below w.heap.size w wx := b2.trans (hbx.mono (by omega))
      have hcl3 : (f.rules.flatMap ruleText).length + (f.classes.flatMap classText).length ≤ (fileText f).length := by unfold fileText; rw [List.length_append, List.length_append]; omega
      simp -dsimp only [push_cast, Nat.reduceAdd, Nat.reduceLeDiff, Nat.reduceBEq, decide_true, ne_eq, eq_self, not_true_eq_false, not_false_eq_true, true_imp_iff, false_imp_iff, Int.reduceNe, Int.reduceEq, Int.reduceLT, Int.reduceLE, Bool.not_true, Bool.not_false, d21]
      refine wpL_loop [7, 8, 9, 10, 32, 33, 34, 35, 36, 37, 38, 39, 40, 41, 42, 43, 44, 45, 46, 47, 48, 49, 50, 51, 52, 53, 54, 55, 56, 57, 58, 59, 60, 61] (fun z wy => ∃ i : Nat, z 32 = .int .i64 i ∧ i ≤ f.rules.length ∧ Bu (w.heap.size + 1) (w.heap.size + 1) (f.classes.flatMap classText ++ (f.rules.take i).flatMap ruleText) wy ∧ Below (w.heap.size + 1) w2 wy) (fun z _ => f.rules.length - (intOf (z 32)).toNat) ?_ ?_
      · exact ⟨0, rfl, Nat.zero_le _, by simpa using hU, hbx⟩
      clear d21 BXx hbw zx hU hbx h14
      intro z wx hI
      obtain ⟨i, h32, hi, hU, hbx⟩ := hI
      have zx := hbx.size
      simp -dsimp only [push_cast, Nat.reduceAdd, Nat.reduceLeDiff, Nat.reduceBEq, decide_true, ne_eq, eq_self, not_true_eq_false, not_false_eq_true, true_imp_iff, false_imp_iff, Int.reduceNe, Int.reduceEq, Int.reduceLT, Int.reduceLE, Bool.not_true, Bool.not_false, h32]
      refine ⟨fun hlt => ?_, fun hge => ?_⟩
      · obtain ⟨c, hc, hcm, _, ht⟩ := lt_get (l := f.rules) (i := i) (by omega)
        obtain ⟨a, ha, hca⟩ := A2.at hc
        obtain ⟨n1, n2, hV1, hV2⟩ := hca
        have hbw : Below w.heap.size w wx := b2.trans (hbx.mono (by omega))
        obtain ⟨b, o, rfl, hnb, hcell⟩ := (S2.below hbw).get ha
        have cx : cellsAt wx ⟨b, o + i * 4, none⟩ 0 4 = some [.int .i64 a.1, .bool a.2.1, .pointer (some ⟨a.2.2.1, 0, none⟩), .pointer (some ⟨a.2.2.2, 0, none⟩)] := cellsAt_of (encRu a) 0 (fun j u hu => by simpa using hcell j u hu)
        simp -dsimp only [push_cast, Nat.reduceAdd, Nat.reduceLeDiff, Nat.reduceBEq, decide_true, ne_eq, eq_self, not_true_eq_false, not_false_eq_true, true_imp_iff, false_imp_iff, Int.reduceNe, Int.reduceEq, Int.reduceLT, Int.reduceLE, Bool.not_true, Bool.not_false, cx]
        refine ⟨⟨by omega, by omega⟩, ?_⟩
        refine allocK (z := [.int .i64 0, .bool false, .pointer none, .pointer none]) (by kernel_rfl) ?_
        intro w3 hw3
        have z3 := hw3.size
        simp -dsimp only [push_cast, Nat.reduceAdd, Nat.reduceLeDiff, Nat.reduceBEq, decide_true, ne_eq, eq_self, not_true_eq_false, not_false_eq_true, true_imp_iff, false_imp_iff, Int.reduceNe, Int.reduceEq, Int.reduceLT, Int.reduceLE, Bool.not_true, Bool.not_false]
        refine storeAgg (n := 4) (by kernel_rfl) hw3.blk rfl (by simp) (by simp; exact ⟨rfl, rfl, rfl, rfl⟩) ?_
        intro w4 hw4
        have z4 := hw4.size
        have B4 := hw4.blk
        have hb4 : Below wx.heap.size wx w4 := hw3.below.trans (hw4.kept.below (B := wx.heap.size) (by omega) (fun i h => by omega))
        have hbw4 := hbw.trans (hb4.mono (by omega))
        have d41 : w4.cell? ⟨wx.heap.size, 1, none⟩ = some (.bool a.2.1) := B4.cell rfl
        have d42 : w4.cell? ⟨wx.heap.size, 2, none⟩ = some (.pointer (some ⟨a.2.2.1, 0, none⟩)) := B4.cell rfl
        have hrl := rt_len c
        have hrl2 : (ruleText c).length ≤ (f.rules.flatMap ruleText).length := flat_mem ruleText hcm
        have hp1 := pt_zero c.before
        have hp2 := pt_zero c.after
        have hpn1 : pn c.before = (patText c.before 2).length + 3 := rfl
        have hpn2 : pn c.after = (patText c.after 2).length + 3 := rfl
        have htl := flat_take ruleText f.rules i
        rw [n2] at d41
        simp -dsimp only [push_cast, Nat.reduceAdd, Nat.reduceLeDiff, Nat.reduceBEq, decide_true, ne_eq, eq_self, not_true_eq_false, not_false_eq_true, true_imp_iff, false_imp_iff, Int.reduceNe, Int.reduceEq, Int.reduceLT, Int.reduceLE, Bool.not_true, Bool.not_false, d41, d42]
        cases hbrk : c.brk with
        | true =>
          simp -dsimp only [push_cast, Nat.reduceAdd, Nat.reduceLeDiff, Nat.reduceBEq, decide_true, ne_eq, eq_self, not_true_eq_false, not_false_eq_true, true_imp_iff, false_imp_iff, Int.reduceNe, Int.reduceEq, Int.reduceLT, Int.reduceLE, Bool.not_true, Bool.not_false, d42]
          refine callK_of (ruleText_c c.before (hok.2 c hcm).1 (by omega) X (ptrP a.2.2.1) w4 (hV1.below hbw4) (hd.below hbw4 hd.lt)) ?_
          rintro _ w5 ⟨rfl, hb5⟩
          have hb5w := hbw4.trans (hb5.mono hbw4.size)
          have d53 : w5.cell? ⟨wx.heap.size, 3, none⟩ = some (.pointer (some ⟨a.2.2.2, 0, none⟩)) := (B4.below hb5 B4.lt).cell rfl
          simp -dsimp only [push_cast, Nat.reduceAdd, Nat.reduceLeDiff, Nat.reduceBEq, decide_true, ne_eq, eq_self, not_true_eq_false, not_false_eq_true, true_imp_iff, false_imp_iff, Int.reduceNe, Int.reduceEq, Int.reduceLT, Int.reduceLE, Bool.not_true, Bool.not_false, d53]
          simp only [List.length_append, List.length_cons, List.length_nil]
          refine ⟨fun p1 => ⟨by omega, by omega, by omega, ?_⟩, fun p1' => ⟨by omega, ?_⟩⟩
          ·
            refine callK_of (ruleText_c c.after (hok.2 c hcm).2 (by omega) X (ptrP a.2.2.2) w5 (hV2.below hb5w) (hd.below hb5w hd.lt)) ?_
            rintro _ w6 ⟨rfl, hb6⟩
            have U6 := ((hU.below hb4).below hb5).below hb6
            have z5 := hb5.size
            have z6 := hb6.size
            have hb6x : Below (w.heap.size + 1) w2 w6 := ((hbx.trans (hb4.mono (by omega))).trans (hb5.mono (by omega))).trans (hb6.mono (by omega))
            simp -dsimp only [push_cast, Nat.reduceAdd, Nat.reduceLeDiff, Nat.reduceBEq, decide_true, ne_eq, eq_self, not_true_eq_false, not_false_eq_true, true_imp_iff, false_imp_iff, Int.reduceNe, Int.reduceEq, Int.reduceLT, Int.reduceLE, Bool.not_true, Bool.not_false]
            simp only [List.length_append, List.length_cons, List.length_nil]
            refine ⟨fun p2 => ⟨by omega, by omega, by omega, ?_⟩, fun p2' => ⟨by omega, ?_⟩⟩
            ·
              refine callK_of (write_c _ _ _ _ w6 U6 (by simp only [List.length_append, List.length_cons, List.length_nil]; omega) (by omega)) ?_
              rintro _ w7 ⟨U7, hb7⟩
              simp -dsimp only [push_cast, Nat.reduceAdd, Nat.reduceLeDiff, Nat.reduceBEq, decide_true, ne_eq, eq_self, not_true_eq_false, not_false_eq_true, true_imp_iff, false_imp_iff, Int.reduceNe, Int.reduceEq, Int.reduceLT, Int.reduceLE, Bool.not_true, Bool.not_false]
              refine ⟨⟨by omega, by omega⟩, ⟨i + 1, rfl, by omega, ?_, hb6x.trans hb7⟩, by rw [h32]; simp only [intOf]; omega⟩
              rw [ht, List.flatMap_append, List.flatMap_singleton]
              simpa [ruleText, hbrk, p1, p2] using U7
            ·
              have p2 := Classical.not_not.1 p2'
              refine callK_of (write_c _ _ _ _ w6 U6 (by simp only [List.length_append, List.length_cons, List.length_nil]; omega) (by omega)) ?_
              rintro _ w7 ⟨U7, hb7⟩
              simp -dsimp only [push_cast, Nat.reduceAdd, Nat.reduceLeDiff, Nat.reduceBEq, decide_true, ne_eq, eq_self, not_true_eq_false, not_false_eq_true, true_imp_iff, false_imp_iff, Int.reduceNe, Int.reduceEq, Int.reduceLT, Int.reduceLE, Bool.not_true, Bool.not_false]
              refine ⟨⟨by omega, by omega⟩, ⟨i + 1, rfl, by omega, ?_, hb6x.trans hb7⟩, by rw [h32]; simp only [intOf]; omega⟩
              rw [ht, List.flatMap_append, List.flatMap_singleton]
              simpa [ruleText, hbrk, p1, p2] using U7
          ·
            have p1 := Classical.not_not.1 p1'
            refine callK_of (ruleText_c c.after (hok.2 c hcm).2 (by omega) X (ptrP a.2.2.2) w5 (hV2.below hb5w) (hd.below hb5w hd.lt)) ?_
            rintro _ w6 ⟨rfl, hb6⟩
            have U6 := ((hU.below hb4).below hb5).below hb6
            have z5 := hb5.size
            have z6 := hb6.size
            have hb6x : Below (w.heap.size + 1) w2 w6 := ((hbx.trans (hb4.mono (by omega))).trans (hb5.mono (by omega))).trans (hb6.mono (by omega))
            simp -dsimp only [push_cast, Nat.reduceAdd, Nat.reduceLeDiff, Nat.reduceBEq, decide_true, ne_eq, eq_self, not_true_eq_false, not_false_eq_true, true_imp_iff, false_imp_iff, Int.reduceNe, Int.reduceEq, Int.reduceLT, Int.reduceLE, Bool.not_true, Bool.not_false]
            simp only [List.length_append, List.length_cons, List.length_nil]
            refine ⟨fun p2 => ⟨by omega, by omega, by omega, ?_⟩, fun p2' => ⟨by omega, ?_⟩⟩
            ·
              refine callK_of (write_c _ _ _ _ w6 U6 (by simp only [List.length_append, List.length_cons, List.length_nil]; omega) (by omega)) ?_
              rintro _ w7 ⟨U7, hb7⟩
              simp -dsimp only [push_cast, Nat.reduceAdd, Nat.reduceLeDiff, Nat.reduceBEq, decide_true, ne_eq, eq_self, not_true_eq_false, not_false_eq_true, true_imp_iff, false_imp_iff, Int.reduceNe, Int.reduceEq, Int.reduceLT, Int.reduceLE, Bool.not_true, Bool.not_false]
              refine ⟨⟨by omega, by omega⟩, ⟨i + 1, rfl, by omega, ?_, hb6x.trans hb7⟩, by rw [h32]; simp only [intOf]; omega⟩
              rw [ht, List.flatMap_append, List.flatMap_singleton]
              simpa [ruleText, hbrk, p1, p2] using U7
            ·
              have p2 := Classical.not_not.1 p2'
              refine callK_of (write_c _ _ _ _ w6 U6 (by simp only [List.length_append, List.length_cons, List.length_nil]; omega) (by omega)) ?_
              rintro _ w7 ⟨U7, hb7⟩
              simp -dsimp only [push_cast, Nat.reduceAdd, Nat.reduceLeDiff, Nat.reduceBEq, decide_true, ne_eq, eq_self, not_true_eq_false, not_false_eq_true, true_imp_iff, false_imp_iff, Int.reduceNe, Int.reduceEq, Int.reduceLT, Int.reduceLE, Bool.not_true, Bool.not_false]
              refine ⟨⟨by omega, by omega⟩, ⟨i + 1, rfl, by omega, ?_, hb6x.trans hb7⟩, by rw [h32]; simp only [intOf]; omega⟩
              rw [ht, List.flatMap_append, List.flatMap_singleton]
              simpa [ruleText, hbrk, p1, p2] using U7
        | false =>
          simp -dsimp only [push_cast, Nat.reduceAdd, Nat.reduceLeDiff, Nat.reduceBEq, decide_true, ne_eq, eq_self, not_true_eq_false, not_false_eq_true, true_imp_iff, false_imp_iff, Int.reduceNe, Int.reduceEq, Int.reduceLT, Int.reduceLE, Bool.not_true, Bool.not_false, d42]
          refine callK_of (ruleText_c c.before (hok.2 c hcm).1 (by omega) X (ptrP a.2.2.1) w4 (hV1.below hbw4) (hd.below hbw4 hd.lt)) ?_
          rintro _ w5 ⟨rfl, hb5⟩
          have hb5w := hbw4.trans (hb5.mono hbw4.size)
          have d53 : w5.cell? ⟨wx.heap.size, 3, none⟩ = some (.pointer (some ⟨a.2.2.2, 0, none⟩)) := (B4.below hb5 B4.lt).cell rfl
          simp -dsimp only [push_cast, Nat.reduceAdd, Nat.reduceLeDiff, Nat.reduceBEq, decide_true, ne_eq, eq_self, not_true_eq_false, not_false_eq_true, true_imp_iff, false_imp_iff, Int.reduceNe, Int.reduceEq, Int.reduceLT, Int.reduceLE, Bool.not_true, Bool.not_false, d53]
          simp only [List.length_append, List.length_cons, List.length_nil]
          refine ⟨fun p1 => ⟨by omega, by omega, by omega, ?_⟩, fun p1' => ⟨by omega, ?_⟩⟩
          ·
            refine callK_of (ruleText_c c.after (hok.2 c hcm).2 (by omega) X (ptrP a.2.2.2) w5 (hV2.below hb5w) (hd.below hb5w hd.lt)) ?_
            rintro _ w6 ⟨rfl, hb6⟩
            have U6 := ((hU.below hb4).below hb5).below hb6
            have z5 := hb5.size
            have z6 := hb6.size
            have hb6x : Below (w.heap.size + 1) w2 w6 := ((hbx.trans (hb4.mono (by omega))).trans (hb5.mono (by omega))).trans (hb6.mono (by omega))
            simp -dsimp only [push_cast, Nat.reduceAdd, Nat.reduceLeDiff, Nat.reduceBEq, decide_true, ne_eq, eq_self, not_true_eq_false, not_false_eq_true, true_imp_iff, false_imp_iff, Int.reduceNe, Int.reduceEq, Int.reduceLT, Int.reduceLE, Bool.not_true, Bool.not_false]
            simp only [List.length_append, List.length_cons, List.length_nil]
            refine ⟨fun p2 => ⟨by omega, by omega, by omega, ?_⟩, fun p2' => ⟨by omega, ?_⟩⟩
            ·
              refine callK_of (write_c _ _ _ _ w6 U6 (by simp only [List.length_append, List.length_cons, List.length_nil]; omega) (by omega)) ?_
              rintro _ w7 ⟨U7, hb7⟩
              simp -dsimp only [push_cast, Nat.reduceAdd, Nat.reduceLeDiff, Nat.reduceBEq, decide_true, ne_eq, eq_self, not_true_eq_false, not_false_eq_true, true_imp_iff, false_imp_iff, Int.reduceNe, Int.reduceEq, Int.reduceLT, Int.reduceLE, Bool.not_true, Bool.not_false]
              refine ⟨⟨by omega, by omega⟩, ⟨i + 1, rfl, by omega, ?_, hb6x.trans hb7⟩, by rw [h32]; simp only [intOf]; omega⟩
              rw [ht, List.flatMap_append, List.flatMap_singleton]
              simpa [ruleText, hbrk, p1, p2] using U7
            ·
              have p2 := Classical.not_not.1 p2'
              refine callK_of (write_c _ _ _ _ w6 U6 (by simp only [List.length_append, List.length_cons, List.length_nil]; omega) (by omega)) ?_
              rintro _ w7 ⟨U7, hb7⟩
              simp -dsimp only [push_cast, Nat.reduceAdd, Nat.reduceLeDiff, Nat.reduceBEq, decide_true, ne_eq, eq_self, not_true_eq_false, not_false_eq_true, true_imp_iff, false_imp_iff, Int.reduceNe, Int.reduceEq, Int.reduceLT, Int.reduceLE, Bool.not_true, Bool.not_false]
              refine ⟨⟨by omega, by omega⟩, ⟨i + 1, rfl, by omega, ?_, hb6x.trans hb7⟩, by rw [h32]; simp only [intOf]; omega⟩
              rw [ht, List.flatMap_append, List.flatMap_singleton]
              simpa [ruleText, hbrk, p1, p2] using U7
          ·
            have p1 := Classical.not_not.1 p1'
            refine callK_of (ruleText_c c.after (hok.2 c hcm).2 (by omega) X (ptrP a.2.2.2) w5 (hV2.below hb5w) (hd.below hb5w hd.lt)) ?_
            rintro _ w6 ⟨rfl, hb6⟩
            have U6 := ((hU.below hb4).below hb5).below hb6
            have z5 := hb5.size
            have z6 := hb6.size
            have hb6x : Below (w.heap.size + 1) w2 w6 := ((hbx.trans (hb4.mono (by omega))).trans (hb5.mono (by omega))).trans (hb6.mono (by omega))
            simp -dsimp only [push_cast, Nat.reduceAdd, Nat.reduceLeDiff, Nat.reduceBEq, decide_true, ne_eq, eq_self, not_true_eq_false, not_false_eq_true, true_imp_iff, false_imp_iff, Int.reduceNe, Int.reduceEq, Int.reduceLT, Int.reduceLE, Bool.not_true, Bool.not_false]
            simp only [List.length_append, List.length_cons, List.length_nil]
            refine ⟨fun p2 => ⟨by omega, by omega, by omega, ?_⟩, fun p2' => ⟨by omega, ?_⟩⟩
            ·
              refine callK_of (write_c _ _ _ _ w6 U6 (by simp only [List.length_append, List.length_cons, List.length_nil]; omega) (by omega)) ?_
              rintro _ w7 ⟨U7, hb7⟩
              simp -dsimp only [push_cast, Nat.reduceAdd, Nat.reduceLeDiff, Nat.reduceBEq, decide_true, ne_eq, eq_self, not_true_eq_false, not_false_eq_true, true_imp_iff, false_imp_iff, Int.reduceNe, Int.reduceEq, Int.reduceLT, Int.reduceLE, Bool.not_true, Bool.not_false]
              refine ⟨⟨by omega, by omega⟩, ⟨i + 1, rfl, by omega, ?_, hb6x.trans hb7⟩, by rw [h32]; simp only [intOf]; omega⟩
              rw [ht, List.flatMap_append, List.flatMap_singleton]
              simpa [ruleText, hbrk, p1, p2] using U7
            ·
              have p2 := Classical.not_not.1 p2'
              refine callK_of (write_c _ _ _ _ w6 U6 (by simp only [List.length_append, List.length_cons, List.length_nil]; omega) (by omega)) ?_
              rintro _ w7 ⟨U7, hb7⟩
              simp -dsimp only [push_cast, Nat.reduceAdd, Nat.reduceLeDiff, Nat.reduceBEq, decide_true, ne_eq, eq_self, not_true_eq_false, not_false_eq_true, true_imp_iff, false_imp_iff, Int.reduceNe, Int.reduceEq, Int.reduceLT, Int.reduceLE, Bool.not_true, Bool.not_false]
              refine ⟨⟨by omega, by omega⟩, ⟨i + 1, rfl, by omega, ?_, hb6x.trans hb7⟩, by rw [h32]; simp only [intOf]; omega⟩
              rw [ht, List.flatMap_append, List.flatMap_singleton]
              simpa [ruleText, hbrk, p1, p2] using U7
      · have hin : i = f.rules.length := by omega
        subst hin
        rw [List.take_length] at hU
        have BXx : Blk wx w.heap.size 26 [.slice ca cs.length cc, .slice ra rs.length rc, .bool f.els] := BX2.below hbx (by omega)
        have d22 : wx.cell? ⟨w.heap.size, 2, none⟩ = some (.bool f.els) := BXx.cell rfl
        have hbw : Below w.heap.size w wx := b2.trans (hbx.mono (by omega))
        cases hels : f.els with
        | true =>
          rw [hels] at d22
          simp -dsimp only [push_cast, Nat.reduceAdd, Nat.reduceLeDiff, Nat.reduceBEq, decide_true, ne_eq, eq_self, not_true_eq_false, not_false_eq_true, true_imp_iff, false_imp_iff, Int.reduceNe, Int.reduceEq, Int.reduceLT, Int.reduceLE, Bool.not_true, Bool.not_false, d22]
          refine callK_of (bstring_c _ _ _ wx hU (by omega)) ?_
          rintro _ w7 ⟨rfl, hb7⟩
          simp -dsimp only [push_cast, Nat.reduceAdd, Nat.reduceLeDiff, Nat.reduceBEq, decide_true, ne_eq, eq_self, not_true_eq_false, not_false_eq_true, true_imp_iff, false_imp_iff, Int.reduceNe, Int.reduceEq, Int.reduceLT, Int.reduceLE, Bool.not_true, Bool.not_false]
          exact ⟨congrArg str (by simp [fileText, elseText, hels]), hbw.trans (hb7.mono (by omega))⟩
        | false =>
          rw [hels] at d22
          simp -dsimp only [push_cast, Nat.reduceAdd, Nat.reduceLeDiff, Nat.reduceBEq, decide_true, ne_eq, eq_self, not_true_eq_false, not_false_eq_true, true_imp_iff, false_imp_iff, Int.reduceNe, Int.reduceEq, Int.reduceLT, Int.reduceLE, Bool.not_true, Bool.not_false, d22]
          refine callK_of (write_c _ _ _ [101, 108, 115, 101, 32, 107, 101, 101, 112, 59, 10] wx hU (by simp only [List.length_append, List.length_cons, List.length_nil]; omega) (by omega)) ?_
          rintro _ w7 ⟨U7, hb7⟩
          have z7 := hb7.size
          simp -dsimp only [push_cast, Nat.reduceAdd, Nat.reduceLeDiff, Nat.reduceBEq, decide_true, ne_eq, eq_self, not_true_eq_false, not_false_eq_true, true_imp_iff, false_imp_iff, Int.reduceNe, Int.reduceEq, Int.reduceLT, Int.reduceLE, Bool.not_true, Bool.not_false]
          refine callK_of (bstring_c _ _ _ w7 U7 (by omega)) ?_
          rintro _ w8 ⟨rfl, hb8⟩
          simp -dsimp only [push_cast, Nat.reduceAdd, Nat.reduceLeDiff, Nat.reduceBEq, decide_true, ne_eq, eq_self, not_true_eq_false, not_false_eq_true, true_imp_iff, false_imp_iff, Int.reduceNe, Int.reduceEq, Int.reduceLT, Int.reduceLE, Bool.not_true, Bool.not_false]
          exact ⟨congrArg str (by simp [fileText, elseText, hels]), (hbw.trans (hb7.mono (by omega))).trans (hb8.mono (by omega))⟩
end Go.Proofs.YtieaebjkbhaoaaaGreatDoor
