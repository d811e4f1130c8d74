import Derived.Test.YtplbgmoeannobaaGreatDoorIsort
import Derived.Test.YtplbgmoeannobaaGreatDoorRset
import Derived.Test.YtplbgmoeannobaaGreatDoorPtold
/- The reference's told: the set of the points of which a question says yes. -/
namespace Go.Proofs.YtplbgmoeannobaaGreatDoor
open Go.Vc Go.Proofs Go.RowKit Cae
set_option maxRecDepth 100000
set_option linter.unusedSimpArgs false
set_option linter.unusedVariables false
attribute [local irreducible] wpL callK valK unitK runK Fun Sl Own vc vcOps opK pureK
set_option maxHeartbeats 8000000
def flatR (Ls : List (Value × List Rg)) : List Rg := Ls.flatMap (·.2)
theorem encZ_one (x : Int) : ∀ u ∈ encZ x, u.oneCell' = true := by simp [encZ, Value.oneCell']
/-- The places that one part brings. -/
theorem told_c (g : Int → Bool) (f : FuncId) (cap : List Value) (Ls : List (Value × List Rg)) (hl : (flatR Ls).length < 1000000) (hn : Ls.length < 1000) (X : Nat → Prop) (lb c : Nat) (hc : Ls.length ≤ c) (w : World)
    (hv : ∀ (i : Nat) (p : Value × List Rg), Ls[i]? = some p → w.cell? ⟨lb, i, none⟩ = some p.1 ∧ Sl X 2 (En encR) w p.1 p.2)
    (hg : AsksOf g (flatR Ls)) (hF : ∀ (p : Int) (w' : World), Below w.heap.size w w' → Fun Tryz.prog f (.int .i64 p :: cap) w' fun r w'' => r = .bool (g p) ∧ Below w'.heap.size w' w'') :
    Fun Tryz.prog 25 [.func (.func f) #[] cap.toArray, .slice (some ⟨lb, 0, none⟩) Ls.length c] w fun r w' => Own w.heap.size 42 2 encR w' r (toldP g (flatR Ls)) ∧ Below w.heap.size w w' := by
  refine fun_of_vc Tryz.func25 rfl (by kernel_rfl) [4] rfl ?_
  push_cast -dsimp (maxSteps := 4000000) [Tryz.ntmps25]
  refine rowK elI_75 rfl rfl (by omega) ?_
  intro w1 hw1
  have sz1 := hw1.size
  have ho1 : Own w.heap.size 3 1 encZ w1 (.slice (some ⟨w.heap.size, 0, none⟩) 2 2) (turns (flatR (Ls.take 0))) := hw1.own (l := turns (flatR (Ls.take 0))) rfl rfl (fun _ => rfl) (Nat.le_refl _) (by omega)
  have hb1 := hw1.below
  push_cast -dsimp
  refine wpL_loop [5, 7, 9, 16, 17, 18, 19, 20, 21, 22, 23, 24, 25, 26, 27, 28, 29, 30, 31, 32, 33, 34, 35, 36, 37, 38, 39, 40, 41, 42, 43, 44] (fun z wx => ∃ (i : Nat) (ov : Value), z 16 = .int .i64 i ∧ z 5 = ov ∧ i ≤ Ls.length ∧ Own w.heap.size 3 1 encZ wx ov (turns (flatR (Ls.take i))) ∧ Below w.heap.size w wx) (fun z _ => Ls.length - (intOf (z 16)).toNat) ?_ ?_
  · exact ⟨0, _, rfl, rfl, Nat.zero_le _, ho1, hb1⟩
  · intro z wx hI
    obtain ⟨i, ov, h16, h5, hi, hox, hbx⟩ := hI
    have szx := hbx.size
    push_cast -dsimp [h16, h5]
    refine ⟨fun hlt => ?_, fun hge => ?_⟩
    · obtain ⟨p, hp, _, hpd, hpt⟩ := lt_get (l := Ls) (i := i) (by omega)
      have hvp := hv i p hp
      obtain ⟨c0, hs⟩ := hvp
      have c0' : wx.cell? ⟨lb, i, none⟩ = some p.1 := (hbx.cell (World.block_lt_of_cell? _ _ c0)).trans c0
      obtain ⟨pv, pl⟩ := p
      simp only at hs c0'
      obtain ⟨pa, pc, rfl, hpc⟩ := hs.shape
      have eT : turns (flatR (Ls.take (i + 1))) = turns (flatR (Ls.take i)) ++ pl.flatMap turnsOf := by
        rw [hpt]; unfold flatR; rw [List.flatMap_append, turns_app]; simp
      have hsum : (flatR (Ls.take i)).length + pl.length ≤ (flatR Ls).length := by
        have e := congrArg (fun l => (flatR l).length) (List.take_append_drop i Ls)
        simp only [flatR, hpd, List.flatMap_append, List.flatMap_cons, List.length_append] at e ⊢
        omega
      have hgT : ∃ T0, turns (flatR (Ls.take i)) = T0 := ⟨_, rfl⟩
      obtain ⟨T0, hT0⟩ := hgT
      have hTl := turns_len (flatR (Ls.take i))
      rw [hT0] at hox eT hTl
      push_cast -dsimp [c0']
      refine ⟨⟨by omega, by omega⟩, ?_⟩
      refine wpL_loop [5, 9, 22, 23, 24, 25, 26, 27, 28, 29, 30, 31, 32, 33, 34, 35, 36, 37, 38, 39, 40, 41, 42, 43] (fun y wy => ∃ (j : Nat) (ou : Value), y 22 = .int .i64 j ∧ y 5 = ou ∧ j ≤ pl.length ∧ Own w.heap.size 3 1 encZ wy ou (T0 ++ (pl.take j).flatMap turnsOf) ∧ Below w.heap.size w wy) (fun y _ => pl.length - (intOf (y 22)).toNat) ?_ ?_
      · exact ⟨0, _, rfl, rfl, Nat.zero_le _, by rw [List.take_zero, List.flatMap_nil, List.append_nil]; exact hox, hbx⟩
      · intro y wy hJ
        obtain ⟨j, ou, h22, h5', hj, hoy, hby⟩ := hJ
        have szy := hby.size
        have hjl := flat_turns (pl.take j)
        rw [List.length_take] at hjl
        push_cast -dsimp [h22, h5']
        refine ⟨fun hlt2 => ?_, fun hge2 => ?_⟩
        · have hgx := lt_get (l := pl) (i := j) (by omega)
          obtain ⟨x, hx, hxm, _, hxt⟩ := hgx
          have hgx := (hs.below hby).get hx
          obtain ⟨b, o, rfl, hnb, hcell⟩ := hgx
          have cx : cellsAt wy ⟨b, o + j * 2, none⟩ 0 2 = some [.int .i64 x.1, .int .i64 x.2] := cellsAt_of (encR x) 0 (fun j u hu => by simpa using hcell j u hu)
          have eT2 : T0 ++ (pl.take (j + 1)).flatMap turnsOf = T0 ++ (pl.take j).flatMap turnsOf ++ turnsOf x := by
            rw [hxt, List.flatMap_append]; simp
          have hgU : ∃ U0, T0 ++ (pl.take j).flatMap turnsOf = U0 := ⟨_, rfl⟩
          obtain ⟨U0, hU0⟩ := hgU
          have hUl := congrArg List.length hU0
          rw [List.length_append] at hUl
          rw [hU0] at hoy eT2
          have hsh := hoy.slice
          obtain ⟨ya, yc, rfl⟩ := hsh
          push_cast -dsimp [cx]
          refine ⟨⟨by omega, by omega⟩, ?_⟩
          refine allocK (z := [.int .i64 0, .int .i64 0]) (by kernel_rfl) ?_
          intro w3 hw3
          have sz3 := hw3.size
          push_cast -dsimp
          refine storeAgg (n := 2) (by kernel_rfl) hw3.blk rfl (by simp) (by simp [Value.oneCell']) ?_
          intro w4 hw4
          have sz4 := hw4.size
          have B4 : Blk w4 wy.heap.size 42 [.int .i64 x.1, .int .i64 x.2] := hw4.blk
          have c1 : w4.cell? ⟨wy.heap.size, 0, none⟩ = some (.int .i64 x.1) := B4.cell rfl
          have c2 : w4.cell? ⟨wy.heap.size, 1, none⟩ = some (.int .i64 x.2) := B4.cell rfl
          have k4 : Kept (fun j => j = wy.heap.size) wy w4 := (Kept.new hw3).trans hw4.kept (fun _ _ h => h)
          have ho4 := hoy.keptX k4 (fun g hg h => by have := hoy.block g hg; omega)
          have hb4 : Below w.heap.size w w4 := hby.trans (k4.below szy (fun _ h => by omega))
          push_cast -dsimp [c1]
          refine callK_of (rin_c x.1 0 1114111 w4) ?_
          rintro _ w4 ⟨rfl, rfl⟩
          have fin : ∀ (t5 : Value) (w5 : World) (V : List Int), turnsOf x = V → Own w.heap.size 3 1 encZ w5 t5 (U0 ++ V) → Own w.heap.size 3 1 encZ w5 t5 (T0 ++ (pl.take (j + 1)).flatMap turnsOf) := fun t5 w5 V e h => by rw [eT2, e]; exact h
          have dn : ∀ k : Int, ¬ (0 ≤ k ∧ k ≤ 1114111) → decide (0 ≤ k ∧ k ≤ 1114111) = false := fun k h => decide_eq_false h
          have dy : ∀ k : Int, (0 ≤ k ∧ k ≤ 1114111) → decide (0 ≤ k ∧ k ≤ 1114111) = true := fun k h => decide_eq_true h
          by_cases q1 : 0 ≤ x.1 ∧ x.1 ≤ 1114111
          · have e1 := dy _ q1
            push_cast -dsimp [c1, e1]
            -- x.1: the value; ho4: Own of the places; hb4: the world's order; 0: the slice's block; 1: the new names' mark
            refine rowK elI_75 rfl rfl (by omega) ?_
            intro wa1 hwa1
            have sza1 := hwa1.size
            have hoa1 := (ho4).new hwa1
            push_cast -dsimp
            refine appendK2 (base := w.heap.size) [x.1] (enc := encZ) elI_75 hoa1 (by rfl) (fun j u hu => by simpa [encZ] using hwa1.cell hu) encZ_one (by simp only [List.length_append, List.length_cons, List.length_nil]; omega) (by omega) ?_
            intro vb1 wb1 hob1 hgb1 _
            have kk1 := Kept.grown hgb1 (fun _ h => h)
            have hkb1 : Below w.heap.size w wb1 := ((hb4).trans (hwa1.below.mono (by omega))).trans (kk1.below (by omega) (fun j h => (hoa1.block j h).1))
            have z1 := kk1.size
            have e2 : wb1.cell? ⟨wy.heap.size, 1, none⟩ = some (.int .i64 x.2) := ((B4.below hwa1.below B4.lt).kept kk1 (fun h => by have := hoy.block _ h; omega)).cell rfl
            have hsh := hob1.slice
            obtain ⟨za, zc, rfl⟩ := hsh
            push_cast -dsimp [e2]
            refine callK_of (rin_c x.2 0 1114111 wb1) ?_
            rintro _ wb1 ⟨rfl, rfl⟩
            by_cases q2 : 0 ≤ x.2 ∧ x.2 ≤ 1114111
            · have e3 := dy _ q2
              push_cast -dsimp [e2, e3]
              refine ⟨⟨by omega, by omega⟩, ?_⟩
              -- (x.2 + 1): the value; hob1: Own of the places; hkb1: the world's order; 0: the slice's block; 2: the new names' mark
              refine rowK elI_75 rfl rfl (by omega) ?_
              intro wa2 hwa2
              have sza2 := hwa2.size
              have hoa2 := (hob1).new hwa2
              push_cast -dsimp
              refine appendK2 (base := w.heap.size) [(x.2 + 1)] (enc := encZ) elI_75 hoa2 (by rfl) (fun j u hu => by simpa [encZ] using hwa2.cell hu) encZ_one (by simp only [List.length_append, List.length_cons, List.length_nil]; omega) (by omega) ?_
              intro vb2 wb2 hob2 hgb2 _
              have kk2 := Kept.grown hgb2 (fun _ h => h)
              have hkb2 : Below w.heap.size w wb2 := ((hkb1).trans (hwa2.below.mono (by omega))).trans (kk2.below (by omega) (fun j h => (hoa2.block j h).1))
              push_cast -dsimp
              exact ⟨⟨by omega, by omega⟩, ⟨j + 1, _, rfl, rfl, by omega, fin _ _ [x.1, x.2 + 1] (by unfold turnsOf; rw [if_pos q1, if_pos q2]; rfl) (by rw [List.append_assoc] at hob2; exact hob2), hkb2⟩, by rw [h22]; simp only [intOf]; omega⟩
            · have e3 := dn _ q2
              push_cast -dsimp [e3]
              exact ⟨⟨by omega, by omega⟩, ⟨j + 1, _, rfl, rfl, by omega, fin _ _ [x.1] (by unfold turnsOf; rw [if_pos q1, if_neg q2]; rfl) hob1, hkb1⟩, by rw [h22]; simp only [intOf]; omega⟩
          · have e1 := dn _ q1
            push_cast -dsimp [c2, e1]
            refine callK_of (rin_c x.2 0 1114111 w4) ?_
            rintro _ w4 ⟨rfl, rfl⟩
            by_cases q2 : 0 ≤ x.2 ∧ x.2 ≤ 1114111
            · have e3 := dy _ q2
              push_cast -dsimp [c2, e3]
              refine ⟨⟨by omega, by omega⟩, ?_⟩
              -- (x.2 + 1): the value; ho4: Own of the places; hb4: the world's order; 0: the slice's block; 3: the new names' mark
              refine rowK elI_75 rfl rfl (by omega) ?_
              intro wa3 hwa3
              have sza3 := hwa3.size
              have hoa3 := (ho4).new hwa3
              push_cast -dsimp
              refine appendK2 (base := w.heap.size) [(x.2 + 1)] (enc := encZ) elI_75 hoa3 (by rfl) (fun j u hu => by simpa [encZ] using hwa3.cell hu) encZ_one (by simp only [List.length_append, List.length_cons, List.length_nil]; omega) (by omega) ?_
              intro vb3 wb3 hob3 hgb3 _
              have kk3 := Kept.grown hgb3 (fun _ h => h)
              have hkb3 : Below w.heap.size w wb3 := ((hb4).trans (hwa3.below.mono (by omega))).trans (kk3.below (by omega) (fun j h => (hoa3.block j h).1))
              push_cast -dsimp
              exact ⟨⟨by omega, by omega⟩, ⟨j + 1, _, rfl, rfl, by omega, fin _ _ [x.2 + 1] (by unfold turnsOf; rw [if_neg q1, if_pos q2]; rfl) hob3, hkb3⟩, by rw [h22]; simp only [intOf]; omega⟩
            · have e3 := dn _ q2
              push_cast -dsimp [e3]
              exact ⟨⟨by omega, by omega⟩, ⟨j + 1, _, rfl, rfl, by omega, fin _ _ [] (by unfold turnsOf; rw [if_neg q1, if_neg q2]; rfl) (by rw [List.append_nil]; exact ho4), hb4⟩, by rw [h22]; simp only [intOf]; omega⟩
        · rw [List.take_of_length_le (by omega), ← eT] at hoy
          exact ⟨⟨by omega, by omega⟩, ⟨i + 1, _, rfl, rfl, by omega, hoy, hby⟩, by rw [h16]; simp only [intOf]; omega⟩
    · rw [List.take_of_length_le (by omega)] at hox
      have hts := turns_sorted (flatR Ls)
      have htl := turns_len (flatR Ls)
      have hgA : ∃ A, (turns (flatR Ls)).mergeSort (fun a b => decide (a ≤ b)) = A := ⟨_, rfl⟩
      obtain ⟨A, hA⟩ := hgA
      refine callK_of (sortInts_c (turns (flatR Ls)) (fun h => by have := congrArg List.length h; unfold turns at this; simp at this) (by omega) _ _ wx hox) ?_
      rintro r2 w2 ⟨hoA, hk2⟩
      have sz2 := hk2.size
      rw [hA] at hoA hts
      have hAl := hts.1.length_eq
      have hb2 : Below w.heap.size w w2 := hbx.trans (hk2.below szx (fun j h => (hox.block j h).1))
      have hT : toldP g (flatR Ls) = toldGo g [] A := by unfold toldP; rw [hA]
      have hsh := hoA.slice
      obtain ⟨va, vc, rfl⟩ := hsh
      have hfst := told_first (g := g) hts.1 hts.2
      have hA2 : 2 ≤ A.length := by rw [hAl]; unfold turns; rw [List.length_append]; simp
      have hsA := hoA.sl
      push_cast -dsimp
      refine wpL_loop [10, 11, 12, 47, 48, 49, 50, 51, 52, 53, 54, 55, 56, 57, 58, 59, 60, 61, 62, 63, 64, 65, 66, 67, 68, 69, 70, 71, 72, 73, 74, 75, 76, 77, 78, 79, 80, 81, 82, 83, 84, 85, 86, 87, 88, 89, 90, 91, 92, 93, 94, 95, 96, 97, 98, 99, 100, 101, 102, 103, 104, 105, 106, 107, 108, 109, 110, 111, 112, 113, 114, 115] (fun y wy => ∃ (k : Nat) (ov : Value) (out : List Rg) (a : Int), y 11 = .int .i64 k ∧ y 10 = ov ∧ A[k]? = some a ∧ ToldI g out a ∧ toldGo g out (A.drop k) = toldP g (flatR Ls) ∧ out.length ≤ k ∧ Own w2.heap.size 42 2 encR wy ov out ∧ Below w2.heap.size w2 wy) (fun y _ => A.length - (intOf (y 11)).toNat) ?_ ?_
      · obtain ⟨a0, ha0, hI0⟩ := hfst
        exact ⟨0, _, [], a0, rfl, rfl, ha0, hI0, hT.symm, Nat.le_refl _, Own.nil (enc := encR) _ _ (fun _ => rfl) _, Below.refl _ _⟩
      · intro y wy hJ
        obtain ⟨k, ov, out, a, h11, h10, ha, hIa, hgo, hol, hoy, hby⟩ := hJ
        have szy := hby.size
        have hka := (List.getElem?_eq_some_iff.1 ha).1
        push_cast -dsimp [h11, h10]
        refine ⟨⟨by omega, by omega⟩, fun hlt => ?_, fun hge => ?_⟩
        · have hgb := lt_get (l := A) (i := k + 1) (by omega)
          obtain ⟨b, hb, _⟩ := hgb
          have hnx := told_next hts.1 hts.2 hg ha hb hIa
          obtain ⟨hIb, h0a, hab, hbm⟩ := hnx
          have hst := toldGo_step (g := g) (out := out) ha hb
          have hsl := stepRg_len g out a b
          have ek : ((k : Int) + 1).toNat = k + 1 := by omega
          have hsy := hsA.below hby
          have hget := hsy.get ha
          obtain ⟨ab, ao, rfl, hnab, hca⟩ := hget
          have hget := hsy.get hb
          obtain ⟨_, _, hee, _, hcb⟩ := hget
          cases hee
          have ca : wy.drew.cell? ⟨ab, ao + k, none⟩ = some (.int .i64 a) := by have := hca 0 _ rfl; simpa using this
          have cb : wy.drew.cell? ⟨ab, ao + (k + 1), none⟩ = some (.int .i64 b) := by have := hcb 0 _ rfl; simpa using this
          have lab := World.block_lt_of_cell? _ _ ca
          refine wpL_draw (fun w' => Below w2.heap.size w2 w') mixed (by kernel_rfl) hby.drew ?_
          have La : ∀ w'' : World, Below w2.heap.size w2 w'' → w''.cell? ⟨ab, ao + k, none⟩ = some (.int .i64 a) := fun w'' h => by
            have h' := (hsA.below h).get ha
            obtain ⟨_, _, hee, _, hcc⟩ := h'
            cases hee
            have := hcc 0 _ rfl; simpa using this
          have Lb : ∀ w'' : World, Below w2.heap.size w2 w'' → w''.cell? ⟨ab, ao + (k + 1), none⟩ = some (.int .i64 b) := fun w'' h => by
            have h' := (hsA.below h).get hb
            obtain ⟨_, _, hee, _, hcc⟩ := h'
            cases hee
            have := hcc 0 _ rfl; simpa using this
          have La' : ∀ w'' : World, Below w2.heap.size w2 w'' → optK (w''.cell? ⟨ab, ao + k, none⟩) (fun x => x = .int .i64 a) .mk := fun w'' h => by rw [La w'' h]; exact rfl
          have Lb' : ∀ w'' : World, Below w2.heap.size w2 w'' → optK (w''.cell? ⟨ab, ao + (k + 1), none⟩) (fun x => x = .int .i64 b) .mk := fun w'' h => by rw [Lb w'' h]; exact rfl
          push_cast -dsimp [ca, cb, ek]
          refine ⟨⟨by omega, by omega⟩, La', ⟨by omega, by omega⟩, ⟨by omega, by omega⟩, Lb', fun hne => ⟨⟨by omega, by omega⟩, La', ?_⟩, fun heq => ⟨⟨by omega, by omega⟩, ?_, by rw [h11]; simp only [intOf]; omega⟩⟩
          · refine callK_of (hF a wy.drew (hb2.trans (hby.mono hb2.size).drew)) ?_
            rintro _ w3 ⟨rfl, hb3⟩
            have sz3 := hb3.size
            have hoyd := hoy.keptX (Kept.refl (fun _ => False) wy).drew (fun _ _ h => h)
            have hoy3 := hoyd.below hb3
            have hby3 : Below w2.heap.size w2 w3 := hby.drew.trans (hb3.mono szy)
            refine ⟨hby3, ?_⟩
            cases hga : g a with
            | false =>
              have hso : stepRg g out a b = out := by unfold stepRg; rw [if_pos (.inr hga)]
              rw [hso] at hIb hst
              push_cast -dsimp
              exact ⟨⟨by omega, by omega⟩, ⟨k + 1, _, out, b, rfl, rfl, hb, hIb, hst.symm.trans hgo, by omega, hoy3, hby3⟩, by rw [h11]; simp only [intOf]; omega⟩
            | true =>
              have hso : stepRg g out a b = joinRg out a b := by unfold stepRg; rw [if_neg (by rintro (h | h); exact hne h; rw [hga] at h; cases h)]
              rw [hso] at hIb hst hsl
              have hsh := hoy3.slice
              obtain ⟨oa, oc, rfl⟩ := hsh
              have ca3 := La _ hby3
              have cb3 := Lb _ hby3
              push_cast -dsimp
              cases hn : out.length with
              | zero =>
                have hnil : out = [] := List.eq_nil_of_length_eq_zero hn
                subst hnil
                refine wpL_draw (fun w' => w' = w3.drew) mixed (by kernel_rfl) rfl ?_
                push_cast -dsimp
                -- w3.drew: the world; (hoy3.keptX (Kept.refl (fun _ => False) _).drew (fun _ _ h => h)): Own; hby3.drew: its order; 4: mark
                have hC0 := hby3.drew
                have hC1 := hC0.drew
                have fa := La _ hC1
                have fb := Lb _ hC1
                have ho6 := (hoy3.keptX (Kept.refl (fun _ => False) _).drew (fun _ _ h => h))
                have ho6' := ho6.keptX (Kept.refl (fun _ => False) _).drew (fun _ _ h => h)
                refine wpL_draw (fun w' => Below w2.heap.size w2 w') mixed (by kernel_rfl) hC1 ?_
                push_cast -dsimp [fa, fb, ek]
                refine ⟨⟨by omega, by omega⟩, La', ⟨by omega, by omega⟩, ⟨by omega, by omega⟩, Lb', ⟨by omega, by omega⟩, ?_⟩
                refine rowK elI_24 rfl rfl (by omega) ?_
                intro w7 hw7
                have sz7 := hw7.size
                have hC7 := hC1.trans (hw7.below.mono hC1.size)
                have ho7 := ho6'.new hw7
                refine ⟨hC7, ?_⟩
                push_cast -dsimp
                refine appendK2 (base := w2.heap.size) [(a, b - 1)] (enc := encR) elI_24 ho7 (by rfl) (fun j u hu => by simpa [encR] using hw7.cell hu) encR_one (by simp only [List.length_cons, List.length_nil]; omega) hC7.size ?_
                intro v8 w8 ho8 hg8 _
                have k8 := Kept.grown hg8 (fun _ h => h)
                have hC8 := hC7.trans (k8.below hC7.size (fun j h => (ho7.block j h).1))
                refine ⟨hC8, ?_⟩
                push_cast -dsimp
                exact ⟨⟨by omega, by omega⟩, ⟨k + 1, _, _, b, rfl, rfl, hb, hIb, hst.symm.trans hgo, Nat.le_trans hsl (by simp), ho8, hC8⟩, by rw [h11]; simp only [intOf]; omega⟩
              | succ n =>
                have e6 : ((n : Nat) : Int) + 1 - 1 = ((n : Nat) : Int) := by omega
                have hq := List.getElem?_eq_getElem (l := out) (i := n) (by omega)
                have hgq : ∃ q, out[n]'(by omega) = q := ⟨_, rfl⟩
                obtain ⟨q, hqe⟩ := hgq
                rw [hqe] at hq
                have hlast : out.getLast? = some q := by rw [List.getLast?_eq_getElem?, hn]; exact hq
                have hqr := setRight_sorted out (-2) hIa.right n q hq
                have hg := hoy3.sl.get hq
                obtain ⟨gb, o', rfl, _, hcq⟩ := hg
                have ho0 : o' = 0 := Own.at0R hoy3
                subst ho0
                have c2 : w3.drew.cell? ⟨gb, n * 2 + 1, none⟩ = some (.int .i64 q.2) := by have := hcq 1 _ rfl; simpa using this
                have L : ∀ {ad : Addr} {u : Value}, w3.drew.cell? ad = some u → ∀ w'' : World, w'' = w3.drew → optK (w''.cell? ad) (fun x => x = u) .mk := fun h w'' e => by rw [e, h]; exact rfl
                have ca4 : w3.drew.cell? ⟨ab, ao + k, none⟩ = some (.int .i64 a) := ca3
                refine wpL_draw (fun w' => w' = w3.drew) mixed (by kernel_rfl) rfl ?_
                have cb4 : w3.drew.cell? ⟨ab, ao + (k + 1), none⟩ = some (.int .i64 b) := cb3
                push_cast -dsimp [e6, c2, ca4, cb4, ek]
                rw [hn] at hoy3
                refine ⟨fun _ => ⟨⟨by omega, by omega⟩, ⟨by omega, by omega⟩, L c2, ⟨by omega, by omega⟩, ⟨by omega, by omega⟩, L ca4, fun hm => ?_, fun hm => ?_⟩, fun h => absurd h (by omega)⟩
                · have hst2 : joinRg out a b = out.set n (q.1, b - 1) := by
                    unfold joinRg
                    rw [hlast]
                    dsimp only
                    rw [if_pos hm, List.dropLast_eq_take, hn, List.set_eq_take_append_cons_drop, if_pos (by omega), List.drop_eq_nil_of_le (by omega)]
                    rfl
                  rw [hst2] at hIb hst hsl
                  refine ⟨⟨by omega, by omega⟩, ⟨by omega, by omega⟩, ⟨by omega, by omega⟩, ⟨by omega, by omega⟩, ⟨by omega, by omega⟩, ?_⟩
                  have hod := hoy3.keptX (Kept.refl (fun _ => False) _).drew (fun _ _ h => h)
                  refine storeOwnF (i := n) (f := 1) (y := (q.1, b - 1)) hod rfl hq (by omega) rfl rfl ?_
                  intro w8 ho8 hk8 sz8
                  have hgb' := (hod.block gb rfl).1
                  have hC8 := hby3.drew.trans (hk8.below hby3.drew.size (fun j h => by omega))
                  push_cast -dsimp
                  exact ⟨⟨by omega, by omega⟩, ⟨k + 1, _, _, b, rfl, rfl, hb, hIb, hst.symm.trans hgo, by omega, ho8, hC8⟩, by rw [h11]; simp only [intOf]; omega⟩
                · have hst2 : joinRg out a b = out ++ [(a, b - 1)] := by
                    unfold joinRg
                    rw [hlast]
                    dsimp only
                    rw [if_neg hm]
                  -- w3.drew: the world; (hoy3.keptX (Kept.refl (fun _ => False) _).drew (fun _ _ h => h)): Own; hby3.drew: its order; 5: mark
                  have hC0 := hby3.drew
                  have hC1 := hC0.drew
                  have fa := La _ hC1
                  have fb := Lb _ hC1
                  have ho6 := (hoy3.keptX (Kept.refl (fun _ => False) _).drew (fun _ _ h => h))
                  have ho6' := ho6.keptX (Kept.refl (fun _ => False) _).drew (fun _ _ h => h)
                  refine wpL_draw (fun w' => Below w2.heap.size w2 w') mixed (by kernel_rfl) hC1 ?_
                  push_cast -dsimp [fa, fb, ek]
                  refine ⟨⟨by omega, by omega⟩, La', ⟨by omega, by omega⟩, ⟨by omega, by omega⟩, Lb', ⟨by omega, by omega⟩, ?_⟩
                  refine rowK elI_24 rfl rfl (by omega) ?_
                  intro w7 hw7
                  have sz7 := hw7.size
                  have hC7 := hC1.trans (hw7.below.mono hC1.size)
                  have ho7 := ho6'.new hw7
                  refine ⟨hC7, ?_⟩
                  push_cast -dsimp
                  refine appendK2 (base := w2.heap.size) [(a, b - 1)] (enc := encR) elI_24 ho7 (by rfl) (fun j u hu => by simpa [encR] using hw7.cell hu) encR_one (by simp only [List.length_cons, List.length_nil]; omega) hC7.size ?_
                  intro v8 w8 ho8 hg8 _
                  have k8 := Kept.grown hg8 (fun _ h => h)
                  have hC8 := hC7.trans (k8.below hC7.size (fun j h => (ho7.block j h).1))
                  refine ⟨hC8, ?_⟩
                  push_cast -dsimp
                  exact ⟨⟨by omega, by omega⟩, ⟨k + 1, _, _, b, rfl, rfl, hb, (hst2 ▸ hIb), (by rw [← hst2]; exact hst.symm.trans hgo), (by rw [← hst2]; omega), ho8, hC8⟩, by rw [h11]; simp only [intOf]; omega⟩
          · have hso : stepRg g out a b = out := by unfold stepRg; rw [if_pos (.inl heq)]
            rw [hso] at hIb hst
            exact ⟨k + 1, _, out, b, rfl, rfl, hb, hIb, hst.symm.trans hgo, by omega, hoy.keptX (Kept.refl (fun _ => False) _).drew (fun _ _ h => h), hby.drew⟩
        · rw [toldGo_end (by omega)] at hgo
          rw [hgo] at hoy
          exact ⟨hoy.mono (by omega), hb2.trans (hby.mono (by omega))⟩
end Go.Proofs.YtplbgmoeannobaaGreatDoor
