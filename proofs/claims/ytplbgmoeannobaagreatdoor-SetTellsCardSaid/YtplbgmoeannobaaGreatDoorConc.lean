import Derived.Test.YtplbgmoeannobaaGreatDoorGrow
import Derived.Test.YtplbgmoeannobaaGreatDoorSo2
import Derived.Test.YtplbgmoeannobaaGreatDoorNot
namespace Go.Proofs.YtplbgmoeannobaaGreatDoor
open Go.Vc Go.Proofs Go.RowKit Cae
set_option maxRecDepth 100000
set_option linter.unusedSimpArgs false
set_option linter.unusedVariables false
attribute [local irreducible] wpL callK valK unitK runK Fun Sl Own vc vcOps opK pureK
set_option maxHeartbeats 4000000

theorem concLen {α β : Type} (L : List α) (f : α → List β) (i : Nat) : ((L.take i).flatMap f).length ≤ (L.flatMap f).length := by
  conv => rhs; rw [← List.take_append_drop i L, List.flatMap_append, List.length_append]
  omega
theorem concat_c (Ls : List (Value × List Rg)) (hl : (Ls.flatMap (·.2)).length < 100000000) (hn : Ls.length < 1000000) (X : Nat → Prop) (g c : Nat) (hc : Ls.length ≤ c) (w : World)
    (hv : ∀ (i : Nat) (p : Value × List Rg), Ls[i]? = some p → w.cell? ⟨g, i, none⟩ = some p.1 ∧ Sl X 2 (En encR) w p.1 p.2 ∧ Arg p.1) :
    Fun Tryz.prog 33 [.slice (some ⟨g, 0, none⟩) Ls.length c] w fun r w' => Own w.heap.size 42 2 encR w' r (Ls.flatMap (·.2)) ∧ Below w.heap.size w w' := by
  refine fun_of_vc Tryz.func33 rfl (by kernel_rfl) [2] rfl ?_
  push_cast -dsimp (maxSteps := 4000000) [Tryz.ntmps33]
  refine wpL_loop [3, 5, 11, 12, 13, 14, 15, 16, 17, 18, 19, 20, 21, 22] (fun z wx => ∃ (i : Nat), z 11 = .int .i64 i ∧ z 3 = .int .i64 (((Ls.take i).flatMap (·.2)).length : Nat) ∧ i ≤ Ls.length ∧ wx = w) (fun z _ => Ls.length - (intOf (z 11)).toNat) ?_ ?_
  · exact ⟨0, rfl, rfl, Nat.zero_le _, rfl⟩
  · intro z wx hI
    obtain ⟨i, h11, h3, hi, rfl⟩ := hI
    have hcl := concLen Ls (·.2) i
    have hcl1 := concLen Ls (·.2) (i + 1)
    push_cast -dsimp [h11, h3]
    refine ⟨fun hlt => ?_, fun hge => ?_⟩
    · have hg := lt_get (l := Ls) (i := i) (by omega)
      obtain ⟨p, hp, _, _, ht⟩ := hg
      have hvp := hv i p hp
      obtain ⟨c0, hs, hA⟩ := hvp
      have c0' := c0
      have e1 : ((Ls.take (i + 1)).flatMap (·.2)).length = ((Ls.take i).flatMap (·.2)).length + p.2.length := by
        rw [ht, List.flatMap_append, List.length_append]; simp
      have hsh := hs.shape
      obtain ⟨pa, pc, hpv, hpc⟩ := hsh
      rw [hpv] at c0'
      push_cast -dsimp [c0']
      refine ⟨⟨by omega, by omega⟩, ⟨by omega, by omega⟩, fun h => absurd h (by omega), fun _ => ⟨⟨by omega, by omega⟩, ⟨i + 1, rfl, by rw [e1, Int.natCast_add], by omega⟩, by rw [h11]; simp only [intOf]; omega⟩⟩
    · have hin : i = Ls.length := by omega
      subst hin
      rw [List.take_length]
      refine callK_of (grow_c _ (by omega) wx) ?_
      rintro v1 w1 ⟨ho1, hb1⟩
      have sz1 := hb1.size
      push_cast -dsimp
      refine wpL_loop [6, 8, 27, 28, 29, 30, 31, 32, 33, 34] (fun z w2 => ∃ (i : Nat) (ov : Value), z 27 = .int .i64 i ∧ z 6 = ov ∧ i ≤ Ls.length ∧ Own wx.heap.size 42 2 encR w2 ov ((Ls.take i).flatMap (·.2)) ∧ Below wx.heap.size wx w2) (fun z _ => Ls.length - (intOf (z 27)).toNat) ?_ ?_
      · exact ⟨0, _, rfl, rfl, Nat.zero_le _, ho1, hb1⟩
      · intro y w2 hJ
        obtain ⟨i, ov, h27, h6, hi, ho2, hb2⟩ := hJ
        have sz2 := hb2.size
        have hcl := concLen Ls (·.2) i
        have hcl1 := concLen Ls (·.2) (i + 1)
        push_cast -dsimp [h27, h6]
        refine ⟨fun hlt => ?_, fun hge => ?_⟩
        · have hg := lt_get (l := Ls) (i := i) (by omega)
          obtain ⟨p, hp, _, _, ht⟩ := hg
          have hvp := hv i p hp
          obtain ⟨c0, hs, hA⟩ := hvp
          have c0' : w2.cell? ⟨g, i, none⟩ = some p.1 := (hb2.cell (World.block_lt_of_cell? _ _ c0)).trans c0
          have hsh := hs.shape
          obtain ⟨pa, pc, hpv, hpc⟩ := hsh
          rw [hpv] at c0' hs hA
          have e1 : (Ls.take (i + 1)).flatMap (·.2) = (Ls.take i).flatMap (·.2) ++ p.2 := by
            rw [ht, List.flatMap_append]; simp
          have e2 := congrArg List.length e1
          rw [List.length_append] at e2
          have hsh := ho2.slice
          obtain ⟨oa, oc, rfl⟩ := hsh
          push_cast -dsimp [c0']
          refine ⟨⟨by omega, by omega⟩, ?_⟩
          refine appendAny (base := wx.heap.size) (enc := encR) (ys := p.2) elI_24 ho2 (hs.below hb2) hA encR_one (by omega) (by omega) ?_
          intro v3 w3 ho3 hg3 hb3
          rw [← e1] at ho3
          push_cast -dsimp
          exact ⟨⟨by omega, by omega⟩, ⟨i + 1, _, rfl, rfl, by omega, ho3, hb2.trans hb3⟩, by rw [h27]; simp only [intOf]; omega⟩
        · have hin : i = Ls.length := by omega
          subst hin
          rw [List.take_length] at ho2
          have hsh := ho2.slice
          obtain ⟨oa, oc, rfl⟩ := hsh
          exact ⟨ho2, hb2⟩
def encV (v : Value) : List Value := [v]
theorem or_c (s t : List Rg) (hs : s.length < 10000000) (ht : t.length < 10000000) (X : Nat → Prop) (va vb : Value) (w : World) (hva : Sl X 2 (En encR) w va s) (hvb : Sl X 2 (En encR) w vb t) (hA : Arg va) (hB : Arg vb) :
    Fun Tryz.prog 11 [va, vb] w fun r w' => Own w.heap.size 42 2 encR w' r (setOr s t) ∧ Below w.heap.size w w' := by
  have hsh := hva.shape
  obtain ⟨a1, c1, e1, _⟩ := hsh
  have hsh := hvb.shape
  obtain ⟨a2, c2, e2, _⟩ := hsh
  refine fun_of_vc Tryz.func11 rfl (by kernel_rfl) [4] rfl ?_
  push_cast -dsimp (maxSteps := 4000000) [Tryz.ntmps11]
  refine rowK elI_80 (by rw [e1, e2]; rfl) rfl (by omega) ?_
  intro w1 hw1
  have sz1 := hw1.size
  have d0 := hw1.cell (j := 0) (u := va) (by rw [e1, e2]; rfl)
  have d1 := hw1.cell (j := 1) (u := vb) (by rw [e1, e2]; rfl)
  push_cast -dsimp
  refine callK_of (concat_c [(va, s), (vb, t)] (by simp; omega) (by simp) X w.heap.size 2 (by simp) w1 ?_) ?_
  · intro i p hp
    match i, hp with
    | 0, hp => cases hp; exact ⟨d0, hva.below hw1.below, hA⟩
    | 1, hp => cases hp; exact ⟨d1, hvb.below hw1.below, hB⟩
    | n + 2, hp => cases hp
  rintro v2 w2 ⟨ho2, hb2⟩
  rw [show [(va, s), (vb, t)].flatMap (·.2) = s ++ t by simp] at ho2
  push_cast -dsimp
  refine callK_of (of_c (s ++ t) (by rw [List.length_append]; omega) _ _ w2 ho2.sl ho2.nilArg) ?_
  rintro v3 w3 ⟨ho3, hb3⟩
  push_cast -dsimp
  have sz2 := hb2.size
  exact ⟨ho3.mono (by omega), (hw1.below.trans (hb2.mono (by omega))).trans (hb3.mono (by omega))⟩
theorem and_c (s t : List Rg) (hs : s.length < 1000000) (ht : t.length < 1000000) (hrs : setRight (-2) s = true) (hrt : setRight (-2) t = true) (X : Nat → Prop) (va vb : Value) (w : World) (hva : Sl X 2 (En encR) w va s) (hvb : Sl X 2 (En encR) w vb t) :
    Fun Tryz.prog 13 [va, vb] w fun r w' => Own w.heap.size 42 2 encR w' r (setAnd s t) ∧ Below w.heap.size w w' := by
  have n1 := setNot_len s
  have n2 := setNot_len t
  have n3 := setOr_len (setNot s) (setNot t)
  refine fun_of_vc Tryz.func13 rfl (by kernel_rfl) [4] rfl ?_
  push_cast -dsimp (maxSteps := 4000000) [Tryz.ntmps13]
  refine callK_of (not_c s (by omega) hrs X va w hva) ?_
  rintro v1 w1 ⟨ho1, hb1⟩
  have sz1 := hb1.size
  push_cast -dsimp
  refine callK_of (not_c t (by omega) hrt X vb w1 (hvb.below hb1)) ?_
  rintro v2 w2 ⟨ho2, hb2⟩
  have sz2 := hb2.size
  push_cast -dsimp
  refine callK_of (or_c (setNot s) (setNot t) (by omega) (by omega) (fun _ => False) v1 v2 w2 ((ho1.sl.weaken (fun _ h => h.elim)).below hb2) (ho2.sl.weaken (fun _ h => h.elim)) ho1.nilArg ho2.nilArg) ?_
  rintro v3 w3 ⟨ho3, hb3⟩
  have sz3 := hb3.size
  push_cast -dsimp
  refine callK_of (not_c (setOr (setNot s) (setNot t)) (by omega) (setOr_right _ _) (fun _ => False) v3 w3 (ho3.sl.weaken (fun _ h => h.elim))) ?_
  rintro v4 w4 ⟨ho4, hb4⟩
  push_cast -dsimp
  exact ⟨ho4.mono (by omega), ((hb1.trans (hb2.mono (by omega))).trans (hb3.mono (by omega))).trans (hb4.mono (by omega))⟩
theorem less_c (s t : List Rg) (hs : s.length < 900000) (ht : t.length < 900000) (hrs : setRight (-2) s = true) (hrt : setRight (-2) t = true) (X : Nat → Prop) (va vb : Value) (w : World) (hva : Sl X 2 (En encR) w va s) (hvb : Sl X 2 (En encR) w vb t) :
    Fun Tryz.prog 15 [va, vb] w fun r w' => Own w.heap.size 42 2 encR w' r (setLess s t) ∧ Below w.heap.size w w' := by
  have n2 := setNot_len t
  refine fun_of_vc Tryz.func15 rfl (by kernel_rfl) [4] rfl ?_
  push_cast -dsimp (maxSteps := 4000000) [Tryz.ntmps15]
  refine callK_of (not_c t (by omega) hrt X vb w hvb) ?_
  rintro v2 w2 ⟨ho2, hb2⟩
  have sz2 := hb2.size
  push_cast -dsimp
  refine callK_of (and_c s (setNot t) (by omega) (by omega) hrs (setNot_right hrt) (fun _ => False) va v2 w2 ((hva.below hb2).weaken (fun _ h => h.elim)) (ho2.sl.weaken (fun _ h => h.elim))) ?_
  rintro v3 w3 ⟨ho3, hb3⟩
  push_cast -dsimp
  exact ⟨ho3.mono (by omega), hb2.trans (hb3.mono (by omega))⟩
end Go.Proofs.YtplbgmoeannobaaGreatDoor
