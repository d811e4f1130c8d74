import Derived.Test.YtplbgmoeannobaaGreatDoorSo1
namespace Go.Proofs.YtplbgmoeannobaaGreatDoor
open Go.Vc Go.Proofs Go.RowKit Cae
set_option maxRecDepth 100000
set_option linter.unusedSimpArgs false
set_option linter.unusedVariables false
attribute [local irreducible] wpL callK valK unitK runK Fun Sl Own vc vcOps opK pureK
set_option maxHeartbeats 4000000

theorem not_c (s : List Rg) (hs : s.length < 100000000) (hr : setRight (-2) s = true) (X : Nat → Prop) (v : Value) (w : World) (hv : Sl X 2 (En encR) w v s) :
    Fun Tryz.prog 17 [v] w fun r w' => Own w.heap.size 42 2 encR w' r (setNot s) ∧ Below w.heap.size w w' := by
  obtain ⟨a, c, rfl, hc⟩ := hv.shape
  refine fun_of_vc Tryz.func17 rfl (by kernel_rfl) [2] rfl ?_
  push_cast -dsimp (maxSteps := 4000000) [Tryz.ntmps17]
  refine wpL_loop [3, 4, 6, 9, 10, 11, 12, 13, 14, 15, 16, 17, 18, 19, 20, 21, 22, 23, 24, 25, 26, 27, 28] (fun z wx => ∃ (i : Nat) (f : Int) (out : List Rg) (ov : Value), z 9 = .int .i64 i ∧ z 4 = .int .i64 f ∧ z 3 = ov ∧ i ≤ s.length ∧ 0 ≤ f ∧ f ≤ 1114112 ∧ out.length ≤ i ∧ out ++ notGo f (s.drop i) = setNot s ∧ Own w.heap.size 42 2 encR wx ov out ∧ Below w.heap.size w wx) (fun z _ => s.length - (intOf (z 9)).toNat) ?_ ?_
  · exact ⟨0, 0, [], _, rfl, rfl, rfl, Nat.zero_le _, by omega, by omega, Nat.le_refl _, rfl, Own.nil (enc := encR) _ _ (fun _ => rfl) _, Below.refl _ _⟩
  · intro z wx hI
    obtain ⟨i, f, out, ov, h9, h4, h3, hi, hf0, hf1, hol, hout, hox, hbx⟩ := hI
    have szx := hbx.size
    push_cast -dsimp [h9, h4, h3]
    refine ⟨fun hlt => ?_, fun hge => ?_⟩
    · have hg := lt_get (l := s) (i := i) (by omega)
      obtain ⟨x, hx, hxm, hdx, _⟩ := hg
      have hb := setRight_sorted s (-2) hr i x hx
      obtain ⟨b1, b2, b3, _⟩ := hb
      have hg := (hv.below hbx).get hx
      obtain ⟨b, o, rfl, hnb, hcell⟩ := hg
      have cx : cellsAt wx ⟨b, o + i * 2, none⟩ 0 2 = some [.int .i64 x.1, .int .i64 x.2] := cellsAt_of (encR x) 0 (fun j u hu => by simpa using hcell j u hu)
      have hsh := hox.slice
      obtain ⟨oa, oc, rfl⟩ := hsh
      rw [hdx, notGo] at hout
      push_cast -dsimp [cx]
      refine ⟨⟨by omega, by omega⟩, ?_⟩
      refine allocK (z := [.int .i64 0, .int .i64 0]) (by kernel_rfl) ?_
      intro w3 hw3
      have sz3 := hw3.size
      push_cast -dsimp
      refine storeAgg (n := 2) (by kernel_rfl) hw3.blk rfl (by simp) (by simp [Value.oneCell']) ?_
      intro w4 hw4
      have sz4 : w4.heap.size = w3.heap.size := hw4.size
      have c0 : w4.cell? ⟨wx.heap.size, 0, none⟩ = some (.int .i64 x.1) := hw4.blk.cell rfl
      have c1 : w4.cell? ⟨wx.heap.size, 1, none⟩ = some (.int .i64 x.2) := hw4.blk.cell rfl
      have k4 : Kept (fun j => j = wx.heap.size) wx w4 := (Kept.new hw3).trans hw4.kept (fun _ _ h => h)
      have ho4 := hox.keptX k4 (fun g hg h => by have := hox.block g hg; omega)
      have hb4 : Below w.heap.size w w4 := hbx.trans (k4.below szx (fun _ h => by omega))
      push_cast -dsimp [c0, c1]
      refine ⟨fun hlt => ?_, fun hge => ?_⟩
      · rw [if_pos hlt, ← List.append_assoc] at hout
        refine ⟨⟨by omega, by omega⟩, ?_⟩
        refine rowK elI_24 rfl rfl (by omega) ?_
        intro w7 hw7
        have sz7 := hw7.size
        have ho7 := ho4.new hw7
        push_cast -dsimp
        refine appendK2 (base := w.heap.size) [(f, x.1 - 1)] (enc := encR) elI_24 ho7 (by rfl) (fun j u hu => by simpa [encR] using hw7.cell hu) encR_one (by simp only [List.length_cons, List.length_nil]; omega) (by omega) ?_
        intro v8 w8 ho8 hg8 hn8
        have k8 : Kept (fun j => (Value.slice oa out.length oc).ownBlock = some j) w4 w8 := (Kept.new (X := fun j => (Value.slice oa out.length oc).ownBlock = some j) hw7).trans (Kept.grown hg8 (fun _ h => h)) (fun _ _ h => h)
        have hb8 : Below w.heap.size w w8 := hb4.trans (k8.below (by omega) (fun g h => (ho4.block g h).1))
        have d1 : w8.cell? ⟨wx.heap.size, 1, none⟩ = some (.int .i64 x.2) := k8.cell c1 (fun h => by have h2 : w.heap.size ≤ wx.heap.size ∧ wx.heap.size < wx.heap.size := hox.block _ h; omega)
        push_cast -dsimp [d1]
        exact ⟨⟨by omega, by omega⟩, ⟨by omega, by omega⟩, ⟨i + 1, x.2 + 1, out ++ [(f, x.1 - 1)], _, rfl, rfl, rfl, by omega, by omega, by omega, by rw [List.length_append, List.length_singleton]; omega, hout, ho8, hb8⟩, by rw [h9]; simp only [intOf]; omega⟩
      · rw [if_neg (by omega), List.nil_append] at hout
        exact ⟨⟨by omega, by omega⟩, ⟨by omega, by omega⟩, ⟨i + 1, x.2 + 1, out, _, rfl, rfl, rfl, by omega, by omega, by omega, by omega, hout, ho4, hb4⟩, by rw [h9]; simp only [intOf]; omega⟩
    · have hin : i = s.length := by omega
      subst hin
      have hsh := hox.slice
      obtain ⟨oa, oc, rfl⟩ := hsh
      rw [List.drop_length, notGo] at hout
      refine ⟨fun hle => ?_, fun hgt => ?_⟩
      · rw [if_pos hle] at hout
        refine rowK elI_24 rfl rfl (by omega) ?_
        intro w7 hw7
        have sz7 := hw7.size
        have ho7 := hox.new hw7
        push_cast -dsimp
        refine appendK2 (base := w.heap.size) [(f, 1114111)] (enc := encR) elI_24 ho7 (by rfl) (fun j u hu => by simpa [encR] using hw7.cell hu) encR_one (by simp only [List.length_cons, List.length_nil]; omega) (by omega) ?_
        intro v8 w8 ho8 hg8 hn8
        have k8 : Kept (fun j => (Value.slice oa out.length oc).ownBlock = some j) wx w8 := (Kept.new (X := fun j => (Value.slice oa out.length oc).ownBlock = some j) hw7).trans (Kept.grown hg8 (fun _ h => h)) (fun _ _ h => h)
        rw [hout] at ho8
        push_cast -dsimp
        exact ⟨ho8, hbx.trans (k8.below szx (fun g h => (hox.block g h).1))⟩
      · rw [if_neg (by omega), List.append_nil] at hout
        subst hout
        exact ⟨hox, hbx⟩
end Go.Proofs.YtplbgmoeannobaaGreatDoor
