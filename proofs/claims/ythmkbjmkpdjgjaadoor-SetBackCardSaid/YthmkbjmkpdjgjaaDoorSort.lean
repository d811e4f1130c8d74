import Derived.Test.YthmkbjmkpdjgjaaDoorSo1
import Derived.Shelf.SlSortCmp.WholeK
import Derived.Shelf.SlSortCmp.NoneTotal
namespace Go.Proofs.YthmkbjmkpdjgjaaDoor
open Go.Vc Go.Proofs Go.RowKit Cae Go.Sort
set_option maxRecDepth 100000
set_option linter.unusedSimpArgs false
set_option linter.unusedVariables false
theorem holdsOf {base : Nat} {e : TypeId} {w : World} {g n c : Nat} {l : List Rg} (h : Own base e 2 encR w (.slice (some ⟨g, 0, none⟩) n c) l) : HoldsK encR 2 w g 0 l.toArray := by
  have ho := Own.opened h rfl
  obtain ⟨cur, hB, hl, ht, _⟩ := ho
  intro j hj
  rw [size_flatK] at hj
  rw [get_flatK _ _ _ _ hj]
  have hj' : j < l.length * 2 := by simpa using hj
  have hi : j / 2 < l.length := by omega
  have hx := List.getElem?_eq_getElem hi
  have hu : (encR l[j / 2])[j % 2]? = some (encR l[j / 2])[j % 2]! := by
    rw [List.getElem!_eq_getElem?_getD]
    have hlt : j % 2 < (encR l[j / 2]).length := by show j % 2 < 2; omega
    rw [List.getElem?_eq_getElem hlt]; rfl
  have h1 := flatMap_get h.2 l (j / 2) (j % 2) _ _ hx hu
  rw [← ht, List.getElem?_take, if_pos (by omega), show j / 2 * 2 + j % 2 = j by omega] at h1
  have e2 : (l.toArray)[j / 2]! = l[j / 2] := by simp [hi]
  rw [e2]
  refine ⟨?_, ?_⟩
  · rw [cell_of_row w g _ cur.toArray e (0, 0) hB, Nat.zero_add]
    simpa using h1
  · have hB' : w.heap[g]? = some (.cells cur.toArray e (0, 0)) := hB
    simp [World.frozen?, hB']
theorem ownAt0 {base : Nat} {e : TypeId} {w : World} {ad : Addr} {n c : Nat} {l : List Rg} (h : Own base e 2 encR w (.slice (some ad) n c) l) : ∃ g, ad = ⟨g, 0, none⟩ := by
  rcases h.1.2 with ⟨he, _⟩ | ⟨g, cap, cr, he, _⟩
  · cases he
  · cases he; exact ⟨_, rfl⟩
theorem slSorted {w' : World} {g n c : Nat} {d' : Array Rg} (hn : d'.size = n) (hc : n ≤ c) (hH' : HoldsK encR 2 w' g 0 d') : Sl (fun b => (Value.slice (some ⟨g, 0, none⟩) n c).ownBlock ≠ some b) 2 (En encR) w' (.slice (some ⟨g, 0, none⟩) n c) d'.toList := by
  subst hn
  refine ⟨_, c, by rw [Array.length_toList], by rw [Array.length_toList]; exact hc, fun i x hx => ⟨g, 0, encR x, rfl, by simp [Value.ownBlock], rfl, fun j u hu => ?_, rfl⟩⟩
  have hi := (List.getElem?_eq_some_iff.1 hx).1
  rw [Array.length_toList] at hi
  have hj : j < 2 := (List.getElem?_eq_some_iff.1 hu).1
  have h2 := (hH'.cell hi hj).1
  have hx2 : d'[i]! = x := by rw [getElem!_pos d' i hi]; rw [Array.getElem?_toList, Array.getElem?_eq_getElem hi] at hx; cases hx; rfl
  rw [hx2, List.getElem!_eq_getElem?_getD, hu] at h2
  exact h2
end Go.Proofs.YthmkbjmkpdjgjaaDoor
namespace Go.Proofs.YthmkbjmkpdjgjaaDoor
open Go.Vc Go.Proofs Go.RowKit Cae
set_option maxRecDepth 100000
set_option linter.unusedSimpArgs false
set_option linter.unusedVariables false
attribute [local irreducible] wpL callK valK unitK runK Fun Sl Own vc vcOps opK pureK
open Go.Sort

def sortR_ren : Go.Shelf.Ren := ⟨fun | 6 => 21 | 15 => 36 | 14 => 35 | 28 => 57 | 29 => 58 | 20 => 49 | 21 => 50 | 22 => 51 | 23 => 52 | 24 => 53 | 25 => 54 | 26 => 55 | 27 => 56 | 46 => 73 | 47 => 74 | 48 => 75 | 49 => 76 | 50 => 77 | 57 => 94 | n => n, fun | 22 => 22 | 24 => 29 | 25 => 45 | 3 => 3 | 39 => 47 | 0 => 0 | 53 => 89 | 55 => 91 | 4 => 4 | 46 => 83 | 45 => 82 | 50 => 48 | 5 => 5 | 9 => 9 | 66 => 104 | 70 => 108 | 76 => 124 | 77 => 125 | n => n, fun | n => n⟩
theorem sortR : Go.Proofs.SlLaysF0.n6 Tryd.prog sortR_ren := {
  mixed := by kernel_rfl
  f6 := ⟨ "slices.SortFunc[[]caesura/api.Range,caesura/api.Range]", by decide, Tryd.func21.trans (congrArg some (by kernel_rfl))⟩
  f14 := ⟨ "slices.pdqsortCmpFunc[caesura/api.Range]", by decide, Tryd.func35.trans (congrArg some (by kernel_rfl))⟩
  f15 := Tryd.func36.trans (congrArg some (by kernel_rfl))
  f20 := ⟨ "slices.insertionSortCmpFunc[caesura/api.Range]", by decide, Tryd.func49.trans (congrArg some (by kernel_rfl))⟩
  f21 := ⟨ "slices.heapSortCmpFunc[caesura/api.Range]", by decide, Tryd.func50.trans (congrArg some (by kernel_rfl))⟩
  f22 := ⟨ "slices.breakPatternsCmpFunc[caesura/api.Range]", by decide, Tryd.func51.trans (congrArg some (by kernel_rfl))⟩
  f23 := ⟨ "slices.choosePivotCmpFunc[caesura/api.Range]", by decide, Tryd.func52.trans (congrArg some (by kernel_rfl))⟩
  f24 := ⟨ "slices.reverseRangeCmpFunc[caesura/api.Range]", by decide, Tryd.func53.trans (congrArg some (by kernel_rfl))⟩
  f25 := ⟨ "slices.partialInsertionSortCmpFunc[caesura/api.Range]", by decide, Tryd.func54.trans (congrArg some (by kernel_rfl))⟩
  f26 := ⟨ "slices.partitionEqualCmpFunc[caesura/api.Range]", by decide, Tryd.func55.trans (congrArg some (by kernel_rfl))⟩
  f27 := ⟨ "slices.partitionCmpFunc[caesura/api.Range]", by decide, Tryd.func56.trans (congrArg some (by kernel_rfl))⟩
  f28 := Tryd.func57.trans (congrArg some (by kernel_rfl))
  f29 := Tryd.func58.trans (congrArg some (by kernel_rfl))
  f46 := ⟨ "slices.siftDownCmpFunc[caesura/api.Range]", by decide, Tryd.func73.trans (congrArg some (by kernel_rfl))⟩
  f47 := Tryd.func74.trans (congrArg some (by kernel_rfl))
  f48 := Tryd.func75.trans (congrArg some (by kernel_rfl))
  f49 := ⟨ "slices.medianAdjacentCmpFunc[caesura/api.Range]", by decide, Tryd.func76.trans (congrArg some (by kernel_rfl))⟩
  f50 := ⟨ "slices.medianCmpFunc[caesura/api.Range]", by decide, Tryd.func77.trans (congrArg some (by kernel_rfl))⟩
  f57 := ⟨ "slices.order2CmpFunc[caesura/api.Range]", by decide, Tryd.func94.trans (congrArg some (by kernel_rfl))⟩
  t0 := Tryd.underlying0
  a0 := Tryd.isAgg0
  z0 := Tryd.sizeOf0
  v0 := Tryd.zeroValue0
  t3 := Tryd.underlying3
  a3 := Tryd.isAgg3
  z3 := Tryd.sizeOf3
  v3 := Tryd.zeroValue3
  t4 := Tryd.underlying4
  a4 := Tryd.isAgg4
  z4 := Tryd.sizeOf4
  v4 := Tryd.zeroValue4
  t5 := Tryd.underlying5
  a5 := Tryd.isAgg5
  z5 := Tryd.sizeOf5
  v5 := Tryd.zeroValue5
  t9 := Tryd.underlying9
  a9 := Tryd.isAgg9
  z9 := Tryd.sizeOf9
  v9 := Tryd.zeroValue9
  t22 := Tryd.underlying22
  a22 := Tryd.isAgg22
  z22 := Tryd.sizeOf22
  v22 := Tryd.zeroValue22
  t25 := Tryd.underlying45
  a25 := Tryd.isAgg45
  z25 := Tryd.sizeOf45
  v25 := Tryd.zeroValue45
  t39 := Tryd.underlying47
  a39 := Tryd.isAgg47
  z39 := Tryd.sizeOf47
  v39 := Tryd.zeroValue47
  t45 := Tryd.underlying82
  a45 := Tryd.isAgg82
  z45 := Tryd.sizeOf82
  v45 := Tryd.zeroValue82
  t46 := Tryd.underlying83
  a46 := Tryd.isAgg83
  z46 := Tryd.sizeOf83
  v46 := Tryd.zeroValue83
  t50 := Tryd.underlying48
  a50 := Tryd.isAgg48
  z50 := Tryd.sizeOf48
  v50 := Tryd.zeroValue48
  t53 := Tryd.underlying89
  a53 := Tryd.isAgg89
  z53 := Tryd.sizeOf89
  v53 := Tryd.zeroValue89
  t55 := Tryd.underlying91
  a55 := Tryd.isAgg91
  z55 := Tryd.sizeOf91
  v55 := Tryd.zeroValue91
  t66 := Tryd.underlying104
  a66 := Tryd.isAgg104
  z66 := Tryd.sizeOf104
  v66 := Tryd.zeroValue104
  t70 := Tryd.underlying108
  a70 := Tryd.isAgg108
  z70 := Tryd.sizeOf108
  v70 := Tryd.zeroValue108
  t76 := Tryd.underlying124
  a76 := Tryd.isAgg124
  z76 := Tryd.sizeOf124
  v76 := Tryd.zeroValue124
  t77 := Tryd.underlying125
  a77 := Tryd.isAgg125
  z77 := Tryd.sizeOf125
  v77 := Tryd.zeroValue125 }

def cmpR (x y : Rg) : Int := cmpI x.1 y.1
theorem ltCmpR (x y : Rg) : Go.Proofs.ltOf cmpR x y = decide (x.1 < y.1) := by
  unfold Go.Proofs.ltOf cmpR cmpI
  rw [decide_eq_decide]
  split
  · simp [*]
  · split <;> simp [*]
theorem swoR : SWO (Go.Proofs.ltOf cmpR) where
  irrefl x := by rw [ltCmpR]; simp
  trans x y z h1 h2 := by rw [ltCmpR] at *; simp at *; omega
  ntrans x y z h1 h2 := by rw [ltCmpR] at *; simp at *; omega
theorem cmpLaysR (blk off size : Nat) (w : World) : Go.Proofs.CmpLays Tryd.prog 22 #[] encR 2 cmpR blk off size w := fun m os dk hd x y => by
  have h := calls_of_fun (closure_c x y (Go.Proofs.sortWorldK encR 2 w blk off m dk os))
  have e : #[Value.agg (encR x).toArray, Value.agg (encR y).toArray] ++ #[] = [Value.agg #[.int .i64 x.1, .int .i64 x.2], Value.agg #[.int .i64 y.1, .int .i64 y.2]].toArray := rfl
  rw [e]
  refine h.mono ?_
  rintro e w' ⟨v, rfl, rfl, os', rfl⟩
  exact ⟨rfl, 0, os', rfl⟩
theorem keptSorted {w : World} {g n : Nat} {os : Array Obj} (d : Array Rg) : Kept (fun j => j = g) w (Go.Proofs.sortWorldK encR 2 w g 0 n d os) := by
  refine ⟨rfl, rfl, rfl, ?_, fun k hk hne => ?_⟩
  · exact Go.Proofs.size_sortWorldK_c encR 2 w g 0 n d os
  · unfold Go.Proofs.sortWorldK putRowK
    rw [heap_grow_old _ _ (by simpa using hk)]
    simp [putRow, mapBlock, Go.Sort.ahead, Array.getElem?_modify, Ne.symm hne]
theorem sort_c (l : List Rg) (hl : l.length < 1000000000) (base : Nat) (v : Value) (w : World) (ho : Own base 29 2 encR w v l) (hb : base ≤ w.heap.size) :
    Fun Tryd.prog 21 [v, .func (.func 22) #[] #[]] w fun r w' => (∃ m, m.Perm l ∧ Rising m ∧ Sl (fun b => v.ownBlock ≠ some b) 2 (En encR) w' v m) ∧ Kept (fun j => v.ownBlock = some j) w w' := by
  refine fun_of_calls Tryd.func21 (by kernel_rfl) (by kernel_rfl) ?_
  cases hn : l with
  | nil =>
    subst hn
    have hsh := ho.slice
    obtain ⟨a, c, rfl⟩ := hsh
    refine (AnyF.slices_SortFunc_none sortR a c (.func (.func 22) #[] #[]) w).mono ?_
    rintro e w' ⟨rfl, rfl⟩
    exact ⟨_, rfl, ⟨[], List.Perm.refl _, List.Pairwise.nil, Sl.nil _ _ _ _ _ _⟩, Kept.refl _ _⟩
  | cons y ys =>
    rw [← hn]
    have hpos : 0 < l.length := by rw [hn]; exact Nat.succ_pos _
    have hsh := ho.slice
    obtain ⟨a, c, rfl⟩ := hsh
    cases a with
    | none => have := ho.nilArg _ _ rfl; omega
    | some ad =>
      have hg0 := ownAt0 ho
      obtain ⟨g, rfl⟩ := hg0
      have hgb := ho.block g rfl
      have hH := holdsOf ho
      have hcon := AnyQ.slices_SortFunc sortR 2 Tryd.isAgg29 Tryd.sizeOf29 encR (fun _ => rfl) encR_one cmpR swoR 22 #[] g 0 c l.toArray w (fun args w => callFunc_enter Tryd.func22 (by kernel_rfl) (by kernel_rfl)) (cmpLaysR g 0 l.toArray.size w) hH hgb.2 (by rw [List.size_toArray]; omega)
      rw [List.size_toArray] at hcon
      refine Calls.mono hcon ?_
      rintro e w' ⟨rfl, d', n, os, hp, hs, rfl⟩
      have hsz : d'.size = l.length := by have := hp.1; simpa using this
      have hperm : d'.toList.Perm l := by
        have := hp.2.2
        rw [Array.extract_eq_self_of_le (by omega), Array.extract_eq_self_of_le (by simp)] at this
        simpa using this
      have hH' := Go.Proofs.holdsK_sortWorldK_c encR 2 w g 0 l.toArray d' n os hH hgb.2 (by simpa using hsz)
      refine ⟨_, rfl, ⟨d'.toList, hperm, ?_, ?_⟩, (keptSorted d').weaken (fun i _ h => by rw [h]; rfl)⟩
      · refine List.pairwise_iff_getElem.2 fun i j hi hj hij => ?_
        rw [Array.length_toList] at hi hj
        have := hs i j (Nat.zero_le _) hij (by omega)
        rw [ltCmpR, decide_eq_false_iff_not] at this
        simp only [getElem!_pos d' i hi, getElem!_pos d' j hj] at this
        simp only [Array.getElem_toList]
        omega
      · exact slSorted hsz ((ho.sl.shape).elim (fun a h => h.elim fun c' h => by cases h.1; exact h.2)) hH'
end Go.Proofs.YthmkbjmkpdjgjaaDoor
