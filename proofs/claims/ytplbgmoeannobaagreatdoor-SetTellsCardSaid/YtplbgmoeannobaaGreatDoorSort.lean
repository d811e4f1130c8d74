import Derived.Test.YtplbgmoeannobaaGreatDoorSo1
import Derived.Shelf.SlSortCmp.WholeK
import Derived.Shelf.SlSortCmp.NoneTotal
namespace Go.Proofs.YtplbgmoeannobaaGreatDoor
open Go.Vc Go.Proofs Go.RowKit Cae Go.Sort
set_option maxRecDepth 100000
set_option linter.unusedSimpArgs false
set_option linter.unusedVariables false
theorem holdsOf {base : Nat} {e : TypeId} {w : World} {g n c : Nat} {l : List Rg} (h : Own base e 2 encR w (.slice (some ⟨g, 0, none⟩) n c) l) : HoldsK encR 2 w g 0 l.toArray := by
  have ho := Own.opened h rfl
  obtain ⟨cur, hB, hl, ht, _⟩ := ho
  intro j hj
  rw [size_flatK] at hj
  rw [get_flatK _ _ _ _ hj]
  have hj' : j < l.length * 2 := by simpa using hj
  have hi : j / 2 < l.length := by omega
  have hx := List.getElem?_eq_getElem hi
  have hu : (encR l[j / 2])[j % 2]? = some (encR l[j / 2])[j % 2]! := by
    rw [List.getElem!_eq_getElem?_getD]
    have hlt : j % 2 < (encR l[j / 2]).length := by show j % 2 < 2; omega
    rw [List.getElem?_eq_getElem hlt]; rfl
  have h1 := flatMap_get h.2 l (j / 2) (j % 2) _ _ hx hu
  rw [← ht, List.getElem?_take, if_pos (by omega), show j / 2 * 2 + j % 2 = j by omega] at h1
  have e2 : (l.toArray)[j / 2]! = l[j / 2] := by simp [hi]
  rw [e2]
  refine ⟨?_, ?_⟩
  · rw [cell_of_row w g _ cur.toArray e (0, 0) hB, Nat.zero_add]
    simpa using h1
  · have hB' : w.heap[g]? = some (.cells cur.toArray e (0, 0)) := hB
    simp [World.frozen?, hB']
theorem ownAt0 {base : Nat} {e : TypeId} {w : World} {ad : Addr} {n c : Nat} {l : List Rg} (h : Own base e 2 encR w (.slice (some ad) n c) l) : ∃ g, ad = ⟨g, 0, none⟩ := by
  rcases h.1.2 with ⟨he, _⟩ | ⟨g, cap, cr, he, _⟩
  · cases he
  · cases he; exact ⟨_, rfl⟩
theorem slSorted {w' : World} {g n c : Nat} {d' : Array Rg} (hn : d'.size = n) (hc : n ≤ c) (hH' : HoldsK encR 2 w' g 0 d') : Sl (fun b => (Value.slice (some ⟨g, 0, none⟩) n c).ownBlock ≠ some b) 2 (En encR) w' (.slice (some ⟨g, 0, none⟩) n c) d'.toList := by
  subst hn
  refine ⟨_, c, by rw [Array.length_toList], by rw [Array.length_toList]; exact hc, fun i x hx => ⟨g, 0, encR x, rfl, by simp [Value.ownBlock], rfl, fun j u hu => ?_, rfl⟩⟩
  have hi := (List.getElem?_eq_some_iff.1 hx).1
  rw [Array.length_toList] at hi
  have hj : j < 2 := (List.getElem?_eq_some_iff.1 hu).1
  have h2 := (hH'.cell hi hj).1
  have hx2 : d'[i]! = x := by rw [getElem!_pos d' i hi]; rw [Array.getElem?_toList, Array.getElem?_eq_getElem hi] at hx; cases hx; rfl
  rw [hx2, List.getElem!_eq_getElem?_getD, hu] at h2
  exact h2
end Go.Proofs.YtplbgmoeannobaaGreatDoor
namespace Go.Proofs.YtplbgmoeannobaaGreatDoor
open Go.Vc Go.Proofs Go.RowKit Cae
set_option maxRecDepth 100000
set_option linter.unusedSimpArgs false
set_option linter.unusedVariables false
attribute [local irreducible] wpL callK valK unitK runK Fun Sl Own vc vcOps opK pureK
open Go.Sort

def sortR_ren : Go.Shelf.Ren := ⟨fun | 6 => 28 | 15 => 53 | 14 => 52 | 28 => 86 | 29 => 87 | 20 => 78 | 21 => 79 | 22 => 80 | 23 => 81 | 24 => 82 | 25 => 83 | 26 => 84 | 27 => 85 | 46 => 113 | 47 => 114 | 48 => 115 | 49 => 116 | 50 => 117 | 57 => 150 | n => n, fun | 22 => 22 | 24 => 42 | 25 => 49 | 3 => 3 | 39 => 79 | 0 => 0 | 53 => 113 | 55 => 115 | 4 => 4 | 46 => 107 | 45 => 106 | 50 => 50 | 5 => 5 | 9 => 9 | 66 => 148 | 70 => 152 | 76 => 188 | 77 => 189 | n => n, fun | n => n⟩
theorem sortR : Go.Proofs.SlLaysF0.n6 Tryz.prog sortR_ren := {
  mixed := by kernel_rfl
  f6 := ⟨ "slices.SortFunc[[]caesura/api.Range,caesura/api.Range]", by decide, Tryz.func28.trans (congrArg some (by kernel_rfl))⟩
  f14 := ⟨ "slices.pdqsortCmpFunc[caesura/api.Range]", by decide, Tryz.func52.trans (congrArg some (by kernel_rfl))⟩
  f15 := Tryz.func53.trans (congrArg some (by kernel_rfl))
  f20 := ⟨ "slices.insertionSortCmpFunc[caesura/api.Range]", by decide, Tryz.func78.trans (congrArg some (by kernel_rfl))⟩
  f21 := ⟨ "slices.heapSortCmpFunc[caesura/api.Range]", by decide, Tryz.func79.trans (congrArg some (by kernel_rfl))⟩
  f22 := ⟨ "slices.breakPatternsCmpFunc[caesura/api.Range]", by decide, Tryz.func80.trans (congrArg some (by kernel_rfl))⟩
  f23 := ⟨ "slices.choosePivotCmpFunc[caesura/api.Range]", by decide, Tryz.func81.trans (congrArg some (by kernel_rfl))⟩
  f24 := ⟨ "slices.reverseRangeCmpFunc[caesura/api.Range]", by decide, Tryz.func82.trans (congrArg some (by kernel_rfl))⟩
  f25 := ⟨ "slices.partialInsertionSortCmpFunc[caesura/api.Range]", by decide, Tryz.func83.trans (congrArg some (by kernel_rfl))⟩
  f26 := ⟨ "slices.partitionEqualCmpFunc[caesura/api.Range]", by decide, Tryz.func84.trans (congrArg some (by kernel_rfl))⟩
  f27 := ⟨ "slices.partitionCmpFunc[caesura/api.Range]", by decide, Tryz.func85.trans (congrArg some (by kernel_rfl))⟩
  f28 := Tryz.func86.trans (congrArg some (by kernel_rfl))
  f29 := Tryz.func87.trans (congrArg some (by kernel_rfl))
  f46 := ⟨ "slices.siftDownCmpFunc[caesura/api.Range]", by decide, Tryz.func113.trans (congrArg some (by kernel_rfl))⟩
  f47 := Tryz.func114.trans (congrArg some (by kernel_rfl))
  f48 := Tryz.func115.trans (congrArg some (by kernel_rfl))
  f49 := ⟨ "slices.medianAdjacentCmpFunc[caesura/api.Range]", by decide, Tryz.func116.trans (congrArg some (by kernel_rfl))⟩
  f50 := ⟨ "slices.medianCmpFunc[caesura/api.Range]", by decide, Tryz.func117.trans (congrArg some (by kernel_rfl))⟩
  f57 := ⟨ "slices.order2CmpFunc[caesura/api.Range]", by decide, Tryz.func150.trans (congrArg some (by kernel_rfl))⟩
  t0 := Tryz.underlying0
  a0 := Tryz.isAgg0
  z0 := Tryz.sizeOf0
  v0 := Tryz.zeroValue0
  t3 := Tryz.underlying3
  a3 := Tryz.isAgg3
  z3 := Tryz.sizeOf3
  v3 := Tryz.zeroValue3
  t4 := Tryz.underlying4
  a4 := Tryz.isAgg4
  z4 := Tryz.sizeOf4
  v4 := Tryz.zeroValue4
  t5 := Tryz.underlying5
  a5 := Tryz.isAgg5
  z5 := Tryz.sizeOf5
  v5 := Tryz.zeroValue5
  t9 := Tryz.underlying9
  a9 := Tryz.isAgg9
  z9 := Tryz.sizeOf9
  v9 := Tryz.zeroValue9
  t22 := Tryz.underlying22
  a22 := Tryz.isAgg22
  z22 := Tryz.sizeOf22
  v22 := Tryz.zeroValue22
  t25 := Tryz.underlying49
  a25 := Tryz.isAgg49
  z25 := Tryz.sizeOf49
  v25 := Tryz.zeroValue49
  t39 := Tryz.underlying79
  a39 := Tryz.isAgg79
  z39 := Tryz.sizeOf79
  v39 := Tryz.zeroValue79
  t45 := Tryz.underlying106
  a45 := Tryz.isAgg106
  z45 := Tryz.sizeOf106
  v45 := Tryz.zeroValue106
  t46 := Tryz.underlying107
  a46 := Tryz.isAgg107
  z46 := Tryz.sizeOf107
  v46 := Tryz.zeroValue107
  t50 := Tryz.underlying50
  a50 := Tryz.isAgg50
  z50 := Tryz.sizeOf50
  v50 := Tryz.zeroValue50
  t53 := Tryz.underlying113
  a53 := Tryz.isAgg113
  z53 := Tryz.sizeOf113
  v53 := Tryz.zeroValue113
  t55 := Tryz.underlying115
  a55 := Tryz.isAgg115
  z55 := Tryz.sizeOf115
  v55 := Tryz.zeroValue115
  t66 := Tryz.underlying148
  a66 := Tryz.isAgg148
  z66 := Tryz.sizeOf148
  v66 := Tryz.zeroValue148
  t70 := Tryz.underlying152
  a70 := Tryz.isAgg152
  z70 := Tryz.sizeOf152
  v70 := Tryz.zeroValue152
  t76 := Tryz.underlying188
  a76 := Tryz.isAgg188
  z76 := Tryz.sizeOf188
  v76 := Tryz.zeroValue188
  t77 := Tryz.underlying189
  a77 := Tryz.isAgg189
  z77 := Tryz.sizeOf189
  v77 := Tryz.zeroValue189 }

def cmpR (x y : Rg) : Int := cmpI x.1 y.1
theorem ltCmpR (x y : Rg) : Go.Proofs.ltOf cmpR x y = decide (x.1 < y.1) := by
  unfold Go.Proofs.ltOf cmpR cmpI
  rw [decide_eq_decide]
  split
  · simp [*]
  · split <;> simp [*]
theorem swoR : SWO (Go.Proofs.ltOf cmpR) where
  irrefl x := by rw [ltCmpR]; simp
  trans x y z h1 h2 := by rw [ltCmpR] at *; simp at *; omega
  ntrans x y z h1 h2 := by rw [ltCmpR] at *; simp at *; omega
theorem cmpLaysR (blk off size : Nat) (w : World) : Go.Proofs.CmpLays Tryz.prog 29 #[] encR 2 cmpR blk off size w := fun m os dk hd x y => by
  have h := calls_of_fun (closure_c x y (Go.Proofs.sortWorldK encR 2 w blk off m dk os))
  have e : #[Value.agg (encR x).toArray, Value.agg (encR y).toArray] ++ #[] = [Value.agg #[.int .i64 x.1, .int .i64 x.2], Value.agg #[.int .i64 y.1, .int .i64 y.2]].toArray := rfl
  rw [e]
  refine h.mono ?_
  rintro e w' ⟨v, rfl, rfl, os', rfl⟩
  exact ⟨rfl, 0, os', rfl⟩
theorem keptSorted {w : World} {g n : Nat} {os : Array Obj} (d : Array Rg) : Kept (fun j => j = g) w (Go.Proofs.sortWorldK encR 2 w g 0 n d os) := by
  refine ⟨rfl, rfl, rfl, ?_, fun k hk hne => ?_⟩
  · exact Go.Proofs.size_sortWorldK_c encR 2 w g 0 n d os
  · unfold Go.Proofs.sortWorldK putRowK
    rw [heap_grow_old _ _ (by simpa using hk)]
    simp [putRow, mapBlock, Go.Sort.ahead, Array.getElem?_modify, Ne.symm hne]
theorem sort_c (l : List Rg) (hl : l.length < 1000000000) (base : Nat) (v : Value) (w : World) (ho : Own base 42 2 encR w v l) (hb : base ≤ w.heap.size) :
    Fun Tryz.prog 28 [v, .func (.func 29) #[] #[]] w fun r w' => (∃ m, m.Perm l ∧ Rising m ∧ Sl (fun b => v.ownBlock ≠ some b) 2 (En encR) w' v m) ∧ Kept (fun j => v.ownBlock = some j) w w' := by
  refine fun_of_calls Tryz.func28 (by kernel_rfl) (by kernel_rfl) ?_
  cases hn : l with
  | nil =>
    subst hn
    have hsh := ho.slice
    obtain ⟨a, c, rfl⟩ := hsh
    refine (AnyF.slices_SortFunc_none sortR a c (.func (.func 29) #[] #[]) w).mono ?_
    rintro e w' ⟨rfl, rfl⟩
    exact ⟨_, rfl, ⟨[], List.Perm.refl _, List.Pairwise.nil, Sl.nil _ _ _ _ _ _⟩, Kept.refl _ _⟩
  | cons y ys =>
    rw [← hn]
    have hpos : 0 < l.length := by rw [hn]; exact Nat.succ_pos _
    have hsh := ho.slice
    obtain ⟨a, c, rfl⟩ := hsh
    cases a with
    | none => have := ho.nilArg _ _ rfl; omega
    | some ad =>
      have hg0 := ownAt0 ho
      obtain ⟨g, rfl⟩ := hg0
      have hgb := ho.block g rfl
      have hH := holdsOf ho
      have hcon := AnyQ.slices_SortFunc sortR 2 Tryz.isAgg42 Tryz.sizeOf42 encR (fun _ => rfl) encR_one cmpR swoR 29 #[] g 0 c l.toArray w (fun args w => callFunc_enter Tryz.func29 (by kernel_rfl) (by kernel_rfl)) (cmpLaysR g 0 l.toArray.size w) hH hgb.2 (by rw [List.size_toArray]; omega)
      rw [List.size_toArray] at hcon
      refine Calls.mono hcon ?_
      rintro e w' ⟨rfl, d', n, os, hp, hs, rfl⟩
      have hsz : d'.size = l.length := by have := hp.1; simpa using this
      have hperm : d'.toList.Perm l := by
        have := hp.2.2
        rw [Array.extract_eq_self_of_le (by omega), Array.extract_eq_self_of_le (by simp)] at this
        simpa using this
      have hH' := Go.Proofs.holdsK_sortWorldK_c encR 2 w g 0 l.toArray d' n os hH hgb.2 (by simpa using hsz)
      refine ⟨_, rfl, ⟨d'.toList, hperm, ?_, ?_⟩, (keptSorted d').weaken (fun i _ h => by rw [h]; rfl)⟩
      · refine List.pairwise_iff_getElem.2 fun i j hi hj hij => ?_
        rw [Array.length_toList] at hi hj
        have := hs i j (Nat.zero_le _) hij (by omega)
        rw [ltCmpR, decide_eq_false_iff_not] at this
        simp only [getElem!_pos d' i hi, getElem!_pos d' j hj] at this
        simp only [Array.getElem_toList]
        omega
      · exact slSorted hsz ((ho.sl.shape).elim (fun a h => h.elim fun c' h => by cases h.1; exact h.2)) hH'
end Go.Proofs.YtplbgmoeannobaaGreatDoor
