import Derived.Test.YtplbgmoeannobaaGreatDoorSo0
import Derived.Sort.OwnSortedInts
import Derived.Shelf.Sort.Plain
/- sort.Ints of a row that the call owns. -/
namespace Go.Proofs.YtplbgmoeannobaaGreatDoor
open Go.Vc Go.Proofs Go.RowKit Cae
set_option maxRecDepth 100000
set_option linter.unusedSimpArgs false
set_option linter.unusedVariables false
attribute [local irreducible] wpL callK valK unitK runK Fun Sl Own vc vcOps opK pureK
open Go.Sort
set_option maxHeartbeats 4000000
def sortI_ren : Go.Shelf.Ren := ⟨fun | 191 => 51 | 189 => 77 | 125 => 53 | 257 => 112 | 128 => 86 | 129 => 87 | 294 => 141 | 295 => 142 | 296 => 143 | 297 => 144 | 298 => 145 | 299 => 146 | 216 => 147 | 300 => 148 | 301 => 149 | 328 => 162 | 329 => 114 | 330 => 115 | 331 => 163 | 332 => 164 | 215 => 54 | 343 => 168 | n => n, fun | 28 => 75 | 0 => 0 | 3 => 3 | 46 => 79 | 51 => 113 | 53 => 115 | 4 => 4 | 183 => 107 | 182 => 106 | 131 => 50 | 5 => 5 | 9 => 9 | 218 => 148 | 222 => 152 | 228 => 188 | 229 => 189 | n => n, fun | n => n⟩
theorem sortI : Go.Proofs.Lays.n191 Tryz.prog sortI_ren := {
  mixed := by kernel_rfl
  f125 := Tryz.func53.trans (congrArg some (by kernel_rfl))
  f128 := Tryz.func86.trans (congrArg some (by kernel_rfl))
  f129 := Tryz.func87.trans (congrArg some (by kernel_rfl))
  f189 := Tryz.func77.trans (congrArg some (by kernel_rfl))
  f191 := Tryz.func51.trans (congrArg some (by kernel_rfl))
  f215 := Tryz.func54.trans (congrArg some (by kernel_rfl))
  f216 := Tryz.func147.trans (congrArg some (by kernel_rfl))
  f257 := Tryz.func112.trans (congrArg some (by kernel_rfl))
  f294 := Tryz.func141.trans (congrArg some (by kernel_rfl))
  f295 := Tryz.func142.trans (congrArg some (by kernel_rfl))
  f296 := Tryz.func143.trans (congrArg some (by kernel_rfl))
  f297 := Tryz.func144.trans (congrArg some (by kernel_rfl))
  f298 := Tryz.func145.trans (congrArg some (by kernel_rfl))
  f299 := Tryz.func146.trans (congrArg some (by kernel_rfl))
  f300 := Tryz.func148.trans (congrArg some (by kernel_rfl))
  f301 := Tryz.func149.trans (congrArg some (by kernel_rfl))
  f328 := Tryz.func162.trans (congrArg some (by kernel_rfl))
  f329 := Tryz.func114.trans (congrArg some (by kernel_rfl))
  f330 := Tryz.func115.trans (congrArg some (by kernel_rfl))
  f331 := Tryz.func163.trans (congrArg some (by kernel_rfl))
  f332 := Tryz.func164.trans (congrArg some (by kernel_rfl))
  f343 := Tryz.func168.trans (congrArg some (by kernel_rfl))
  t0 := Tryz.underlying0
  a0 := Tryz.isAgg0
  z0 := Tryz.sizeOf0
  v0 := Tryz.zeroValue0
  t3 := Tryz.underlying3
  a3 := Tryz.isAgg3
  z3 := Tryz.sizeOf3
  v3 := Tryz.zeroValue3
  t4 := Tryz.underlying4
  a4 := Tryz.isAgg4
  z4 := Tryz.sizeOf4
  v4 := Tryz.zeroValue4
  t5 := Tryz.underlying5
  a5 := Tryz.isAgg5
  z5 := Tryz.sizeOf5
  v5 := Tryz.zeroValue5
  t9 := Tryz.underlying9
  a9 := Tryz.isAgg9
  z9 := Tryz.sizeOf9
  v9 := Tryz.zeroValue9
  t28 := Tryz.underlying75
  a28 := Tryz.isAgg75
  z28 := Tryz.sizeOf75
  v28 := Tryz.zeroValue75
  t46 := Tryz.underlying79
  a46 := Tryz.isAgg79
  z46 := Tryz.sizeOf79
  v46 := Tryz.zeroValue79
  t51 := Tryz.underlying113
  a51 := Tryz.isAgg113
  z51 := Tryz.sizeOf113
  v51 := Tryz.zeroValue113
  t53 := Tryz.underlying115
  a53 := Tryz.isAgg115
  z53 := Tryz.sizeOf115
  v53 := Tryz.zeroValue115
  t131 := Tryz.underlying50
  a131 := Tryz.isAgg50
  z131 := Tryz.sizeOf50
  v131 := Tryz.zeroValue50
  t182 := Tryz.underlying106
  a182 := Tryz.isAgg106
  z182 := Tryz.sizeOf106
  v182 := Tryz.zeroValue106
  t183 := Tryz.underlying107
  a183 := Tryz.isAgg107
  z183 := Tryz.sizeOf107
  v183 := Tryz.zeroValue107
  t218 := Tryz.underlying148
  a218 := Tryz.isAgg148
  z218 := Tryz.sizeOf148
  v218 := Tryz.zeroValue148
  t222 := Tryz.underlying152
  a222 := Tryz.isAgg152
  z222 := Tryz.sizeOf152
  v222 := Tryz.zeroValue152
  t228 := Tryz.underlying188
  a228 := Tryz.isAgg188
  z228 := Tryz.sizeOf188
  v228 := Tryz.zeroValue188
  t229 := Tryz.underlying189
  a229 := Tryz.isAgg189
  z229 := Tryz.sizeOf189
  v229 := Tryz.zeroValue189 }

theorem flat_encZ (l : List Int) : l.flatMap encZ = l.map (Value.int .i64) := by
  induction l with
  | nil => rfl
  | cons x l ih => rw [List.flatMap_cons, ih]; rfl
theorem sortInts_c (l : List Int) (hne : l ≠ []) (hl : l.length < 1000000000) (base : Nat) (v : Value) (w : World) (ho : Own base 3 1 encZ w v l) :
    Fun Tryz.prog 51 [v] w fun r w' => Own base 3 1 encZ w' v (l.mergeSort fun a b => decide (a ≤ b)) ∧ Kept (fun j => v.ownBlock = some j) w w' := by
  refine fun_of_calls Tryz.func51 (by kernel_rfl) (by kernel_rfl) ?_
  unfold Vc.Own at *
  obtain ⟨hr, he⟩ := ho
  obtain ⟨hlen, ⟨h0, _⟩ | ⟨g, cap, cur, hv, hbase, hB, hlc, hcm, hcs, htk⟩⟩ := id hr
  · subst h0
    have := hlen
    simp at hlen
    exact absurd (List.length_eq_zero_iff.1 (by omega)) hne
  · subst hv
    have hgs := (Array.getElem?_eq_some_iff.1 hB).1
    rw [Nat.mul_one, flat_encZ] at htk
    have hH := holds_of_blockI (ss := l) hB htk
    refine Calls.mono (Any.sort_Ints sortI g 0 cap l w hH hgs (by omega)) ?_
    rintro e w' ⟨rfl, n, os, rfl⟩
    have hml : (l.mergeSort fun a b => decide (a ≤ b)).length = l.length := (List.mergeSort_perm l _).length_eq
    refine ⟨_, rfl, ⟨?_, he⟩, ?_⟩
    · have := ownsRow_sortedI (n := n) (os := os) (ts := l.mergeSort fun a b => decide (a ≤ b)) hml hbase hB hlc hcm hcs
      rw [flat_encZ, hml]
      exact this
    · exact Kept.grown (grownBy_sortedI _) (fun _ h => h)
end Go.Proofs.YtplbgmoeannobaaGreatDoor
