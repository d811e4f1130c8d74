import Derived.Test.YtplbgmoeannobaaGreatDoorJoin
import Derived.Test.YtplbgmoeannobaaGreatDoorPfld
import Derived.Shelf.Strings.FieldsAny
import Derived.Shelf.Strings.SlTrimAscii
import Derived.Shelf.Strings.Split
import Derived.Shelf.Unicode.PredsPay
/- strings.Trim by [ and ], strings.Fields, strings.SplitN at - of at most three. -/
namespace Go.Proofs.YtplbgmoeannobaaGreatDoor
open Go.Vc Go.Proofs Go.RowKit Cae
set_option maxRecDepth 100000
set_option linter.unusedSimpArgs false
set_option linter.unusedVariables false
attribute [local irreducible] wpL callK valK unitK runK Fun Sl Own vc vcOps opK pureK
set_option maxHeartbeats 4000000
def trimR_ren : Go.Shelf.Ren := ⟨fun | 160 => 39 | 232 => 59 | 231 => 58 | 227 => 60 | 234 => 62 | 233 => 61 | 236 => 64 | 235 => 63 | 228 => 89 | 271 => 92 | 151 => 91 | 197 => 90 | 120 => 122 | 152 => 121 | 260 => 120 | 137 => 151 | 119 => 152 | 224 => 132 | 225 => 131 | 217 => 130 | 266 => 154 | n => n, fun | 9 => 9 | 4 => 4 | 3 => 3 | 5 => 5 | 117 => 88 | 116 => 87 | 0 => 0 | 124 => 91 | 21 => 21 | 105 => 122 | 46 => 79 | 119 => 82 | 139 => 195 | 138 => 194 | n => n, fun | 3 => 6 | 4 => 7 | n => n⟩
theorem trimR : Go.Proofs.Lays.n160 Tryz.prog trimR_ren := {
  mixed := by kernel_rfl
  f119 := Tryz.func152.trans (congrArg some (by kernel_rfl))
  f120 := Tryz.func122.trans (congrArg some (by kernel_rfl))
  f137 := Tryz.func151.trans (congrArg some (by kernel_rfl))
  f151 := Tryz.func91.trans (congrArg some (by kernel_rfl))
  f152 := Tryz.func121.trans (congrArg some (by kernel_rfl))
  f160 := Tryz.func39.trans (congrArg some (by kernel_rfl))
  f197 := Tryz.func90.trans (congrArg some (by kernel_rfl))
  f217 := Tryz.func130.trans (congrArg some (by kernel_rfl))
  f224 := Tryz.func132.trans (congrArg some (by kernel_rfl))
  f225 := Tryz.func131.trans (congrArg some (by kernel_rfl))
  f227 := Tryz.func60.trans (congrArg some (by kernel_rfl))
  f228 := Tryz.func89.trans (congrArg some (by kernel_rfl))
  f231 := Tryz.func58.trans (congrArg some (by kernel_rfl))
  f232 := Tryz.func59.trans (congrArg some (by kernel_rfl))
  f233 := Tryz.func61.trans (congrArg some (by kernel_rfl))
  f234 := Tryz.func62.trans (congrArg some (by kernel_rfl))
  f235 := Tryz.func63.trans (congrArg some (by kernel_rfl))
  f236 := Tryz.func64.trans (congrArg some (by kernel_rfl))
  f260 := Tryz.func120.trans (congrArg some (by kernel_rfl))
  f266 := Tryz.func154.trans (congrArg some (by kernel_rfl))
  f271 := Tryz.func92.trans (congrArg some (by kernel_rfl))
  t0 := Tryz.underlying0
  a0 := Tryz.isAgg0
  z0 := Tryz.sizeOf0
  v0 := Tryz.zeroValue0
  t3 := Tryz.underlying3
  a3 := Tryz.isAgg3
  z3 := Tryz.sizeOf3
  v3 := Tryz.zeroValue3
  t4 := Tryz.underlying4
  a4 := Tryz.isAgg4
  z4 := Tryz.sizeOf4
  v4 := Tryz.zeroValue4
  t5 := Tryz.underlying5
  a5 := Tryz.isAgg5
  z5 := Tryz.sizeOf5
  v5 := Tryz.zeroValue5
  t9 := Tryz.underlying9
  a9 := Tryz.isAgg9
  z9 := Tryz.sizeOf9
  v9 := Tryz.zeroValue9
  t21 := Tryz.underlying21
  a21 := Tryz.isAgg21
  z21 := Tryz.sizeOf21
  v21 := Tryz.zeroValue21
  t46 := Tryz.underlying79
  a46 := Tryz.isAgg79
  z46 := Tryz.sizeOf79
  v46 := Tryz.zeroValue79
  t105 := Tryz.underlying122
  a105 := Tryz.isAgg122
  z105 := Tryz.sizeOf122
  v105 := Tryz.zeroValue122
  t116 := Tryz.underlying87
  a116 := Tryz.isAgg87
  z116 := Tryz.sizeOf87
  t117 := Tryz.underlying88
  a117 := Tryz.isAgg88
  z117 := Tryz.sizeOf88
  v117 := Tryz.zeroValue88
  t119 := Tryz.underlying82
  a119 := Tryz.isAgg82
  z119 := Tryz.sizeOf82
  t124 := Tryz.underlying91
  a124 := Tryz.isAgg91
  z124 := Tryz.sizeOf91
  v124 := Tryz.zeroValue91
  t138 := Tryz.underlying194
  a138 := Tryz.isAgg194
  z138 := Tryz.sizeOf194
  v138 := Tryz.zeroValue194
  t139 := Tryz.underlying195
  a139 := Tryz.isAgg195
  z139 := Tryz.sizeOf195
  v139 := Tryz.zeroValue195
  g3 := by kernel_rfl
  g4 := by kernel_rfl }

def fieldsR_ren : Go.Shelf.Ren := ⟨fun | 157 => 38 | 229 => 56 | 199 => 57 | 261 => 88 | 311 => 118 | 312 => 119 | n => n, fun | 9 => 9 | 31 => 54 | 3 => 3 | 5 => 5 | 4 => 4 | 119 => 82 | 0 => 0 | 40 => 84 | 152 => 116 | 21 => 21 | 154 => 118 | 51 => 113 | 141 => 120 | 196 => 157 | 193 => 154 | 198 => 160 | 49 => 158 | 194 => 155 | 201 => 163 | 226 => 191 | 46 => 79 | 227 => 192 | n => n, fun | 0 => 0 | 6 => 1 | n => n⟩
theorem fieldsR : Go.Proofs.Lays.n157 Tryz.prog fieldsR_ren := {
  mixed := by kernel_rfl
  f157 := Tryz.func38.trans (congrArg some (by kernel_rfl))
  f199 := Tryz.func57.trans (congrArg some (by kernel_rfl))
  f229 := Tryz.func56.trans (congrArg some (by kernel_rfl))
  f261 := Tryz.func88.trans (congrArg some (by kernel_rfl))
  f311 := Tryz.func118.trans (congrArg some (by kernel_rfl))
  f312 := Tryz.func119.trans (congrArg some (by kernel_rfl))
  t0 := Tryz.underlying0
  a0 := Tryz.isAgg0
  z0 := Tryz.sizeOf0
  v0 := Tryz.zeroValue0
  t3 := Tryz.underlying3
  a3 := Tryz.isAgg3
  z3 := Tryz.sizeOf3
  v3 := Tryz.zeroValue3
  t4 := Tryz.underlying4
  a4 := Tryz.isAgg4
  z4 := Tryz.sizeOf4
  v4 := Tryz.zeroValue4
  t5 := Tryz.underlying5
  a5 := Tryz.isAgg5
  z5 := Tryz.sizeOf5
  v5 := Tryz.zeroValue5
  t9 := Tryz.underlying9
  a9 := Tryz.isAgg9
  z9 := Tryz.sizeOf9
  v9 := Tryz.zeroValue9
  t21 := Tryz.underlying21
  a21 := Tryz.isAgg21
  z21 := Tryz.sizeOf21
  v21 := Tryz.zeroValue21
  t31 := Tryz.underlying54
  a31 := Tryz.isAgg54
  z31 := Tryz.sizeOf54
  v31 := Tryz.zeroValue54
  t40 := Tryz.underlying84
  a40 := Tryz.isAgg84
  z40 := Tryz.sizeOf84
  v40 := Tryz.zeroValue84
  t46 := Tryz.underlying79
  a46 := Tryz.isAgg79
  z46 := Tryz.sizeOf79
  v46 := Tryz.zeroValue79
  t49 := Tryz.underlying158
  a49 := Tryz.isAgg158
  z49 := Tryz.sizeOf158
  v49 := Tryz.zeroValue158
  t51 := Tryz.underlying113
  a51 := Tryz.isAgg113
  z51 := Tryz.sizeOf113
  v51 := Tryz.zeroValue113
  t119 := Tryz.underlying82
  a119 := Tryz.isAgg82
  z119 := Tryz.sizeOf82
  t141 := Tryz.underlying120
  a141 := Tryz.isAgg120
  z141 := Tryz.sizeOf120
  v141 := Tryz.zeroValue120
  t152 := Tryz.underlying116
  a152 := Tryz.isAgg116
  z152 := Tryz.sizeOf116
  v152 := Tryz.zeroValue116
  t154 := Tryz.underlying118
  a154 := Tryz.isAgg118
  z154 := Tryz.sizeOf118
  v154 := Tryz.zeroValue118
  t193 := Tryz.underlying154
  a193 := Tryz.isAgg154
  z193 := Tryz.sizeOf154
  v193 := Tryz.zeroValue154
  t194 := Tryz.underlying155
  a194 := Tryz.isAgg155
  z194 := Tryz.sizeOf155
  v194 := Tryz.zeroValue155
  t196 := Tryz.underlying157
  a196 := Tryz.isAgg157
  z196 := Tryz.sizeOf157
  v196 := Tryz.zeroValue157
  t198 := Tryz.underlying160
  a198 := Tryz.isAgg160
  z198 := Tryz.sizeOf160
  v198 := Tryz.zeroValue160
  t201 := Tryz.underlying163
  a201 := Tryz.isAgg163
  z201 := Tryz.sizeOf163
  v201 := Tryz.zeroValue163
  t226 := Tryz.underlying191
  a226 := Tryz.isAgg191
  z226 := Tryz.sizeOf191
  v226 := Tryz.zeroValue191
  t227 := Tryz.underlying192
  a227 := Tryz.isAgg192
  z227 := Tryz.sizeOf192
  v227 := Tryz.zeroValue192
  g0 := by kernel_rfl
  g6 := by kernel_rfl }

def splitNR_ren : Go.Shelf.Ren := ⟨fun | 147 => 40 | 221 => 65 | 268 => 93 | 138 => 94 | 143 => 95 | 195 => 123 | 197 => 90 | 218 => 124 | 219 => 104 | 260 => 120 | 217 => 130 | 225 => 131 | 224 => 132 | 267 => 133 | 266 => 154 | 314 => 155 | n => n, fun | 9 => 9 | 3 => 3 | 31 => 54 | 4 => 4 | 0 => 0 | 105 => 122 | 21 => 21 | 5 => 5 | 46 => 79 | 119 => 82 | 139 => 195 | 138 => 194 | 146 => 199 | 51 => 113 | n => n, fun | 1 => 4 | 3 => 6 | 4 => 7 | n => n⟩
theorem splitNR : Go.Proofs.Lays.n147 Tryz.prog splitNR_ren := {
  mixed := by kernel_rfl
  f138 := Tryz.func94.trans (congrArg some (by kernel_rfl))
  f143 := Tryz.func95.trans (congrArg some (by kernel_rfl))
  f147 := Tryz.func40.trans (congrArg some (by kernel_rfl))
  f195 := Tryz.func123.trans (congrArg some (by kernel_rfl))
  f197 := Tryz.func90.trans (congrArg some (by kernel_rfl))
  f217 := Tryz.func130.trans (congrArg some (by kernel_rfl))
  f218 := Tryz.func124.trans (congrArg some (by kernel_rfl))
  f219 := Tryz.func104.trans (congrArg some (by kernel_rfl))
  f221 := Tryz.func65.trans (congrArg some (by kernel_rfl))
  f224 := Tryz.func132.trans (congrArg some (by kernel_rfl))
  f225 := Tryz.func131.trans (congrArg some (by kernel_rfl))
  f260 := Tryz.func120.trans (congrArg some (by kernel_rfl))
  f266 := Tryz.func154.trans (congrArg some (by kernel_rfl))
  f267 := Tryz.func133.trans (congrArg some (by kernel_rfl))
  f268 := Tryz.func93.trans (congrArg some (by kernel_rfl))
  f314 := Tryz.func155.trans (congrArg some (by kernel_rfl))
  t0 := Tryz.underlying0
  a0 := Tryz.isAgg0
  z0 := Tryz.sizeOf0
  v0 := Tryz.zeroValue0
  t3 := Tryz.underlying3
  a3 := Tryz.isAgg3
  z3 := Tryz.sizeOf3
  v3 := Tryz.zeroValue3
  t4 := Tryz.underlying4
  a4 := Tryz.isAgg4
  z4 := Tryz.sizeOf4
  v4 := Tryz.zeroValue4
  t5 := Tryz.underlying5
  a5 := Tryz.isAgg5
  z5 := Tryz.sizeOf5
  v5 := Tryz.zeroValue5
  t9 := Tryz.underlying9
  a9 := Tryz.isAgg9
  z9 := Tryz.sizeOf9
  v9 := Tryz.zeroValue9
  t21 := Tryz.underlying21
  a21 := Tryz.isAgg21
  z21 := Tryz.sizeOf21
  v21 := Tryz.zeroValue21
  t31 := Tryz.underlying54
  a31 := Tryz.isAgg54
  z31 := Tryz.sizeOf54
  v31 := Tryz.zeroValue54
  t46 := Tryz.underlying79
  a46 := Tryz.isAgg79
  z46 := Tryz.sizeOf79
  v46 := Tryz.zeroValue79
  t51 := Tryz.underlying113
  a51 := Tryz.isAgg113
  z51 := Tryz.sizeOf113
  v51 := Tryz.zeroValue113
  t105 := Tryz.underlying122
  a105 := Tryz.isAgg122
  z105 := Tryz.sizeOf122
  v105 := Tryz.zeroValue122
  t119 := Tryz.underlying82
  a119 := Tryz.isAgg82
  z119 := Tryz.sizeOf82
  t138 := Tryz.underlying194
  a138 := Tryz.isAgg194
  z138 := Tryz.sizeOf194
  v138 := Tryz.zeroValue194
  t139 := Tryz.underlying195
  a139 := Tryz.isAgg195
  z139 := Tryz.sizeOf195
  v139 := Tryz.zeroValue195
  t146 := Tryz.underlying199
  a146 := Tryz.isAgg199
  z146 := Tryz.sizeOf199
  v146 := Tryz.zeroValue199
  g1 := by kernel_rfl
  g3 := by kernel_rfl
  g4 := by kernel_rfl }

/-- What the library's functions on texts read of variables. -/
structure Tv (w : World) : Prop where
  mx : ∃ m, w.cell? ⟨4, 0, none⟩ = some (.int .i64 m)
  sp : Lib.TabIs Tryz.prog w "strings.asciiSpace" .u8 Lib.asciiSpaceTab
  wt : Lib.WhiteTab 1 w
theorem Tv.below {w w' : World} (h : Tv w) (hb : Below w.heap.size w w') : Tv w' :=
  ⟨by obtain ⟨m, hm⟩ := h.mx; exact ⟨m, (hb.cell (World.block_lt_of_cell? _ _ hm)).trans hm⟩, TabIs_below (g := 0) (by kernel_rfl) h.sp hb, WhiteTab_below h.wt hb⟩
theorem trim_c (s : List UInt8) (hs : s.length ≤ 1000000000) (w : World) : Fun Tryz.prog 39 [str s, str [91, 93]] w fun r w' => r = str (Lib.trimS s [91, 93]) ∧ Below w.heap.size w w' := by
  refine fun_of_calls Tryz.func39 (by kernel_rfl) (by kernel_rfl) ?_
  refine Calls.mono (Any.strings_Trim_laid trimR (by kernel_rfl) ⟨s.toArray⟩ ⟨[(91 : UInt8), 93].toArray⟩ w (by show s.length ≤ _; omega) (by decide) (ascii_of_all (by decide))) ?_
  rintro e w' ⟨rfl, hb⟩
  exact ⟨_, rfl, rfl, hb⟩
theorem fields_c (s : List UInt8) (hs : s.length ≤ 1000000000) (w : World) (h : Tv w) : Fun Tryz.prog 38 [str s] w fun r w' => Own w.heap.size 9 1 encS w' r (Lib.fieldsD s) ∧ Below w.heap.size w w' := by
  refine fun_of_calls Tryz.func38 (by kernel_rfl) (by kernel_rfl) ?_
  refine Calls.mono (Any.strings_Fields_any fieldsR (by kernel_rfl) (by kernel_rfl) (by kernel_rfl) ⟨s.toArray⟩ w (by show s.length < _; omega) h.sp h.wt) ?_
  rintro e w' ⟨A, rfl, hA, ho, hb⟩
  refine ⟨_, rfl, ?_, hb⟩
  unfold Vc.Own
  refine ⟨?_, fun _ => rfl⟩
  have e : ∀ l : List (List UInt8), l.flatMap encS = l.map fun x => Value.string ⟨x.toArray⟩ := by
    intro l
    induction l with
    | nil => rfl
    | cons x l ih => rw [List.flatMap_cons, ih]; rfl
  rw [e]
  exact ho
theorem splitN_c (t : List UInt8) (ht : t.length ≤ 1000000000) (w : World) (h : Tv w) : Fun Tryz.prog 40 [str (t ++ 45 :: t), str [45], .int .i64 3] w fun r w' => Sl (fun _ => False) 1 (En encS) w' r (piecesR t) ∧ Below w.heap.size w w' := by
  refine fun_of_calls Tryz.func40 (by kernel_rfl) (by kernel_rfl) ?_
  obtain ⟨m, hm⟩ := h.mx
  refine Calls.mono (Any.strings_SplitN splitNR (by kernel_rfl) ⟨(t ++ 45 :: t).toArray⟩ ⟨[(45 : UInt8)].toArray⟩ 3 m w (by show (t ++ 45 :: t).length < _; simp only [List.length_append, List.length_cons]; omega) hm (by decide) (by decide) (by decide)) ?_
  rintro e w' ⟨rfl, rfl⟩
  have hsz : (⟨(t ++ 45 :: t).toArray⟩ : ByteArray).size = (t ++ 45 :: t).length := rfl
  rw [hsz]
  have hd := Lib.splitB_data ⟨[(45 : UInt8)].toArray⟩ 0 (min 3 ((t ++ 45 :: t).length + 1) - 1) ⟨(t ++ 45 :: t).toArray⟩
  have hle := Lib.splitB_length_le ⟨[(45 : UInt8)].toArray⟩ 0 (min 3 ((t ++ 45 :: t).length + 1) - 1) ⟨(t ++ 45 :: t).toArray⟩
  generalize hgB : Lib.splitB ⟨[(45 : UInt8)].toArray⟩ 0 (min 3 ((t ++ 45 :: t).length + 1) - 1) ⟨(t ++ 45 :: t).toArray⟩ = B at hd hle
  have hp : B.map (fun b => b.data.toList) = piecesR t := hd
  have hl : B.length = (piecesR t).length := by rw [← hp, List.length_map]
  refine ⟨_, rfl, ?_, (Below.refl _ _).alloc (Nat.le_refl _) _⟩
  rw [hl]
  unfold Sl
  refine ⟨_, _, rfl, by rw [← hl]; omega, fun i x hx => ⟨w.heap.size, 0, encS x, rfl, fun h => h, rfl, fun j u hu => ?_, rfl⟩⟩
  rw [← hp, List.getElem?_map] at hx
  obtain ⟨y, hy, hyx⟩ := Option.map_eq_some_iff.1 hx
  match j, hu with
  | 0, hu =>
    cases hu
    rw [World.cell?_alloc_new]
    subst hyx
    unfold Lib.cellsOf
    have hi := (List.getElem?_eq_some_iff.1 hy).1
    simp only [Nat.zero_add, Nat.mul_one, Nat.add_zero, List.getElem?_toArray]
    rw [List.getElem?_append_left (by rw [List.length_map]; exact hi), List.getElem?_map, hy]
    rfl
  | j + 1, hu => cases hu
end Go.Proofs.YtplbgmoeannobaaGreatDoor
