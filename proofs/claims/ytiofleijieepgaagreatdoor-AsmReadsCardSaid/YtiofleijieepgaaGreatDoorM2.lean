/- Texts of this claim, merged: Open, Facts. -/
import Derived.Test.YtiofleijieepgaaGreatDoorM1
import Derived.WalkKit
import Derived.ProofKit
import Derived.Handy
import Derived.OpenShut
import Derived.LaidMore
import Derived.Deep.Strs
import Derived.Test.YtiofleijieepgaaGreatDoorProg
section
set_option linter.unusedSimpArgs false
set_option linter.unusedVariables false
namespace Go.Vc
open Go.RowKit

theorem exists_list {α : Type} (Pr : Nat → α → Prop) : ∀ n, (∀ i, i < n → ∃ x, Pr i x) → ∃ l : List α, l.length = n ∧ ∀ i x, l[i]? = some x → Pr i x
  | 0, _ => ⟨[], rfl, fun i x h => by simp at h⟩
  | n + 1, h => by
    obtain ⟨l, hl, hp⟩ := exists_list Pr n (fun i hi => h i (by omega))
    obtain ⟨y, hy⟩ := h n (by omega)
    refine ⟨l ++ [y], by simp [hl], fun i x hx => ?_⟩
    rcases Nat.lt_trichotomy i n with hlt | heq | hgt
    · rw [List.getElem?_append_left (by omega)] at hx
      exact hp i x hx
    · subst heq
      rw [List.getElem?_append_right (by omega), hl, Nat.sub_self] at hx
      simp at hx; subst hx; exact hy
    · rw [List.getElem?_eq_none (by simp [hl]; omega)] at hx; cases hx

theorem mapM_cells {w : World} {a : Addr} : ∀ (n s : Nat) (cs : List Value), ((List.range' s n).mapM fun i => w.cell? (a.add i)) = some cs → cs.length = n ∧ ∀ j u, cs[j]? = some u → w.cell? (a.add (s + j)) = some u
  | 0, s, cs, h => by
    simp at h; subst h
    exact ⟨rfl, fun j u hu => by simp at hu⟩
  | n + 1, s, cs, h => by
    rw [List.range'_succ, List.mapM_cons] at h
    cases hc : w.cell? (a.add s) with
    | none => simp [hc] at h
    | some c =>
      rw [hc] at h
      simp only [Option.pure_def, Option.bind_eq_bind, Option.bind_some] at h
      cases hr : (List.range' (s + 1) n).mapM fun i => w.cell? (a.add i) with
      | none => simp [hr] at h
      | some r =>
        rw [hr] at h
        simp only [Option.bind_some, Option.some.injEq] at h
        subst h
        obtain ⟨h1, h2⟩ := mapM_cells n (s + 1) r hr
        refine ⟨by simp [h1], fun j u hu => ?_⟩
        cases j with
        | zero => simp at hu; subst hu; exact hc
        | succ j =>
          have := h2 j u (by simpa using hu)
          rwa [show s + 1 + j = s + (j + 1) by omega] at this

theorem cells_open {w : World} {base : Nat} {a : Addr} {n : Nat} {cs : List Value} (h : w.cells? base a n = some cs) : cs.length = n ∧ ∀ j u, cs[j]? = some u → w.cell? (a.add j) = some u := by
  unfold World.cells? at h
  split at h
  · rw [List.range_eq_range'] at h
    obtain ⟨h1, h2⟩ := mapM_cells n 0 cs h
    exact ⟨h1, fun j u hu => by simpa using h2 j u hu⟩
  · cases h

theorem open_slice {H : Type} {enc : TypeId × Value → H} {P : Program} {W : World} {base : Nat} {sp : Nat → Bool} {held : Bool} {α : Type} {t e : TypeId} {k : Nat} {R : List Value → α → Prop} (ht : P.underlying t = some (.slice e)) (hc : P.cellsOf e = k) (hk : 0 < k)
    {fuel : Nat} {cs : List Value} {x : DataW H × List MemPlace} (h : DataW.trod enc P W base sp held fuel t cs = some x) (hel : ∀ n cs y, cs.length = k → DataW.trod enc P W base sp held n e cs = some y → ∃ x, R cs x) :
    ∃ v l, cs = [v] ∧ Sl (fun _ => False) k R W v l := by
  rcases DataW.trod_slice ht h with ⟨rfl, _⟩ | ⟨a, len, cap, elems, rest, n, _, rfl, _, _, hlc, _, hlen, he, _⟩
  · exact ⟨_, [], rfl, Sl.nil _ _ _ _ _ _⟩
  · obtain ⟨l, hl, hp⟩ := exists_list (fun i (x : α) => ∃ ci : List Value, ci.length = k ∧ (∀ j u, ci[j]? = some u → W.cell? ((a.add (i * k)).add j) = some u) ∧ R ci x) len (fun i hi => by
      have hE := he i hi
      rw [hc] at hE
      have hs : elems[i]? = some elems[i] := List.getElem?_eq_getElem (by omega)
      rw [hs] at hE
      obtain ⟨ci, h1, h2⟩ := Option.bind_eq_some_iff.1 hE
      obtain ⟨h3, h4⟩ := cells_open h1
      obtain ⟨x, hx⟩ := hel n ci _ h3 h2
      exact ⟨x, ci, h3, h4, hx⟩)
    refine ⟨_, l, rfl, some a, cap, by rw [hl], by omega, fun i x hx => ?_⟩
    obtain ⟨ci, h1, h2, h3⟩ := hp i x hx
    have hi0 := (List.getElem?_eq_some_iff.1 hx).1
    obtain ⟨c0, g1, g2, _⟩ := hp 0 l[0] (List.getElem?_eq_getElem (by omega))
    have h0 := g2 0 c0[0] (List.getElem?_eq_getElem (by omega))
    obtain ⟨b, o, spot⟩ := a
    have hsp : spot = none := by
      have := World.cell?_spot h0
      rw [Nat.zero_mul] at this
      simpa [Addr.add] using this
    subst hsp
    exact ⟨b, o, ci, rfl, id, h1, fun j u hu => by have := h2 j u hu; rwa [add_lit, add_lit] at this, h3⟩

theorem cells_agg {v : Value} {n : Nat} (hn : n ≠ 1) (h : v.cells.toList.length = n) : ∃ cs : List Value, v = .agg cs.toArray ∧ v.cells.toList = cs := by
  cases v <;> first | (exact absurd h (by simp [Value.cells]; omega)) | skip
  rename_i cs
  exact ⟨cs.toList, by simp, rfl⟩
end Go.Vc
end
section
namespace Go.Proofs.YtiofleijieepgaaGreatDoor
open Go.Vc Go.Proofs
theorem tyK_3 : tyK Tryz.prog 3 = some none := by kernel_rfl
theorem eqKind_4 : eqKind Tryz.prog 4 = 6 := by kernel_rfl
theorem tyK_4 : tyK Tryz.prog 4 = some none := by kernel_rfl
theorem tyK_5 : tyK Tryz.prog 5 = some none := by kernel_rfl
theorem eqKind_9 : eqKind Tryz.prog 9 = 0 := by kernel_rfl
theorem tyK_9 : tyK Tryz.prog 9 = some none := by kernel_rfl
theorem elemK_9 : elemK Tryz.prog 9 = none := by kernel_rfl
theorem eqKind_20 : eqKind Tryz.prog 20 = 1 := by kernel_rfl
theorem tyK_22 : tyK Tryz.prog 22 = some none := by kernel_rfl
theorem elemK_22 : elemK Tryz.prog 22 = some (45, 5) := by kernel_rfl
theorem elI_22 : elI Tryz.prog 22 = some (45, 5, 104) := by kernel_rfl
theorem tyK_24 : tyK Tryz.prog 24 = some (some 2) := by kernel_rfl
theorem bldI_24 : bldI Tryz.prog 24 = some ([.slice none 0 0, .bool false], [(0, 1), (1, 1)]) := by kernel_rfl
theorem fieldK_24_0 : fieldK Tryz.prog 24 0 = some (0, none) := by kernel_rfl
theorem fieldK_24_1 : fieldK Tryz.prog 24 1 = some (1, none) := by kernel_rfl
theorem eqKind_29 : eqKind Tryz.prog 29 = 1 := by kernel_rfl
theorem tyK_29 : tyK Tryz.prog 29 = some none := by kernel_rfl
theorem tyK_40 : tyK Tryz.prog 40 = some none := by kernel_rfl
theorem elemK_40 : elemK Tryz.prog 40 = some (102, 1) := by kernel_rfl
theorem elI_40 : elI Tryz.prog 40 = some (102, 1, 24) := by kernel_rfl
theorem tyK_41 : tyK Tryz.prog 41 = some none := by kernel_rfl
theorem elemK_41 : elemK Tryz.prog 41 = some (89, 3) := by kernel_rfl
theorem elI_41 : elI Tryz.prog 41 = some (89, 3, 24) := by kernel_rfl
theorem tyK_43 : tyK Tryz.prog 43 = some (some 2) := by kernel_rfl
theorem fieldK_43_0 : fieldK Tryz.prog 43 0 = some (0, none) := by kernel_rfl
theorem fieldK_43_1 : fieldK Tryz.prog 43 1 = some (1, none) := by kernel_rfl
theorem tyK_45 : tyK Tryz.prog 45 = some (some 5) := by kernel_rfl
theorem bldI_45 : bldI Tryz.prog 45 = some ([.bool false, .slice none 0 0, .slice none 0 0, .slice none 0 0, .slice none 0 0], [(0, 1), (1, 2), (3, 2)]) := by kernel_rfl
theorem fieldK_45_0 : fieldK Tryz.prog 45 0 = some (0, none) := by kernel_rfl
theorem fieldK_45_1 : fieldK Tryz.prog 45 1 = some (1, (some 2)) := by kernel_rfl
theorem fieldK_45_2 : fieldK Tryz.prog 45 2 = some (3, (some 2)) := by kernel_rfl
theorem eqKind_47 : eqKind Tryz.prog 47 = 0 := by kernel_rfl
theorem tyK_47 : tyK Tryz.prog 47 = some none := by kernel_rfl
theorem tyK_52 : tyK Tryz.prog 52 = some (some 2) := by kernel_rfl
theorem bldI_52 : bldI Tryz.prog 52 = some ([.int .i64 0, .int .i64 0], [(0, 1), (1, 1)]) := by kernel_rfl
theorem fieldK_52_0 : fieldK Tryz.prog 52 0 = some (0, none) := by kernel_rfl
theorem fieldK_52_1 : fieldK Tryz.prog 52 1 = some (1, none) := by kernel_rfl
theorem tyK_61 : tyK Tryz.prog 61 = some none := by kernel_rfl
theorem elemK_61 : elemK Tryz.prog 61 = some (9, 1) := by kernel_rfl
theorem elI_61 : elI Tryz.prog 61 = some (9, 1, 16) := by kernel_rfl
theorem tyK_64 : tyK Tryz.prog 64 = some none := by kernel_rfl
theorem bldI_66 : bldI Tryz.prog 66 = some ([.slice none 0 0], [(0, 1)]) := by kernel_rfl
theorem fieldK_66_0 : fieldK Tryz.prog 66 0 = some (0, none) := by kernel_rfl
theorem eqKind_67 : eqKind Tryz.prog 67 = 2 := by kernel_rfl
theorem bldI_68 : bldI Tryz.prog 68 = some ([.int .i64 0, .int .i64 0], [(0, 1), (1, 1)]) := by kernel_rfl
theorem fieldK_68_0 : fieldK Tryz.prog 68 0 = some (0, none) := by kernel_rfl
theorem fieldK_68_1 : fieldK Tryz.prog 68 1 = some (1, none) := by kernel_rfl
theorem tyK_71 : tyK Tryz.prog 71 = some none := by kernel_rfl
theorem elemK_75 : elemK Tryz.prog 75 = some (5, 1) := by kernel_rfl
theorem eqKind_89 : eqKind Tryz.prog 89 = 10 := by kernel_rfl
theorem tyK_89 : tyK Tryz.prog 89 = some (some 3) := by kernel_rfl
theorem bldI_89 : bldI Tryz.prog 89 = some ([.int .i64 0, .int .i64 0, .int .i64 0], [(0, 1), (1, 1), (2, 1)]) := by kernel_rfl
theorem fieldK_89_0 : fieldK Tryz.prog 89 0 = some (0, none) := by kernel_rfl
theorem fieldK_89_1 : fieldK Tryz.prog 89 1 = some (1, none) := by kernel_rfl
theorem fieldK_89_2 : fieldK Tryz.prog 89 2 = some (2, none) := by kernel_rfl
theorem tyK_102 : tyK Tryz.prog 102 = some none := by kernel_rfl
theorem elemK_102 : elemK Tryz.prog 102 = some (138, 2) := by kernel_rfl
theorem elI_102 : elI Tryz.prog 102 = some (138, 2, 16) := by kernel_rfl
theorem elemK_105 : elemK Tryz.prog 105 = none := by kernel_rfl
theorem arrK_105 : arrK Tryz.prog 105 = some (6, 9, 1) := by kernel_rfl
theorem arrK_121 : arrK Tryz.prog 121 = some (6, 82, 1) := by kernel_rfl
theorem eqKind_138 : eqKind Tryz.prog 138 = 9 := by kernel_rfl
theorem tyK_138 : tyK Tryz.prog 138 = some (some 2) := by kernel_rfl
theorem bldI_138 : bldI Tryz.prog 138 = some ([.int .i64 0, .int .i64 0], [(0, 1), (1, 1)]) := by kernel_rfl
theorem fieldK_138_0 : fieldK Tryz.prog 138 0 = some (0, none) := by kernel_rfl
theorem fieldK_138_1 : fieldK Tryz.prog 138 1 = some (1, none) := by kernel_rfl
theorem eqKind_157 : eqKind Tryz.prog 157 = 2 := by kernel_rfl
theorem arrK_166 : arrK Tryz.prog 166 = some (256, 5, 1) := by kernel_rfl
theorem arrK_170 : arrK Tryz.prog 170 = some (256, 4, 1) := by kernel_rfl
theorem arrK_171 : arrK Tryz.prog 171 = some (256, 4, 1) := by kernel_rfl
theorem eqKind_176 : eqKind Tryz.prog 176 = 0 := by kernel_rfl
theorem tyK_182 : tyK Tryz.prog 182 = some (some 3) := by kernel_rfl
theorem tyK_185 : tyK Tryz.prog 185 = some none := by kernel_rfl
theorem arrK_193 : arrK Tryz.prog 193 = some (24, 5, 1) := by kernel_rfl
theorem arrK_226 : arrK Tryz.prog 226 = some (16, 225, 2) := by kernel_rfl
theorem arrK_229 : arrK Tryz.prog 229 = some (20, 194, 1) := by kernel_rfl
theorem elemK_230 : elemK Tryz.prog 230 = none := by kernel_rfl
theorem arrK_230 : arrK Tryz.prog 230 = some (65, 5, 1) := by kernel_rfl
theorem arrK_251 : arrK Tryz.prog 251 = some (32, 5, 1) := by kernel_rfl
theorem elemK_252 : elemK Tryz.prog 252 = none := by kernel_rfl
theorem arrK_252 : arrK Tryz.prog 252 = some (64, 5, 1) := by kernel_rfl
theorem arrK_255 : arrK Tryz.prog 255 = some (0, 16, 1) := by kernel_rfl
theorem mixed : Tryz.prog.follows .mixedOrders = true := by kernel_rfl
attribute [push_cast] Tryz.underlying1 Tryz.underlying2 tyK_3 Tryz.underlying3 eqKind_4 tyK_4 Tryz.underlying4 tyK_5 Tryz.underlying5 Tryz.underlying6 eqKind_9 tyK_9 elemK_9 Tryz.underlying9 Tryz.underlying10 Tryz.underlying11 Tryz.underlying12 Tryz.underlying15 Tryz.underlying16 Tryz.underlying17 eqKind_20 Tryz.underlying21 tyK_22 elemK_22 Tryz.underlying22 tyK_24 bldI_24 fieldK_24_0 fieldK_24_1 Tryz.underlying25 Tryz.underlying26 Tryz.underlying27 eqKind_29 tyK_29 Tryz.underlying31 Tryz.underlying33 Tryz.underlying35 Tryz.underlying36 Tryz.underlying37 Tryz.underlying38 Tryz.underlying39 tyK_40 elemK_40 Tryz.underlying40 tyK_41 elemK_41 Tryz.underlying41 tyK_43 fieldK_43_0 fieldK_43_1 tyK_45 bldI_45 fieldK_45_0 fieldK_45_1 fieldK_45_2 Tryz.underlying46 eqKind_47 tyK_47 Tryz.underlying47 Tryz.underlying49 Tryz.underlying50 tyK_52 bldI_52 fieldK_52_0 fieldK_52_1 Tryz.underlying54 Tryz.underlying55 Tryz.underlying56 Tryz.underlying57 Tryz.underlying58 Tryz.underlying59 Tryz.underlying60 tyK_61 elemK_61 Tryz.underlying61 Tryz.underlying62 Tryz.underlying63 tyK_64 Tryz.underlying64 bldI_66 fieldK_66_0 eqKind_67 Tryz.underlying67 bldI_68 fieldK_68_0 fieldK_68_1 Tryz.underlying69 Tryz.underlying70 tyK_71 Tryz.underlying71 Tryz.underlying73 Tryz.underlying74 elemK_75 Tryz.underlying75 Tryz.underlying79 Tryz.underlying80 Tryz.underlying81 Tryz.underlying82 Tryz.underlying83 Tryz.underlying84 Tryz.underlying86 Tryz.underlying87 eqKind_89 tyK_89 bldI_89 fieldK_89_0 fieldK_89_1 fieldK_89_2 Tryz.underlying90 Tryz.underlying91 Tryz.underlying92 Tryz.underlying93 Tryz.underlying94 Tryz.underlying95 Tryz.underlying97 Tryz.underlying98 Tryz.underlying99 Tryz.underlying100 Tryz.underlying101 tyK_102 elemK_102 Tryz.underlying102 Tryz.underlying103 Tryz.underlying104 elemK_105 arrK_105 Tryz.underlying106 Tryz.underlying107 Tryz.underlying108 Tryz.underlying109 Tryz.underlying110 Tryz.underlying111 Tryz.underlying112 Tryz.underlying113 Tryz.underlying116 Tryz.underlying117 Tryz.underlying118 Tryz.underlying120 arrK_121 Tryz.underlying123 Tryz.underlying124 Tryz.underlying128 Tryz.underlying129 Tryz.underlying130 Tryz.underlying131 Tryz.underlying133 Tryz.underlying134 Tryz.underlying136 eqKind_138 tyK_138 bldI_138 fieldK_138_0 fieldK_138_1 Tryz.underlying140 Tryz.underlying142 Tryz.underlying143 Tryz.underlying144 Tryz.underlying145 Tryz.underlying146 Tryz.underlying147 Tryz.underlying148 Tryz.underlying149 Tryz.underlying150 Tryz.underlying151 Tryz.underlying152 Tryz.underlying154 Tryz.underlying155 Tryz.underlying156 eqKind_157 Tryz.underlying157 Tryz.underlying158 Tryz.underlying160 Tryz.underlying162 Tryz.underlying163 Tryz.underlying164 Tryz.underlying165 arrK_166 Tryz.underlying167 Tryz.underlying168 Tryz.underlying169 arrK_170 arrK_171 Tryz.underlying173 Tryz.underlying174 Tryz.underlying175 eqKind_176 Tryz.underlying176 Tryz.underlying177 Tryz.underlying178 Tryz.underlying179 Tryz.underlying180 tyK_182 Tryz.underlying183 tyK_185 Tryz.underlying186 Tryz.underlying187 Tryz.underlying188 Tryz.underlying189 Tryz.underlying190 Tryz.underlying191 Tryz.underlying192 arrK_193 Tryz.underlying194 Tryz.underlying195 Tryz.underlying196 Tryz.underlying198 Tryz.underlying199 Tryz.underlying202 Tryz.underlying203 Tryz.underlying204 Tryz.underlying205 Tryz.underlying207 Tryz.underlying208 Tryz.underlying211 Tryz.underlying214 Tryz.underlying215 Tryz.underlying216 Tryz.underlying217 Tryz.underlying220 Tryz.underlying222 Tryz.underlying223 arrK_226 Tryz.underlying227 Tryz.underlying228 arrK_229 elemK_230 arrK_230 Tryz.underlying231 Tryz.underlying232 Tryz.underlying233 Tryz.underlying236 Tryz.underlying239 Tryz.underlying242 Tryz.underlying243 Tryz.underlying244 Tryz.underlying245 Tryz.underlying248 Tryz.underlying249 Tryz.underlying250 arrK_251 elemK_252 arrK_252 arrK_255 Tryz.underlying258 Tryz.underlying259 Tryz.underlying260 Tryz.underlying261 Tryz.underlying262 Tryz.underlying263 Tryz.underlying266 Tryz.underlying267 Tryz.underlying270 Tryz.underlying271 Tryz.underlying274 Tryz.underlying275 Tryz.underlying278
end Go.Proofs.YtiofleijieepgaaGreatDoor
end
