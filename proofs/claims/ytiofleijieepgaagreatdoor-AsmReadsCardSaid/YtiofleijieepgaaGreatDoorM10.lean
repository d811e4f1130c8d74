/- Texts of this claim, merged: AtA, IsB, IsE, Ri4. -/
import Derived.Test.YtiofleijieepgaaGreatDoorM9
import Derived.Test.YtiofleijieepgaaGreatDoorM4
import Derived.Test.YtiofleijieepgaaGreatDoorM3
import Derived.Test.YtiofleijieepgaaGreatDoorM6
import Derived.Test.YtiofleijieepgaaGreatDoorM8
section
namespace Go.Proofs.YtiofleijieepgaaGreatDoor
open Go.Vc Go.Proofs Go.RowKit Cae
set_option maxRecDepth 100000
set_option linter.unusedSimpArgs false
set_option linter.unusedVariables false
attribute [local irreducible] wpL callK valK unitK runK Fun Sl Vc.Own vc vcOps opK pureK
set_option maxHeartbeats 8000000
/-- What Parse answers. -/
def ParseA (B : Nat) (s : List UInt8) (r : Value) (w : World) : Prop := match parseA s with
  | .ok p => ∃ v, r = .tuple #[v, .nilIface] ∧ ProgV (· < B) w v p
  | .form n => FailR B (n : Nat) r w
  | .arg => r = .tuple #[.agg #[.slice none 0 0, .bool false], .iface 47 (.int .i64 1)]
/-- A program that is being read: the rules that are there (their row is the call's own), and the boxes of the call. -/
structure Pg (b2 rb ab qb pb B5 : Nat) (sl : Value) (els : Bool) (w : World) (acc : List PairP) : Prop where
  st : ∃ (us : List PV) (pv : Value), Blk w pb 24 [pv, .bool els] ∧ Vc.Own B5 45 5 encPV w pv us ∧ us.length = acc.length ∧ ∀ (i : Nat) (s : PairP), acc[i]? = some s → ∃ u, us[i]? = some u ∧ PairR (fun b => b < B5 ∨ pv.ownBlock = some b) w (encPV u) s
  zero : Blk w b2 24 [.slice none 0 0, .bool false]
  all : Blk w ab 61 [sl]
  rd : Blk w qb 64 [.pointer (some ⟨rb, 0, none⟩)]
  lt : b2 < B5 ∧ ab < B5 ∧ qb < B5 ∧ pb < B5 ∧ rb < B5
  ne : b2 ≠ rb ∧ ab ≠ rb ∧ qb ≠ rb ∧ pb ≠ rb ∧ pb ≠ b2 ∧ pb ≠ ab ∧ pb ≠ qb
  le : B5 ≤ w.heap.size
theorem Pg.kept {b2 rb ab qb pb B5 : Nat} {sl : Value} {els : Bool} {w w' : World} {acc : List PairP} (h : Pg b2 rb ab qb pb B5 sl els w acc) (hk : Kept (· = rb) w w') : Pg b2 rb ab qb pb B5 sl els w' acc := by
  obtain ⟨us, pv, h1, h2, h3, h4⟩ := h.st
  have hl := h.lt
  have hn := h.ne
  exact ⟨⟨us, pv, h1.kept hk (by omega), h2.keptX hk (fun g hg hh => by have := (h2.block g hg).1; omega), h3, fun i s hs => by
    obtain ⟨u, hu, hp⟩ := h4 i s hs
    exact ⟨u, hu, hp.mono (fun b hnb hlt => hk.block b hlt (fun hh => hnb (.inl (by omega)))) (fun _ h => h)⟩⟩, h.zero.kept hk (by omega), h.all.kept hk (by omega), h.rd.kept hk (by omega), hl, hn, by have := h.le; have := hk.size; omega⟩
theorem Pg.says {b2 rb ab qb pb B5 : Nat} {sl : Value} {els : Bool} {w : World} {acc : List PairP} (h : Pg b2 rb ab qb pb B5 sl els w acc) : ∃ a c, Blk w pb 24 [.slice a acc.length c, .bool els] ∧
    ∀ (b : Bool) w', Put w w' pb 24 [.slice a acc.length c, .bool b] → Pg b2 rb ab qb pb B5 sl b w' acc := by
  obtain ⟨us, pv, h1, h2, h3, h4⟩ := h.st
  obtain ⟨a, c, rfl⟩ := h2.slice
  rw [h3] at h1 h2 h4
  have hl := h.lt
  have hn := h.ne
  refine ⟨a, c, h1, fun b w' hp => ?_⟩
  have hk := hp.kept
  exact ⟨⟨us, _, hp.blk, h2.keptX hk (fun g hg hh => by have := (h2.block g hg).1; omega), h3, fun i s hs => by
    obtain ⟨u, hu, hp⟩ := h4 i s hs
    exact ⟨u, hu, hp.mono (fun b hnb hlt => hk.block b hlt (fun hh => hnb (.inl (by omega)))) (fun _ h => h)⟩⟩, h.zero.kept hk (by omega), h.all.kept hk (by omega), h.rd.kept hk (by omega), hl, hn, by have := h.le; have := hk.size; omega⟩
/-- The program, as a value. -/
theorem Pg.prog {b2 rb ab qb pb B5 : Nat} {sl : Value} {els : Bool} {w : World} {acc : List PairP} (h : Pg b2 rb ab qb pb B5 sl els w acc) : ∃ a c, Blk w pb 24 [.slice a acc.length c, .bool els] ∧
    ∀ w', Kept (fun b => b < B5) w w' → ProgV (fun b => b < B5) w' (.agg #[.slice a acc.length c, .bool els]) ⟨acc, els⟩ := by
  obtain ⟨us, pv, h1, h2, h3, h4⟩ := h.st
  obtain ⟨a, c, rfl⟩ := h2.slice
  refine ⟨a, c, by rw [h3] at h1; exact h1, fun w' hk => ⟨_, rfl, ?_⟩⟩
  have hO := h2.keptX hk (fun g hg hh => by have := (h2.block g hg).1; omega)
  rw [← h3]
  exact ownRead (R := PairR (fun b => b < B5) w') hO h3 (fun i s hs => by
    obtain ⟨u, hu, hp⟩ := h4 i s hs
    exact ⟨u, hu, hp.mono (fun b hnb hlt => hk.block b hlt (fun hh => hnb (.inl hh))) (fun _ h => .inl h)⟩)
theorem body_left {L l l2 : List (List UInt8)} {rs : List PairP} {b : Bool} (h : rulesA L.length [] L = .ok (rs, l)) (h2 : saysA elseW l = .ok (b, l2)) (hp : 0 < l2.length) : bodyA L = .error l2.length := by
  cases l2 with
  | nil => simp at hp
  | cons s r => exact body_e3 h h2
theorem PairR.moved {X Y Z : Nat → Prop} {w w' : World} {cs : List Value} {r : PairP} (h : PairR X w cs r) (kc : Kept Y w w') (hY : ∀ i, Y i → X i) (hZ : ∀ b, Z b → X b ∨ w.heap.size ≤ b) : PairR Z w' cs r :=
  (h.narrow (X' := fun b => X b ∨ Z b) (fun b hb hh => by
    rcases hh with hh | hh
    · exact hh
    · rcases hZ b hh with h1 | h1
      · exact h1
      · omega)).mono (fun b hnb hlt => kc.block b hlt (fun hy => hnb (.inl (hY b hy)))) (fun b hb => .inr hb)
theorem parseA_c (s : List UInt8) (hs : s.length ≤ 999990) (w : World) (hv : Vs w) (hg : 14 ≤ w.heap.size) :
    Fun Tryz.prog 8 [str s] w fun r w' => ParseA w.heap.size s r w' ∧ Below w.heap.size w w' := by
  have hLn := linesA_len s
  have hLm := linesA_mem (s := s)
  refine fun_of_vcC Tryz.func8 rfl (by kernel_rfl) [.cell 2 24, .tmp 3] rfl ?_
  push_cast -dsimp (maxSteps := 4000000) [Tryz.ntmps8]
  refine allocK (z := [.slice none 0 0, .bool false]) (by kernel_rfl) ?_
  intro w1 hw1
  have z1 := hw1.size
  push_cast -dsimp
  refine callK_of (trimTen_c s (by omega) w1) ?_
  rintro _ w1' ⟨rfl, hw1e⟩
  obtain rfl : w1 = w1' := hw1e.symm
  push_cast -dsimp
  have htl : (trimA s).length ≤ s.length := by
    unfold trimA
    split <;> simp
  refine callK_of (split10_c (trimA s) (by omega) w1 (hv.below hw1.below hg).m) ?_
  rintro vl w2 ⟨hsl, hb2⟩
  have z2 := hb2.size
  have hsl : Sl (fun b => b < w1.heap.size) 1 (En encS) w2 vl (linesA s) := hsl
  obtain ⟨va, vk, rfl, hvk⟩ := hsl.shape
  push_cast -dsimp
  refine allocK (z := [.slice none 0 0]) (by kernel_rfl) ?_
  intro w3 hw3
  have z3 := hw3.size
  push_cast -dsimp
  refine storeK_of hw3.blk (by simp) rfl ?_
  intro w4 hw4
  have z4 := hw4.size
  have A4 : Blk w4 w2.heap.size 61 [.slice va (linesA s).length vk] := hw4.blk
  have a40 : w4.cell? ⟨w2.heap.size, 0, none⟩ = some (.slice va (linesA s).length vk) := A4.cell rfl
  have hb24 : Below w2.heap.size w2 w4 := hw3.below.trans (hw4.kept.below (by omega) (fun i h => by omega))
  push_cast -dsimp [a40]
  refine boxK_of ?_
  intro w5 hw5
  have hw5 : New w4 w5 66 [.slice va (linesA s).length vk] := hw5
  have z5 := hw5.size
  push_cast -dsimp
  refine allocK (z := [.pointer none]) (by kernel_rfl) ?_
  intro w6 hw6
  have z6 := hw6.size
  push_cast -dsimp
  refine storeK_of hw6.blk (by simp) rfl ?_
  intro w7 hw7
  have z7 := hw7.size
  have Q7 : Blk w7 w5.heap.size 64 [.pointer (some ⟨w4.heap.size, 0, none⟩)] := hw7.blk
  have hb57 : Below w5.heap.size w5 w7 := hw6.below.trans (hw7.kept.below (by omega) (fun i h => by omega))
  push_cast -dsimp
  refine allocK (z := [.slice none 0 0, .bool false]) (by kernel_rfl) ?_
  intro w8 hw8
  have z8 := hw8.size
  have hb58 := hb57.trans (hw8.below.mono (by omega))
  have hb48 := hw5.below.trans (hb58.mono (by omega))
  have hb28 := hb24.trans (hb48.mono (by omega))
  have hbw2 : Below w.heap.size w w2 := hw1.below.trans (hb2.mono (by omega))
  have hbw8 := hbw2.trans (hb28.mono (by omega))
  have hX : ∃ X : Nat → Prop, X = (fun b => b < w1.heap.size ∨ w2.heap.size ≤ b) := ⟨_, rfl⟩
  obtain ⟨X, hX⟩ := hX
  have hR8 : Rd w4.heap.size X w8 (linesA s) := ⟨⟨_, hw5.blk.below hb58 (by omega), (hsl.fresh (X' := X) (fun _ => by simp [encS]) (fun b hb => by rw [hX] at hb; exact hb)).below hb28⟩, by rw [hX]; exact .inr (by omega), fun t ht => by have := hLm t ht; omega, by omega⟩
  have hP8 : Pg w.heap.size w4.heap.size w2.heap.size w5.heap.size w7.heap.size w8.heap.size (.slice va (linesA s).length vk) false w8 [] := ⟨⟨[], .slice none 0 0, hw8.blk, Vc.Own.nil (enc := encPV) _ _ (fun _ => rfl) _, rfl, fun i u h1 => by simp at h1⟩,
    (hw1.blk.below hb2 (by omega)).below hb28 (by omega), A4.below hb48 (by omega), Q7.below hw8.below (by omega), by omega, by omega, Nat.le_refl _⟩
  push_cast -dsimp
  refine wpL_loop [3, 8, 9, 17, 18, 19, 20, 21, 22, 23, 24, 25, 26, 27, 28, 29, 30, 31, 32, 33, 34, 35, 36, 37, 38, 39, 40, 41, 42, 43, 44, 45, 46, 47, 48, 49, 50, 51, 52, 53, 54, 55, 56, 57, 58, 59, 60, 61, 62, 63, 64, 65, 66, 67, 68, 69, 70, 71, 72, 73, 74, 75, 76, 77, 78, 79, 80, 81] (fun z wx => ∃ (n : Nat) (acc : List PairP) (l : List (List UInt8)), rulesA (linesA s).length [] (linesA s) = rulesA n acc l ∧ l.length ≤ n ∧ acc.length + l.length ≤ (linesA s).length ∧ Rd w4.heap.size X wx l ∧ Pg w.heap.size w4.heap.size w2.heap.size w5.heap.size w7.heap.size w8.heap.size (.slice va (linesA s).length vk) false wx acc ∧ Below w.heap.size w wx) (fun _ wx => linesOf w4.heap.size wx) ?_ ?_
  · exact ⟨_, [], linesA s, rfl, Nat.le_refl _, by simp, hR8, hP8, hbw8⟩
  · intro z wx hI
    obtain ⟨n, acc, l, hru, hln, hlL, hR, hP, hbx⟩ := hI
    have zx := hP.le
    have cQx : wx.cell? ⟨w5.heap.size, 0, none⟩ = some (.pointer (some ⟨w4.heap.size, 0, none⟩)) := hP.rd.cell rfl
    cases l with
    | nil =>
      have hR0 := hR
      obtain ⟨v, h1, h2⟩ := hR0.st
      obtain ⟨ra, rc, rfl, hrc⟩ := h2.shape
      have cb : wx.cell? ⟨w4.heap.size, 0, none⟩ = some (.slice ra 0 rc) := h1.cell rfl
      push_cast -dsimp [cQx, cb]
      have hend : ruleStartA [] = false := rfl
      -- ([] : List (List UInt8)): the lines; hend: no rule begins there
      have hru2 := hru.trans (rules_end hend)
      have hle5 := hP.le
      refine callK_of (takeA_c [101, 108, 115, 101, 32, 98, 114, 101, 97, 107] hR) ?_
      rintro _ wy hr
      rcases hr with ⟨l2, hl2, rfl, hRy, hky, hzy⟩ | ⟨hno1, rfl, hwe⟩
      · have hl2n : (([] : List (List UInt8)) : List (List UInt8)).length = l2.length + 1 := congrArg List.length hl2
        have hPy := hP.kept hky
        have hsays := hPy.says
        obtain ⟨pa, pc, hPb, hset⟩ := hsays
        have hby := hbx.trans (hky.below (by omega) (fun i h => by omega))
        push_cast -dsimp
        refine storeK_of hPb (by simp) rfl ?_
        intro wz hwz
        have zz1 := hwz.size
        have hPz := hset true wz hwz
        have hRz := hRy.kept hwz.kept (fun i hi => by rw [hX]; exact .inr (by omega)) (by omega)
        have hbz := hby.trans (hwz.kept.below (by omega) (fun i h => by omega))
        have d1 : wz.cell? ⟨w7.heap.size, 1, none⟩ = some (.bool true) := hwz.blk.cell rfl
        have hsy : saysA elseW ([] : List (List UInt8)) = .ok (true, l2) := by rw [hl2]; exact says_put elseW true l2
        push_cast -dsimp [d1]
        -- wz: the world; hRz: reader at it; hPz: Pg; l2: its lines; hbz: Below; true: else; hsy: saysA
        have hlen9 : (l2 : List (List UInt8)).length ≤ (linesA s).length := by omega
        have hRt := hRz
        obtain ⟨tv, ht1, ht2⟩ := hRt.st
        obtain ⟨ta, tc, rfl, htc⟩ := ht2.shape
        have cbt : (wz).cell? ⟨w4.heap.size, 0, none⟩ = some (.slice ta (l2 : List (List UInt8)).length tc) := ht1.cell rfl
        have cQt := (hPz).rd.cell (o := 0) rfl
        push_cast -dsimp [cQt, cbt]
        refine ⟨fun hpos => ?_, fun hnp => ?_⟩
        · have hbd := body_left hru2 hsy (by omega)
          -- wz: the world; hRz: reader at it; hPz: Pg; l2: its lines; hbz: Below w.heap.size w wz; (parse_e hbd): what the text is; ((linesA s).length - (l2 : List (List UInt8)).length): the line
          have cA := (hPz).all.cell (o := 0) rfl
          have cQ := (hPz).rd.cell (o := 0) rfl
          refine callK_of (failA_c (linesA s).length (by omega) va vk _ _ hRz cA cQ) ?_
          rintro _ wf9 ⟨⟨fb, hfb, rfl, hBf⟩, hbf⟩
          have zf9 := hbf.size
          have zz := (hPz).zero.lt
          have hZf := (hPz).zero.below hbf zz
          push_cast -dsimp
          refine storeAgg (n := 2) (by kernel_rfl) hZf rfl (by simp) (by simp [Value.oneCell']) ?_
          intro wg9 hwg9
          have zg9 := hwg9.size
          have cg : cellsAt wg9 ⟨w.heap.size, 0, none⟩ 0 2 = some [.slice none 0 0, .bool false] := hwg9.blk.cellsAt
          have hkg := hwg9.kept
          push_cast -dsimp [cg]
          have hpf := (parse_e hbd)
          have z59 := (hbz).size
          refine ⟨?_, (hbz).trans ((hbf.mono z59).trans (hkg.below (by omega) (fun i h => by omega)))⟩
          unfold ParseA
          rw [hpf]
          have e9 : (((linesA s).length : Int) - ((l2 : List (List UInt8)).length : Int)) = ((((linesA s).length - (l2 : List (List UInt8)).length) : Nat) : Int) := by omega
          rw [e9] at hBf
          exact ⟨fb, by omega, rfl, hBf.kept hkg (by omega)⟩
        · have hnil : (l2 : List (List UInt8)) = [] := List.eq_nil_of_length_eq_zero (by omega)
          have hbd := body_ok hru2 (by have h9 := hsy; rw [hnil] at h9; exact h9)
          refine callK_of (hasSufTen_c s (by omega) wz) ?_
          rintro _ wu ⟨rfl, hwu⟩
          obtain rfl := hwu.symm
          by_cases hsf : s.getLast? = some 10
          · rw [decide_eq_true hsf]
            have hpg := (hPz).prog
            obtain ⟨qa, qc, hQB, hprog⟩ := hpg
            have hc2 := hQB.cellsAt
            have hc2 : cellsAt (wz) ⟨w7.heap.size, 0, none⟩ 0 2 = some [.slice qa acc.length qc, .bool true] := hc2
            push_cast -dsimp [hc2]
            have hfl := fewP_len (p := ⟨acc, true⟩) (bodyA_few hbd) (by omega)
            refine callK_of (rightProgram_c ⟨acc, true⟩ hfl _ _ (wz) (hprog (wz) (Kept.refl _ _))) ?_
            rintro _ wv ⟨rfl, hbv⟩
            have zv := hbv.size
            have hZt := (hPz).zero
            have hZlt := hZt.lt
            have hZv := hZt.below hbv hZlt
            have hQv := hQB.below hbv hQB.lt
            have hLt := (hPz).lt
            have hLe := (hPz).le
            cases hpr : progRight ⟨acc, true⟩ with
            | true =>
              have hc3 : cellsAt wv ⟨w7.heap.size, 0, none⟩ 0 2 = some [.slice qa acc.length qc, .bool true] := hQv.cellsAt
              push_cast -dsimp [hc3]
              refine storeAgg (n := 2) (by kernel_rfl) hZv rfl (by simp) (by simp [Value.oneCell']) ?_
              intro wy9 hwy
              have cg : cellsAt wy9 ⟨w.heap.size, 0, none⟩ 0 2 = some [.slice qa acc.length qc, .bool true] := hwy.blk.cellsAt
              have hky9 := hwy.kept
              push_cast -dsimp [cg]
              have z59 := (hbz).size
              refine ⟨?_, (hbz).trans ((hbv.mono z59).trans (hky9.below (by omega) (fun i h => by omega)))⟩
              unfold ParseA
              rw [parse_yes hbd hsf hpr]
              refine ⟨_, rfl, ProgV.mono (hprog wy9 ((Kept.of_below hbv (fun i h1 h2 => by omega)).trans hky9 (fun i _ hi => by omega))) (fun _ _ _ => rfl) (fun b hb => by omega)⟩
            | false =>
              push_cast -dsimp
              refine storeAgg (n := 2) (by kernel_rfl) hZv rfl (by simp) (by simp [Value.oneCell']) ?_
              intro wy9 hwy
              have cg : cellsAt wy9 ⟨w.heap.size, 0, none⟩ 0 2 = some [.slice none 0 0, .bool false] := hwy.blk.cellsAt
              have hky9 := hwy.kept
              push_cast -dsimp [cg]
              have z59 := (hbz).size
              refine ⟨?_, (hbz).trans ((hbv.mono z59).trans (hky9.below (by omega) (fun i h => by omega)))⟩
              unfold ParseA
              rw [parse_arg hbd hsf hpr]
          · rw [decide_eq_false hsf]
            push_cast -dsimp
            -- wz: the world; hRz: reader at it; hPz: Pg; l2: its lines; hbz: Below w.heap.size w wz; (parse_no hbd hsf): what the text is; ((linesA s).length): the line
            have cA := (hPz).all.cell (o := 0) rfl
            have cQ := (hPz).rd.cell (o := 0) rfl
            refine callK_of (failA_c (linesA s).length (by omega) va vk _ _ hRz cA cQ) ?_
            rintro _ wf9 ⟨⟨fb, hfb, rfl, hBf⟩, hbf⟩
            have zf9 := hbf.size
            have zz := (hPz).zero.lt
            have hZf := (hPz).zero.below hbf zz
            push_cast -dsimp
            refine storeAgg (n := 2) (by kernel_rfl) hZf rfl (by simp) (by simp [Value.oneCell']) ?_
            intro wg9 hwg9
            have zg9 := hwg9.size
            have cg : cellsAt wg9 ⟨w.heap.size, 0, none⟩ 0 2 = some [.slice none 0 0, .bool false] := hwg9.blk.cellsAt
            have hkg := hwg9.kept
            push_cast -dsimp [cg]
            have hpf := (parse_no hbd hsf)
            have z59 := (hbz).size
            refine ⟨?_, (hbz).trans ((hbf.mono z59).trans (hkg.below (by omega) (fun i h => by omega)))⟩
            unfold ParseA
            rw [hpf]
            have e9 : (((linesA s).length : Int) - ((l2 : List (List UInt8)).length : Int)) = ((((linesA s).length) : Nat) : Int) := by omega
            rw [e9] at hBf
            exact ⟨fb, by omega, rfl, hBf.kept hkg (by omega)⟩
      · obtain rfl : wx = wy := hwe.symm
        have hsays := hP.says
        obtain ⟨pa, pc, hPb, hset⟩ := hsays
        push_cast -dsimp
        refine storeK_of hPb (by simp) rfl ?_
        intro wz hwz
        have zz1 := hwz.size
        have hPz := hset false wz hwz
        have hRz := hR.kept hwz.kept (fun i hi => by rw [hX]; exact .inr (by omega)) (by omega)
        have hbz := hbx.trans (hwz.kept.below (by omega) (fun i h => by omega))
        have d1 : wz.cell? ⟨w7.heap.size, 1, none⟩ = some (.bool false) := hwz.blk.cell rfl
        have cQz := hPz.rd.cell (o := 0) rfl
        push_cast -dsimp [d1, cQz]
        refine callK_of (takeA_c [101, 108, 115, 101, 32, 107, 101, 101, 112] hRz) ?_
        rintro _ wu1 hr
        rcases hr with ⟨l2, hl2, rfl, hRu, hku, hzu⟩ | ⟨hno2, rfl, hwe2⟩
        · have hl2n : (([] : List (List UInt8)) : List (List UInt8)).length = l2.length + 1 := congrArg List.length hl2
          have hPu := hPz.kept hku
          have hbu := hbz.trans (hku.below (by omega) (fun i h => by omega))
          have hsy : saysA elseW ([] : List (List UInt8)) = .ok (false, l2) := by rw [hl2]; exact says_put elseW false l2
          push_cast -dsimp
          -- wu1: the world; hRu: reader at it; hPu: Pg; l2: its lines; hbu: Below; false: else; hsy: saysA
          have hlen9 : (l2 : List (List UInt8)).length ≤ (linesA s).length := by omega
          have hRt := hRu
          obtain ⟨tv, ht1, ht2⟩ := hRt.st
          obtain ⟨ta, tc, rfl, htc⟩ := ht2.shape
          have cbt : (wu1).cell? ⟨w4.heap.size, 0, none⟩ = some (.slice ta (l2 : List (List UInt8)).length tc) := ht1.cell rfl
          have cQt := (hPu).rd.cell (o := 0) rfl
          push_cast -dsimp [cQt, cbt]
          refine ⟨fun hpos => ?_, fun hnp => ?_⟩
          · have hbd := body_left hru2 hsy (by omega)
            -- wu1: the world; hRu: reader at it; hPu: Pg; l2: its lines; hbu: Below w.heap.size w wu1; (parse_e hbd): what the text is; ((linesA s).length - (l2 : List (List UInt8)).length): the line
            have cA := (hPu).all.cell (o := 0) rfl
            have cQ := (hPu).rd.cell (o := 0) rfl
            refine callK_of (failA_c (linesA s).length (by omega) va vk _ _ hRu cA cQ) ?_
            rintro _ wf9 ⟨⟨fb, hfb, rfl, hBf⟩, hbf⟩
            have zf9 := hbf.size
            have zz := (hPu).zero.lt
            have hZf := (hPu).zero.below hbf zz
            push_cast -dsimp
            refine storeAgg (n := 2) (by kernel_rfl) hZf rfl (by simp) (by simp [Value.oneCell']) ?_
            intro wg9 hwg9
            have zg9 := hwg9.size
            have cg : cellsAt wg9 ⟨w.heap.size, 0, none⟩ 0 2 = some [.slice none 0 0, .bool false] := hwg9.blk.cellsAt
            have hkg := hwg9.kept
            push_cast -dsimp [cg]
            have hpf := (parse_e hbd)
            have z59 := (hbu).size
            refine ⟨?_, (hbu).trans ((hbf.mono z59).trans (hkg.below (by omega) (fun i h => by omega)))⟩
            unfold ParseA
            rw [hpf]
            have e9 : (((linesA s).length : Int) - ((l2 : List (List UInt8)).length : Int)) = ((((linesA s).length - (l2 : List (List UInt8)).length) : Nat) : Int) := by omega
            rw [e9] at hBf
            exact ⟨fb, by omega, rfl, hBf.kept hkg (by omega)⟩
          · have hnil : (l2 : List (List UInt8)) = [] := List.eq_nil_of_length_eq_zero (by omega)
            have hbd := body_ok hru2 (by have h9 := hsy; rw [hnil] at h9; exact h9)
            refine callK_of (hasSufTen_c s (by omega) wu1) ?_
            rintro _ wu ⟨rfl, hwu⟩
            obtain rfl := hwu.symm
            by_cases hsf : s.getLast? = some 10
            · rw [decide_eq_true hsf]
              have hpg := (hPu).prog
              obtain ⟨qa, qc, hQB, hprog⟩ := hpg
              have hc2 := hQB.cellsAt
              have hc2 : cellsAt (wu1) ⟨w7.heap.size, 0, none⟩ 0 2 = some [.slice qa acc.length qc, .bool false] := hc2
              push_cast -dsimp [hc2]
              have hfl := fewP_len (p := ⟨acc, false⟩) (bodyA_few hbd) (by omega)
              refine callK_of (rightProgram_c ⟨acc, false⟩ hfl _ _ (wu1) (hprog (wu1) (Kept.refl _ _))) ?_
              rintro _ wv ⟨rfl, hbv⟩
              have zv := hbv.size
              have hZt := (hPu).zero
              have hZlt := hZt.lt
              have hZv := hZt.below hbv hZlt
              have hQv := hQB.below hbv hQB.lt
              have hLt := (hPu).lt
              have hLe := (hPu).le
              cases hpr : progRight ⟨acc, false⟩ with
              | true =>
                have hc3 : cellsAt wv ⟨w7.heap.size, 0, none⟩ 0 2 = some [.slice qa acc.length qc, .bool false] := hQv.cellsAt
                push_cast -dsimp [hc3]
                refine storeAgg (n := 2) (by kernel_rfl) hZv rfl (by simp) (by simp [Value.oneCell']) ?_
                intro wy9 hwy
                have cg : cellsAt wy9 ⟨w.heap.size, 0, none⟩ 0 2 = some [.slice qa acc.length qc, .bool false] := hwy.blk.cellsAt
                have hky9 := hwy.kept
                push_cast -dsimp [cg]
                have z59 := (hbu).size
                refine ⟨?_, (hbu).trans ((hbv.mono z59).trans (hky9.below (by omega) (fun i h => by omega)))⟩
                unfold ParseA
                rw [parse_yes hbd hsf hpr]
                refine ⟨_, rfl, ProgV.mono (hprog wy9 ((Kept.of_below hbv (fun i h1 h2 => by omega)).trans hky9 (fun i _ hi => by omega))) (fun _ _ _ => rfl) (fun b hb => by omega)⟩
              | false =>
                push_cast -dsimp
                refine storeAgg (n := 2) (by kernel_rfl) hZv rfl (by simp) (by simp [Value.oneCell']) ?_
                intro wy9 hwy
                have cg : cellsAt wy9 ⟨w.heap.size, 0, none⟩ 0 2 = some [.slice none 0 0, .bool false] := hwy.blk.cellsAt
                have hky9 := hwy.kept
                push_cast -dsimp [cg]
                have z59 := (hbu).size
                refine ⟨?_, (hbu).trans ((hbv.mono z59).trans (hky9.below (by omega) (fun i h => by omega)))⟩
                unfold ParseA
                rw [parse_arg hbd hsf hpr]
            · rw [decide_eq_false hsf]
              push_cast -dsimp
              -- wu1: the world; hRu: reader at it; hPu: Pg; l2: its lines; hbu: Below w.heap.size w wu1; (parse_no hbd hsf): what the text is; ((linesA s).length): the line
              have cA := (hPu).all.cell (o := 0) rfl
              have cQ := (hPu).rd.cell (o := 0) rfl
              refine callK_of (failA_c (linesA s).length (by omega) va vk _ _ hRu cA cQ) ?_
              rintro _ wf9 ⟨⟨fb, hfb, rfl, hBf⟩, hbf⟩
              have zf9 := hbf.size
              have zz := (hPu).zero.lt
              have hZf := (hPu).zero.below hbf zz
              push_cast -dsimp
              refine storeAgg (n := 2) (by kernel_rfl) hZf rfl (by simp) (by simp [Value.oneCell']) ?_
              intro wg9 hwg9
              have zg9 := hwg9.size
              have cg : cellsAt wg9 ⟨w.heap.size, 0, none⟩ 0 2 = some [.slice none 0 0, .bool false] := hwg9.blk.cellsAt
              have hkg := hwg9.kept
              push_cast -dsimp [cg]
              have hpf := (parse_no hbd hsf)
              have z59 := (hbu).size
              refine ⟨?_, (hbu).trans ((hbf.mono z59).trans (hkg.below (by omega) (fun i h => by omega)))⟩
              unfold ParseA
              rw [hpf]
              have e9 : (((linesA s).length : Int) - ((l2 : List (List UInt8)).length : Int)) = ((((linesA s).length) : Nat) : Int) := by omega
              rw [e9] at hBf
              exact ⟨fb, by omega, rfl, hBf.kept hkg (by omega)⟩
        · obtain rfl := hwe2.symm
          push_cast -dsimp
          have hse := says_err (w := elseW) hno1 hno2
          -- wu1: the world; hRz: reader at it; hPz: Pg; ([] : List (List UInt8)): its lines; hbz: Below w.heap.size w wu1; (parse_e (body_e2 hru2 hse)): what the text is; ((linesA s).length - (([] : List (List UInt8)) : List (List UInt8)).length): the line
          have cA := (hPz).all.cell (o := 0) rfl
          have cQ := (hPz).rd.cell (o := 0) rfl
          refine callK_of (failA_c (linesA s).length (by omega) va vk _ _ hRz cA cQ) ?_
          rintro _ wf9 ⟨⟨fb, hfb, rfl, hBf⟩, hbf⟩
          have zf9 := hbf.size
          have zz := (hPz).zero.lt
          have hZf := (hPz).zero.below hbf zz
          push_cast -dsimp
          refine storeAgg (n := 2) (by kernel_rfl) hZf rfl (by simp) (by simp [Value.oneCell']) ?_
          intro wg9 hwg9
          have zg9 := hwg9.size
          have cg : cellsAt wg9 ⟨w.heap.size, 0, none⟩ 0 2 = some [.slice none 0 0, .bool false] := hwg9.blk.cellsAt
          have hkg := hwg9.kept
          push_cast -dsimp [cg]
          have hpf := (parse_e (body_e2 hru2 hse))
          have z59 := (hbz).size
          refine ⟨?_, (hbz).trans ((hbf.mono z59).trans (hkg.below (by omega) (fun i h => by omega)))⟩
          unfold ParseA
          rw [hpf]
          have e9 : (((linesA s).length : Int) - ((([] : List (List UInt8)) : List (List UInt8)).length : Int)) = ((((linesA s).length - (([] : List (List UInt8)) : List (List UInt8)).length) : Nat) : Int) := by omega
          rw [e9] at hBf
          exact ⟨fb, by omega, rfl, hBf.kept hkg (by omega)⟩
    | cons t r =>
      obtain ⟨b, o, k, hB, hk, hcell⟩ := hR.hd
      have cb : wx.cell? ⟨w4.heap.size, 0, none⟩ = some (.slice (some ⟨b, o, none⟩) (r.length + 1) k) := hB.cell rfl
      have htx := hR.txt t List.mem_cons_self
      push_cast -dsimp [cQx, cb, hcell]
      refine ⟨fun _ => ⟨by omega, ?_⟩, fun h0 => by omega⟩
      refine callK_of (hasPre_c t [114, 117, 108, 101, 32] wx) ?_
      rintro _ wy ⟨rfl, hwe⟩
      obtain rfl : wx = wy := hwe.symm
      cases hpr : ([114, 117, 108, 101, 32] : List UInt8).isPrefixOf t with
      | false =>
        have hend : ruleStartA (t :: r) = false := hpr
        push_cast -dsimp [cQx]
        -- (t :: r): the lines; hend: no rule begins there
        have hru2 := hru.trans (rules_end hend)
        have hle5 := hP.le
        refine callK_of (takeA_c [101, 108, 115, 101, 32, 98, 114, 101, 97, 107] hR) ?_
        rintro _ wy hr
        rcases hr with ⟨l2, hl2, rfl, hRy, hky, hzy⟩ | ⟨hno1, rfl, hwe⟩
        · have hl2n : ((t :: r) : List (List UInt8)).length = l2.length + 1 := congrArg List.length hl2
          have hPy := hP.kept hky
          have hsays := hPy.says
          obtain ⟨pa, pc, hPb, hset⟩ := hsays
          have hby := hbx.trans (hky.below (by omega) (fun i h => by omega))
          push_cast -dsimp
          refine storeK_of hPb (by simp) rfl ?_
          intro wz hwz
          have zz1 := hwz.size
          have hPz := hset true wz hwz
          have hRz := hRy.kept hwz.kept (fun i hi => by rw [hX]; exact .inr (by omega)) (by omega)
          have hbz := hby.trans (hwz.kept.below (by omega) (fun i h => by omega))
          have d1 : wz.cell? ⟨w7.heap.size, 1, none⟩ = some (.bool true) := hwz.blk.cell rfl
          have hsy : saysA elseW (t :: r) = .ok (true, l2) := by rw [hl2]; exact says_put elseW true l2
          push_cast -dsimp [d1]
          -- wz: the world; hRz: reader at it; hPz: Pg; l2: its lines; hbz: Below; true: else; hsy: saysA
          have hlen9 : (l2 : List (List UInt8)).length ≤ (linesA s).length := by omega
          have hRt := hRz
          obtain ⟨tv, ht1, ht2⟩ := hRt.st
          obtain ⟨ta, tc, rfl, htc⟩ := ht2.shape
          have cbt : (wz).cell? ⟨w4.heap.size, 0, none⟩ = some (.slice ta (l2 : List (List UInt8)).length tc) := ht1.cell rfl
          have cQt := (hPz).rd.cell (o := 0) rfl
          push_cast -dsimp [cQt, cbt]
          refine ⟨fun hpos => ?_, fun hnp => ?_⟩
          · have hbd := body_left hru2 hsy (by omega)
            -- wz: the world; hRz: reader at it; hPz: Pg; l2: its lines; hbz: Below w.heap.size w wz; (parse_e hbd): what the text is; ((linesA s).length - (l2 : List (List UInt8)).length): the line
            have cA := (hPz).all.cell (o := 0) rfl
            have cQ := (hPz).rd.cell (o := 0) rfl
            refine callK_of (failA_c (linesA s).length (by omega) va vk _ _ hRz cA cQ) ?_
            rintro _ wf9 ⟨⟨fb, hfb, rfl, hBf⟩, hbf⟩
            have zf9 := hbf.size
            have zz := (hPz).zero.lt
            have hZf := (hPz).zero.below hbf zz
            push_cast -dsimp
            refine storeAgg (n := 2) (by kernel_rfl) hZf rfl (by simp) (by simp [Value.oneCell']) ?_
            intro wg9 hwg9
            have zg9 := hwg9.size
            have cg : cellsAt wg9 ⟨w.heap.size, 0, none⟩ 0 2 = some [.slice none 0 0, .bool false] := hwg9.blk.cellsAt
            have hkg := hwg9.kept
            push_cast -dsimp [cg]
            have hpf := (parse_e hbd)
            have z59 := (hbz).size
            refine ⟨?_, (hbz).trans ((hbf.mono z59).trans (hkg.below (by omega) (fun i h => by omega)))⟩
            unfold ParseA
            rw [hpf]
            have e9 : (((linesA s).length : Int) - ((l2 : List (List UInt8)).length : Int)) = ((((linesA s).length - (l2 : List (List UInt8)).length) : Nat) : Int) := by omega
            rw [e9] at hBf
            exact ⟨fb, by omega, rfl, hBf.kept hkg (by omega)⟩
          · have hnil : (l2 : List (List UInt8)) = [] := List.eq_nil_of_length_eq_zero (by omega)
            have hbd := body_ok hru2 (by have h9 := hsy; rw [hnil] at h9; exact h9)
            refine callK_of (hasSufTen_c s (by omega) wz) ?_
            rintro _ wu ⟨rfl, hwu⟩
            obtain rfl := hwu.symm
            by_cases hsf : s.getLast? = some 10
            · rw [decide_eq_true hsf]
              have hpg := (hPz).prog
              obtain ⟨qa, qc, hQB, hprog⟩ := hpg
              have hc2 := hQB.cellsAt
              have hc2 : cellsAt (wz) ⟨w7.heap.size, 0, none⟩ 0 2 = some [.slice qa acc.length qc, .bool true] := hc2
              push_cast -dsimp [hc2]
              have hfl := fewP_len (p := ⟨acc, true⟩) (bodyA_few hbd) (by omega)
              refine callK_of (rightProgram_c ⟨acc, true⟩ hfl _ _ (wz) (hprog (wz) (Kept.refl _ _))) ?_
              rintro _ wv ⟨rfl, hbv⟩
              have zv := hbv.size
              have hZt := (hPz).zero
              have hZlt := hZt.lt
              have hZv := hZt.below hbv hZlt
              have hQv := hQB.below hbv hQB.lt
              have hLt := (hPz).lt
              have hLe := (hPz).le
              cases hpr : progRight ⟨acc, true⟩ with
              | true =>
                have hc3 : cellsAt wv ⟨w7.heap.size, 0, none⟩ 0 2 = some [.slice qa acc.length qc, .bool true] := hQv.cellsAt
                push_cast -dsimp [hc3]
                refine storeAgg (n := 2) (by kernel_rfl) hZv rfl (by simp) (by simp [Value.oneCell']) ?_
                intro wy9 hwy
                have cg : cellsAt wy9 ⟨w.heap.size, 0, none⟩ 0 2 = some [.slice qa acc.length qc, .bool true] := hwy.blk.cellsAt
                have hky9 := hwy.kept
                push_cast -dsimp [cg]
                have z59 := (hbz).size
                refine ⟨?_, (hbz).trans ((hbv.mono z59).trans (hky9.below (by omega) (fun i h => by omega)))⟩
                unfold ParseA
                rw [parse_yes hbd hsf hpr]
                refine ⟨_, rfl, ProgV.mono (hprog wy9 ((Kept.of_below hbv (fun i h1 h2 => by omega)).trans hky9 (fun i _ hi => by omega))) (fun _ _ _ => rfl) (fun b hb => by omega)⟩
              | false =>
                push_cast -dsimp
                refine storeAgg (n := 2) (by kernel_rfl) hZv rfl (by simp) (by simp [Value.oneCell']) ?_
                intro wy9 hwy
                have cg : cellsAt wy9 ⟨w.heap.size, 0, none⟩ 0 2 = some [.slice none 0 0, .bool false] := hwy.blk.cellsAt
                have hky9 := hwy.kept
                push_cast -dsimp [cg]
                have z59 := (hbz).size
                refine ⟨?_, (hbz).trans ((hbv.mono z59).trans (hky9.below (by omega) (fun i h => by omega)))⟩
                unfold ParseA
                rw [parse_arg hbd hsf hpr]
            · rw [decide_eq_false hsf]
              push_cast -dsimp
              -- wz: the world; hRz: reader at it; hPz: Pg; l2: its lines; hbz: Below w.heap.size w wz; (parse_no hbd hsf): what the text is; ((linesA s).length): the line
              have cA := (hPz).all.cell (o := 0) rfl
              have cQ := (hPz).rd.cell (o := 0) rfl
              refine callK_of (failA_c (linesA s).length (by omega) va vk _ _ hRz cA cQ) ?_
              rintro _ wf9 ⟨⟨fb, hfb, rfl, hBf⟩, hbf⟩
              have zf9 := hbf.size
              have zz := (hPz).zero.lt
              have hZf := (hPz).zero.below hbf zz
              push_cast -dsimp
              refine storeAgg (n := 2) (by kernel_rfl) hZf rfl (by simp) (by simp [Value.oneCell']) ?_
              intro wg9 hwg9
              have zg9 := hwg9.size
              have cg : cellsAt wg9 ⟨w.heap.size, 0, none⟩ 0 2 = some [.slice none 0 0, .bool false] := hwg9.blk.cellsAt
              have hkg := hwg9.kept
              push_cast -dsimp [cg]
              have hpf := (parse_no hbd hsf)
              have z59 := (hbz).size
              refine ⟨?_, (hbz).trans ((hbf.mono z59).trans (hkg.below (by omega) (fun i h => by omega)))⟩
              unfold ParseA
              rw [hpf]
              have e9 : (((linesA s).length : Int) - ((l2 : List (List UInt8)).length : Int)) = ((((linesA s).length) : Nat) : Int) := by omega
              rw [e9] at hBf
              exact ⟨fb, by omega, rfl, hBf.kept hkg (by omega)⟩
        · obtain rfl : wx = wy := hwe.symm
          have hsays := hP.says
          obtain ⟨pa, pc, hPb, hset⟩ := hsays
          push_cast -dsimp
          refine storeK_of hPb (by simp) rfl ?_
          intro wz hwz
          have zz1 := hwz.size
          have hPz := hset false wz hwz
          have hRz := hR.kept hwz.kept (fun i hi => by rw [hX]; exact .inr (by omega)) (by omega)
          have hbz := hbx.trans (hwz.kept.below (by omega) (fun i h => by omega))
          have d1 : wz.cell? ⟨w7.heap.size, 1, none⟩ = some (.bool false) := hwz.blk.cell rfl
          have cQz := hPz.rd.cell (o := 0) rfl
          push_cast -dsimp [d1, cQz]
          refine callK_of (takeA_c [101, 108, 115, 101, 32, 107, 101, 101, 112] hRz) ?_
          rintro _ wu1 hr
          rcases hr with ⟨l2, hl2, rfl, hRu, hku, hzu⟩ | ⟨hno2, rfl, hwe2⟩
          · have hl2n : ((t :: r) : List (List UInt8)).length = l2.length + 1 := congrArg List.length hl2
            have hPu := hPz.kept hku
            have hbu := hbz.trans (hku.below (by omega) (fun i h => by omega))
            have hsy : saysA elseW (t :: r) = .ok (false, l2) := by rw [hl2]; exact says_put elseW false l2
            push_cast -dsimp
            -- wu1: the world; hRu: reader at it; hPu: Pg; l2: its lines; hbu: Below; false: else; hsy: saysA
            have hlen9 : (l2 : List (List UInt8)).length ≤ (linesA s).length := by omega
            have hRt := hRu
            obtain ⟨tv, ht1, ht2⟩ := hRt.st
            obtain ⟨ta, tc, rfl, htc⟩ := ht2.shape
            have cbt : (wu1).cell? ⟨w4.heap.size, 0, none⟩ = some (.slice ta (l2 : List (List UInt8)).length tc) := ht1.cell rfl
            have cQt := (hPu).rd.cell (o := 0) rfl
            push_cast -dsimp [cQt, cbt]
            refine ⟨fun hpos => ?_, fun hnp => ?_⟩
            · have hbd := body_left hru2 hsy (by omega)
              -- wu1: the world; hRu: reader at it; hPu: Pg; l2: its lines; hbu: Below w.heap.size w wu1; (parse_e hbd): what the text is; ((linesA s).length - (l2 : List (List UInt8)).length): the line
              have cA := (hPu).all.cell (o := 0) rfl
              have cQ := (hPu).rd.cell (o := 0) rfl
              refine callK_of (failA_c (linesA s).length (by omega) va vk _ _ hRu cA cQ) ?_
              rintro _ wf9 ⟨⟨fb, hfb, rfl, hBf⟩, hbf⟩
              have zf9 := hbf.size
              have zz := (hPu).zero.lt
              have hZf := (hPu).zero.below hbf zz
              push_cast -dsimp
              refine storeAgg (n := 2) (by kernel_rfl) hZf rfl (by simp) (by simp [Value.oneCell']) ?_
              intro wg9 hwg9
              have zg9 := hwg9.size
              have cg : cellsAt wg9 ⟨w.heap.size, 0, none⟩ 0 2 = some [.slice none 0 0, .bool false] := hwg9.blk.cellsAt
              have hkg := hwg9.kept
              push_cast -dsimp [cg]
              have hpf := (parse_e hbd)
              have z59 := (hbu).size
              refine ⟨?_, (hbu).trans ((hbf.mono z59).trans (hkg.below (by omega) (fun i h => by omega)))⟩
              unfold ParseA
              rw [hpf]
              have e9 : (((linesA s).length : Int) - ((l2 : List (List UInt8)).length : Int)) = ((((linesA s).length - (l2 : List (List UInt8)).length) : Nat) : Int) := by omega
              rw [e9] at hBf
              exact ⟨fb, by omega, rfl, hBf.kept hkg (by omega)⟩
            · have hnil : (l2 : List (List UInt8)) = [] := List.eq_nil_of_length_eq_zero (by omega)
              have hbd := body_ok hru2 (by have h9 := hsy; rw [hnil] at h9; exact h9)
              refine callK_of (hasSufTen_c s (by omega) wu1) ?_
              rintro _ wu ⟨rfl, hwu⟩
              obtain rfl := hwu.symm
              by_cases hsf : s.getLast? = some 10
              · rw [decide_eq_true hsf]
                have hpg := (hPu).prog
                obtain ⟨qa, qc, hQB, hprog⟩ := hpg
                have hc2 := hQB.cellsAt
                have hc2 : cellsAt (wu1) ⟨w7.heap.size, 0, none⟩ 0 2 = some [.slice qa acc.length qc, .bool false] := hc2
                push_cast -dsimp [hc2]
                have hfl := fewP_len (p := ⟨acc, false⟩) (bodyA_few hbd) (by omega)
                refine callK_of (rightProgram_c ⟨acc, false⟩ hfl _ _ (wu1) (hprog (wu1) (Kept.refl _ _))) ?_
                rintro _ wv ⟨rfl, hbv⟩
                have zv := hbv.size
                have hZt := (hPu).zero
                have hZlt := hZt.lt
                have hZv := hZt.below hbv hZlt
                have hQv := hQB.below hbv hQB.lt
                have hLt := (hPu).lt
                have hLe := (hPu).le
                cases hpr : progRight ⟨acc, false⟩ with
                | true =>
                  have hc3 : cellsAt wv ⟨w7.heap.size, 0, none⟩ 0 2 = some [.slice qa acc.length qc, .bool false] := hQv.cellsAt
                  push_cast -dsimp [hc3]
                  refine storeAgg (n := 2) (by kernel_rfl) hZv rfl (by simp) (by simp [Value.oneCell']) ?_
                  intro wy9 hwy
                  have cg : cellsAt wy9 ⟨w.heap.size, 0, none⟩ 0 2 = some [.slice qa acc.length qc, .bool false] := hwy.blk.cellsAt
                  have hky9 := hwy.kept
                  push_cast -dsimp [cg]
                  have z59 := (hbu).size
                  refine ⟨?_, (hbu).trans ((hbv.mono z59).trans (hky9.below (by omega) (fun i h => by omega)))⟩
                  unfold ParseA
                  rw [parse_yes hbd hsf hpr]
                  refine ⟨_, rfl, ProgV.mono (hprog wy9 ((Kept.of_below hbv (fun i h1 h2 => by omega)).trans hky9 (fun i _ hi => by omega))) (fun _ _ _ => rfl) (fun b hb => by omega)⟩
                | false =>
                  push_cast -dsimp
                  refine storeAgg (n := 2) (by kernel_rfl) hZv rfl (by simp) (by simp [Value.oneCell']) ?_
                  intro wy9 hwy
                  have cg : cellsAt wy9 ⟨w.heap.size, 0, none⟩ 0 2 = some [.slice none 0 0, .bool false] := hwy.blk.cellsAt
                  have hky9 := hwy.kept
                  push_cast -dsimp [cg]
                  have z59 := (hbu).size
                  refine ⟨?_, (hbu).trans ((hbv.mono z59).trans (hky9.below (by omega) (fun i h => by omega)))⟩
                  unfold ParseA
                  rw [parse_arg hbd hsf hpr]
              · rw [decide_eq_false hsf]
                push_cast -dsimp
                -- wu1: the world; hRu: reader at it; hPu: Pg; l2: its lines; hbu: Below w.heap.size w wu1; (parse_no hbd hsf): what the text is; ((linesA s).length): the line
                have cA := (hPu).all.cell (o := 0) rfl
                have cQ := (hPu).rd.cell (o := 0) rfl
                refine callK_of (failA_c (linesA s).length (by omega) va vk _ _ hRu cA cQ) ?_
                rintro _ wf9 ⟨⟨fb, hfb, rfl, hBf⟩, hbf⟩
                have zf9 := hbf.size
                have zz := (hPu).zero.lt
                have hZf := (hPu).zero.below hbf zz
                push_cast -dsimp
                refine storeAgg (n := 2) (by kernel_rfl) hZf rfl (by simp) (by simp [Value.oneCell']) ?_
                intro wg9 hwg9
                have zg9 := hwg9.size
                have cg : cellsAt wg9 ⟨w.heap.size, 0, none⟩ 0 2 = some [.slice none 0 0, .bool false] := hwg9.blk.cellsAt
                have hkg := hwg9.kept
                push_cast -dsimp [cg]
                have hpf := (parse_no hbd hsf)
                have z59 := (hbu).size
                refine ⟨?_, (hbu).trans ((hbf.mono z59).trans (hkg.below (by omega) (fun i h => by omega)))⟩
                unfold ParseA
                rw [hpf]
                have e9 : (((linesA s).length : Int) - ((l2 : List (List UInt8)).length : Int)) = ((((linesA s).length) : Nat) : Int) := by omega
                rw [e9] at hBf
                exact ⟨fb, by omega, rfl, hBf.kept hkg (by omega)⟩
          · obtain rfl := hwe2.symm
            push_cast -dsimp
            have hse := says_err (w := elseW) hno1 hno2
            -- wu1: the world; hRz: reader at it; hPz: Pg; (t :: r): its lines; hbz: Below w.heap.size w wu1; (parse_e (body_e2 hru2 hse)): what the text is; ((linesA s).length - ((t :: r) : List (List UInt8)).length): the line
            have cA := (hPz).all.cell (o := 0) rfl
            have cQ := (hPz).rd.cell (o := 0) rfl
            refine callK_of (failA_c (linesA s).length (by omega) va vk _ _ hRz cA cQ) ?_
            rintro _ wf9 ⟨⟨fb, hfb, rfl, hBf⟩, hbf⟩
            have zf9 := hbf.size
            have zz := (hPz).zero.lt
            have hZf := (hPz).zero.below hbf zz
            push_cast -dsimp
            refine storeAgg (n := 2) (by kernel_rfl) hZf rfl (by simp) (by simp [Value.oneCell']) ?_
            intro wg9 hwg9
            have zg9 := hwg9.size
            have cg : cellsAt wg9 ⟨w.heap.size, 0, none⟩ 0 2 = some [.slice none 0 0, .bool false] := hwg9.blk.cellsAt
            have hkg := hwg9.kept
            push_cast -dsimp [cg]
            have hpf := (parse_e (body_e2 hru2 hse))
            have z59 := (hbz).size
            refine ⟨?_, (hbz).trans ((hbf.mono z59).trans (hkg.below (by omega) (fun i h => by omega)))⟩
            unfold ParseA
            rw [hpf]
            have e9 : (((linesA s).length : Int) - (((t :: r) : List (List UInt8)).length : Int)) = ((((linesA s).length - ((t :: r) : List (List UInt8)).length) : Nat) : Int) := by omega
            rw [e9] at hBf
            exact ⟨fb, by omega, rfl, hBf.kept hkg (by omega)⟩
      | true =>
        have hst : ruleStartA (t :: r) = true := hpr
        push_cast -dsimp [cQx]
        rw [List.length_cons] at hln hlL
        refine callK_of (takeA_c [114, 117, 108, 101, 32, 98, 114, 101, 97, 107] hR) ?_
        rintro _ wy hr
        rcases hr with ⟨l1, hl1, rfl, hRy, hky, hzy⟩ | ⟨hno1, rfl, hwe⟩
        · have hl1n : r.length + 1 = l1.length + 1 := congrArg List.length hl1
          have hsy : saysA ruleW (t :: r) = .ok (true, l1) := by rw [hl1]; exact says_put ruleW true l1
          push_cast -dsimp
          refine allocK (z := [.bool false, .slice none 0 0, .slice none 0 0, .slice none 0 0, .slice none 0 0]) (by kernel_rfl) ?_
          intro wa hwa
          have zwa := hwa.size
          push_cast -dsimp
          refine storeAgg (n := 5) (by kernel_rfl) hwa.blk rfl (by simp) (by simp [Value.oneCell']) ?_
          intro wb hwb
          have zwb := hwb.size
          have Xb : Blk wb wy.heap.size 45 [.bool true, .slice none 0 0, .slice none 0 0, .slice none 0 0, .slice none 0 0] := hwb.blk
          have x0 : wb.cell? ⟨wy.heap.size, 0, none⟩ = some (.bool true) := Xb.cell rfl
          have kb := (hky.trans (Kept.new hwa (X := fun _ => False)) (fun _ _ h => h.elim)).trans hwb.kept (fun i hi hh => by omega)
          have hRb := (hRy.kept (Kept.new hwa (X := fun _ => False)) (fun _ h => h.elim) id).kept hwb.kept (fun i hi => by rw [hX]; exact .inr (by omega)) (by omega)
          push_cast -dsimp [x0]
          -- wb: the world; hRb: reader; l1: lines; Xb: Blk of the pair; true: break; kb: Kept from wx; hsy: saysA; wy.heap.size: the pair's block
          have ka := kb
          have za := ka.size
          have hle5 := hP.le
          have hPa := hP.kept ka
          have hba := hbx.trans (ka.below (B := w.heap.size) (by omega) (fun i h => by omega))
          have cQa := hPa.rd.cell (o := 0) rfl
          push_cast -dsimp [cQa]
          refine callK_of (readCode_c l1 hRb (hv.below hba hg) (by omega)) ?_
          rintro _ wc ⟨l2, hRc, ⟨a1, n1, c1, a2, n2, c2, is1, rfl, hca⟩, hkc⟩
          have zc := hkc.size
          have kc := ka.trans hkc (fun i hi hh => by omega)
          push_cast -dsimp
          refine storeAgg (n := 2) (by kernel_rfl) ((Xb).kept hkc (by omega)) rfl (by simp) (by simp [Value.oneCell']) ?_
          intro wd hwd
          have zd := hwd.size
          have Xd : Blk wd wy.heap.size 45 [.bool true, .slice a1 n1 c1, .slice a2 n2 c2, .slice none 0 0, .slice none 0 0] := hwd.blk
          have kd := kc.trans hwd.kept (fun i hi hh => by omega)
          have hRd := hRc.kept hwd.kept (fun i hi => by rw [hX]; exact .inr (by omega)) (by omega)
          have hPd := hP.kept kd
          have hbd := hbx.trans (kd.below (B := w.heap.size) (by omega) (fun i h => by omega))
          have cQd := hPd.rd.cell (o := 0) rfl
          have hlt1 : (l1 : List (List UInt8)).length ≤ r.length := by omega
          rcases hca with ⟨c, rfl, hcA, hcV⟩ | ⟨rfl, hcA⟩
          · have hg1 := codeA_grow hcA few_nil
            have hg12 : c.ins.length + l2.length = 0 + (l1 : List (List UInt8)).length := hg1.2
            push_cast -dsimp [cQd]
            refine callK_of (takeA_c [97, 102, 116, 101, 114] hRd) ?_
            rintro _ we hre
            rcases hre with ⟨l3, hl3, rfl, hRe, hke, hze⟩ | ⟨hno, rfl, hwe⟩
            · have hl3n : l2.length = l3.length + 1 := congrArg List.length hl3
              have haf : afterA l2 = .ok l3 := by rw [hl3]; exact after_put l3
              have ke := kd.trans hke (fun i hi hh => hh)
              have ze := ke.size
              have hPe := hP.kept ke
              have hbe := hbx.trans (ke.below (B := w.heap.size) (by omega) (fun i h => by omega))
              have cQe := hPe.rd.cell (o := 0) rfl
              have Xe := Xd.kept hke (by omega)
              push_cast -dsimp [cQe]
              refine callK_of (readCode_c l3 hRe (hv.below hbe hg) (by omega)) ?_
              rintro _ wf ⟨l4, hRf, ⟨b1, m1, d1, b2, m2, d2, is2, rfl, hda⟩, hkf⟩
              have zf := hkf.size
              have kf := ke.trans hkf (fun i hi hh => by omega)
              push_cast -dsimp
              refine storeAgg (n := 2) (by kernel_rfl) (Xe.kept hkf (by omega)) rfl (by simp) (by simp [Value.oneCell']) ?_
              intro wg hwg
              have zg := hwg.size
              have Xg : Blk wg wy.heap.size 45 [.bool true, .slice a1 n1 c1, .slice a2 n2 c2, .slice b1 m1 d1, .slice b2 m2 d2] := hwg.blk
              have kg := kf.trans hwg.kept (fun i hi hh => by omega)
              have hRg := hRf.kept hwg.kept (fun i hi => by rw [hX]; exact .inr (by omega)) (by omega)
              have hPg := hP.kept kg
              have hbg := hbx.trans (kg.below (B := w.heap.size) (by omega) (fun i h => by omega))
              rcases hda with ⟨d, rfl, hdA, hdV⟩ | ⟨rfl, hdA⟩
              · have hg2 := codeA_grow hdA few_nil
                have hg22 : d.ins.length + l4.length = 0 + l3.length := hg2.2
                have hpair := pair_ok hsy hcA haf hdA
                have hnx := rules_next (acc := acc) hln hst hpair
                obtain ⟨m, hm1, hm2⟩ := hnx
                obtain ⟨us, pv, hB0, hO0, hul, hus0⟩ := hP.st
                have hown0 := hO0.block
                have hB1 := hB0.kept kg (by omega)
                have hO := hO0.keptX kg (fun g hg hh => by have := hown0 g hg; omega)
                have hus : ∀ (i : Nat) (s : PairP), acc[i]? = some s → ∃ u, us[i]? = some u ∧ PairR (fun b => b < w8.heap.size ∨ pv.ownBlock = some b) wg (encPV u) s := fun i s hs => by
                  obtain ⟨u, hu, hp⟩ := hus0 i s hs
                  exact ⟨u, hu, hp.mono (fun b hnb hlt => kg.block b hlt (fun hh => hnb (.inl (by omega)))) (fun _ h => h)⟩
                have hsh := hO.slice
                obtain ⟨pa, pc, rfl⟩ := hsh
                have p0 : wg.cell? ⟨w7.heap.size, 0, none⟩ = some (.slice pa us.length pc) := hB1.cell rfl
                have x5 : cellsAt wg ⟨wy.heap.size, 0, none⟩ 0 5 = some [.bool true, .slice a1 n1 c1, .slice a2 n2 c2, .slice b1 m1 d1, .slice b2 m2 d2] := Xg.cellsAt
                push_cast -dsimp [p0, x5]
                refine rowK elI_22 rfl rfl (by omega) ?_
                intro wh hwh
                have zh := hwh.size
                have hb1h := hB1.below hwh.below hB1.lt
                push_cast -dsimp
                refine appendK2 (base := w8.heap.size) [(⟨true, ⟨a1, n1, c1⟩, ⟨a2, n2, c2⟩, ⟨b1, m1, d1⟩, ⟨b2, m2, d2⟩⟩ : PV)] (enc := encPV) elI_22 (hO.new hwh) (by rfl) (fun j u hu => by simpa [encPV, SV.v] using hwh.cell hu) (by simp [encPV, SV.v, Value.oneCell']) (by simp only [List.length_cons, List.length_nil]; omega) (by omega) ?_
                intro vi wi hoi hgi hni
                have hsh := hoi.slice
                obtain ⟨qa, qc, rfl⟩ := hsh
                have ki : Kept (fun j => (Value.slice pa us.length pc).ownBlock = some j) wg wi := (Kept.new hwh).trans (Kept.grown hgi (fun _ h => h)) (fun _ _ h => h)
                have hBi := hB1.kept ki (fun h => by have := hO.block _ h; omega)
                have zi := ki.size
                push_cast -dsimp
                refine storeK_of hBi (by simp) rfl ?_
                intro wj hwj
                have zj := hwj.size
                have hkgj : Kept (fun j => (Value.slice pa us.length pc).ownBlock = some j ∨ j = w7.heap.size) wg wj := (ki.weaken (fun _ _ h => .inl h)).trans hwj.kept (fun _ _ h => .inr h)
                have kcg : Kept (fun i => i = w4.heap.size ∨ i = wy.heap.size) wc wg := (((hwd.kept.weaken (fun i _ hi => .inr hi)).trans hke (fun i _ hi => .inl hi)).trans hkf (fun i hi hh => by
                  rcases hh with hh | hh
                  · exact .inl hh
                  · omega)).trans hwg.kept (fun i _ hi => .inr hi)
                have hcg : CodeV (fun b => b < w8.heap.size ∨ (Value.slice pa us.length pc).ownBlock = some b) wg (.agg #[.slice a1 n1 c1, .slice a2 n2 c2]) c := (hcV.mono (fun b hnb hlt => kcg.block b hlt (fun hh => hnb (by show b < _; omega))) (fun _ h => h)).narrow (fun b _ hh => by
                  show b < _
                  rcases hh with hh | hh
                  · omega
                  · have := hown0 b hh; omega)
                have hdg : CodeV (fun b => b < w8.heap.size ∨ (Value.slice pa us.length pc).ownBlock = some b) wg (.agg #[.slice b1 m1 d1, .slice b2 m2 d2]) d := (hdV.mono (fun b hnb hlt => hwg.kept.block b hlt (fun hh => hnb (by show b < _; omega))) (fun _ h => h)).narrow (fun b _ hh => by
                  show b < _
                  rcases hh with hh | hh
                  · omega
                  · have := hown0 b hh; omega)
                have hnew : PairR (fun b => b < w8.heap.size ∨ (Value.slice pa us.length pc).ownBlock = some b) wg (encPV ⟨true, ⟨a1, n1, c1⟩, ⟨a2, n2, c2⟩, ⟨b1, m1, d1⟩, ⟨b2, m2, d2⟩⟩) ⟨true, c, d⟩ := ⟨_, _, _, _, rfl, hcg, hdg⟩
                have hYX : ∀ i, ((Value.slice pa us.length pc).ownBlock = some i ∨ i = w7.heap.size) → (i < w8.heap.size ∨ (Value.slice pa us.length pc).ownBlock = some i) := fun i hi => by
                  rcases hi with hi | hi
                  · exact .inr hi
                  · exact .inl (by omega)
                have hZX : ∀ b, (b < w8.heap.size ∨ (Value.slice qa (us ++ [(⟨true, ⟨a1, n1, c1⟩, ⟨a2, n2, c2⟩, ⟨b1, m1, d1⟩, ⟨b2, m2, d2⟩⟩ : PV)]).length qc).ownBlock = some b) → (b < w8.heap.size ∨ (Value.slice pa us.length pc).ownBlock = some b) ∨ wg.heap.size ≤ b := fun b hb => by
                  rcases hb with hb | hb
                  · exact .inl (.inl hb)
                  · rcases hni b hb with h1 | h1
                    · exact .inl (.inr h1)
                    · exact .inr (by omega)
                have hent := append_get (Pr := fun _ u s => PairR (fun b => b < w8.heap.size ∨ (Value.slice qa (us ++ [(⟨true, ⟨a1, n1, c1⟩, ⟨a2, n2, c2⟩, ⟨b1, m1, d1⟩, ⟨b2, m2, d2⟩⟩ : PV)]).length qc).ownBlock = some b) wj (encPV u) s) hul (fun i s hs => by
                  obtain ⟨u, hu, hp⟩ := hus i s hs
                  exact ⟨u, hu, hp.moved hkgj hYX hZX⟩) (hnew.moved hkgj hYX hZX)
                have hne9 := hP.ne
                have hlt9 := hP.lt
                have hPj : Pg w.heap.size w4.heap.size w2.heap.size w5.heap.size w7.heap.size w8.heap.size (.slice va (linesA s).length vk) false wj (acc ++ [⟨true, c, d⟩]) := ⟨⟨_, _, hwj.blk, hoi.keptX hwj.kept (fun g hg hh => by have := hoi.block g hg; omega), by simp [hul], hent⟩,
                  hPg.zero.kept hkgj (fun hh => by
                    rcases hh with hh | hh
                    · have := hown0 _ hh; omega
                    · omega), hPg.all.kept hkgj (fun hh => by
                    rcases hh with hh | hh
                    · have := hown0 _ hh; omega
                    · omega), hPg.rd.kept hkgj (fun hh => by
                    rcases hh with hh | hh
                    · have := hown0 _ hh; omega
                    · omega), hlt9, hne9, by have := hkgj.size; omega⟩
                have hRj := hRg.kept hkgj (fun i hi => by
                  rw [hX]
                  rcases hi with hi | hi
                  · have := hown0 _ hi; exact .inr (by omega)
                  · exact .inr (by omega)) (fun hh => by
                    rcases hh with hh | hh
                    · have := hown0 _ hh; omega
                    · omega)
                have hbj := hbg.trans (hkgj.below (B := w.heap.size) (by omega) (fun i hi => by
                  rcases hi with hi | hi
                  · have := hown0 _ hi; omega
                  · omega))
                push_cast -dsimp
                refine ⟨⟨m, _, l4, hru.trans hm1, hm2, ?_, hRj, hPj, hbj⟩, ?_⟩
                · rw [List.length_append]
                  simp only [List.length_cons, List.length_nil]
                  omega
                · rw [hRj.lines, hR.lines, List.length_cons]
                  omega
              · push_cast -dsimp
                have hpe := pair_e4 hsy hcA haf hdA
                have hce := codeA_err hdA
                -- wg: the world; hRg: reader at it; hPg: Pg; l4: its lines; hbg: Below w.heap.size w wg; (parse_e (body_e1 (hru.trans (rules_err hln hst hpe)))): what the text is; ((linesA s).length - l4.length): the line
                have cA := (hPg).all.cell (o := 0) rfl
                have cQ := (hPg).rd.cell (o := 0) rfl
                refine callK_of (failA_c (linesA s).length (by omega) va vk _ _ hRg cA cQ) ?_
                rintro _ wf9 ⟨⟨fb, hfb, rfl, hBf⟩, hbf⟩
                have zf9 := hbf.size
                have zz := (hPg).zero.lt
                have hZf := (hPg).zero.below hbf zz
                push_cast -dsimp
                refine storeAgg (n := 2) (by kernel_rfl) hZf rfl (by simp) (by simp [Value.oneCell']) ?_
                intro wg9 hwg9
                have zg9 := hwg9.size
                have cg : cellsAt wg9 ⟨w.heap.size, 0, none⟩ 0 2 = some [.slice none 0 0, .bool false] := hwg9.blk.cellsAt
                have hkg := hwg9.kept
                push_cast -dsimp [cg]
                have hpf := (parse_e (body_e1 (hru.trans (rules_err hln hst hpe))))
                have z59 := (hbg).size
                refine ⟨?_, (hbg).trans ((hbf.mono z59).trans (hkg.below (by omega) (fun i h => by omega)))⟩
                unfold ParseA
                rw [hpf]
                have e9 : (((linesA s).length : Int) - ((l4 : List (List UInt8)).length : Int)) = ((((linesA s).length - l4.length) : Nat) : Int) := by omega
                rw [e9] at hBf
                exact ⟨fb, by omega, rfl, hBf.kept hkg (by omega)⟩
            · obtain rfl := hwe.symm
              push_cast -dsimp
              have hpe := pair_e3 hsy hcA (after_err hno)
              -- wd: the world; hRd: reader at it; hPd: Pg; l2: its lines; hbd: Below w.heap.size w wd; (parse_e (body_e1 (hru.trans (rules_err hln hst hpe)))): what the text is; ((linesA s).length - l2.length): the line
              have cA := (hPd).all.cell (o := 0) rfl
              have cQ := (hPd).rd.cell (o := 0) rfl
              refine callK_of (failA_c (linesA s).length (by omega) va vk _ _ hRd cA cQ) ?_
              rintro _ wf9 ⟨⟨fb, hfb, rfl, hBf⟩, hbf⟩
              have zf9 := hbf.size
              have zz := (hPd).zero.lt
              have hZf := (hPd).zero.below hbf zz
              push_cast -dsimp
              refine storeAgg (n := 2) (by kernel_rfl) hZf rfl (by simp) (by simp [Value.oneCell']) ?_
              intro wg9 hwg9
              have zg9 := hwg9.size
              have cg : cellsAt wg9 ⟨w.heap.size, 0, none⟩ 0 2 = some [.slice none 0 0, .bool false] := hwg9.blk.cellsAt
              have hkg := hwg9.kept
              push_cast -dsimp [cg]
              have hpf := (parse_e (body_e1 (hru.trans (rules_err hln hst hpe))))
              have z59 := (hbd).size
              refine ⟨?_, (hbd).trans ((hbf.mono z59).trans (hkg.below (by omega) (fun i h => by omega)))⟩
              unfold ParseA
              rw [hpf]
              have e9 : (((linesA s).length : Int) - ((l2 : List (List UInt8)).length : Int)) = ((((linesA s).length - l2.length) : Nat) : Int) := by omega
              rw [e9] at hBf
              exact ⟨fb, by omega, rfl, hBf.kept hkg (by omega)⟩
          · push_cast -dsimp
            have hpe := pair_e2 hsy hcA
            have hce := codeA_err hcA
            -- wd: the world; hRd: reader at it; hPd: Pg; l2: its lines; hbd: Below w.heap.size w wd; (parse_e (body_e1 (hru.trans (rules_err hln hst hpe)))): what the text is; ((linesA s).length - l2.length): the line
            have cA := (hPd).all.cell (o := 0) rfl
            have cQ := (hPd).rd.cell (o := 0) rfl
            refine callK_of (failA_c (linesA s).length (by omega) va vk _ _ hRd cA cQ) ?_
            rintro _ wf9 ⟨⟨fb, hfb, rfl, hBf⟩, hbf⟩
            have zf9 := hbf.size
            have zz := (hPd).zero.lt
            have hZf := (hPd).zero.below hbf zz
            push_cast -dsimp
            refine storeAgg (n := 2) (by kernel_rfl) hZf rfl (by simp) (by simp [Value.oneCell']) ?_
            intro wg9 hwg9
            have zg9 := hwg9.size
            have cg : cellsAt wg9 ⟨w.heap.size, 0, none⟩ 0 2 = some [.slice none 0 0, .bool false] := hwg9.blk.cellsAt
            have hkg := hwg9.kept
            push_cast -dsimp [cg]
            have hpf := (parse_e (body_e1 (hru.trans (rules_err hln hst hpe))))
            have z59 := (hbd).size
            refine ⟨?_, (hbd).trans ((hbf.mono z59).trans (hkg.below (by omega) (fun i h => by omega)))⟩
            unfold ParseA
            rw [hpf]
            have e9 : (((linesA s).length : Int) - ((l2 : List (List UInt8)).length : Int)) = ((((linesA s).length - l2.length) : Nat) : Int) := by omega
            rw [e9] at hBf
            exact ⟨fb, by omega, rfl, hBf.kept hkg (by omega)⟩
        · obtain rfl : wx = wy := hwe.symm
          push_cast -dsimp
          refine allocK (z := [.bool false, .slice none 0 0, .slice none 0 0, .slice none 0 0, .slice none 0 0]) (by kernel_rfl) ?_
          intro wa hwa
          have zwa := hwa.size
          push_cast -dsimp
          refine storeAgg (n := 5) (by kernel_rfl) hwa.blk rfl (by simp) (by simp [Value.oneCell']) ?_
          intro wb hwb
          have zwb := hwb.size
          have Xb : Blk wb wx.heap.size 45 [.bool false, .slice none 0 0, .slice none 0 0, .slice none 0 0, .slice none 0 0] := hwb.blk
          have x0 : wb.cell? ⟨wx.heap.size, 0, none⟩ = some (.bool false) := Xb.cell rfl
          have kb : Kept (· = w4.heap.size) wx wb := (Kept.new hwa).trans hwb.kept (fun i hi hh => by omega)
          have hPb0 := hP.kept kb
          have cQb0 := hPb0.rd.cell (o := 0) rfl
          have hRb := (hR.kept (Kept.new hwa (X := fun _ => False)) (fun _ h => h.elim) id).kept hwb.kept (fun i hi => by rw [hX]; exact .inr (by omega)) (by omega)
          push_cast -dsimp [x0, cQb0]
          refine callK_of (takeA_c [114, 117, 108, 101, 32, 107, 101, 101, 112] hRb) ?_
          rintro _ wy hr
          rcases hr with ⟨l1, hl1, rfl, hRy, hky, hzy⟩ | ⟨hno2, rfl, hwe⟩
          · have hl1n : r.length + 1 = l1.length + 1 := congrArg List.length hl1
            have hsy : saysA ruleW (t :: r) = .ok (false, l1) := by rw [hl1]; exact says_put ruleW false l1
            have Xy := Xb.kept hky (by omega)
            have ky := kb.trans hky (fun i hi hh => hh)
            push_cast -dsimp
            -- wy: the world; hRy: reader; l1: lines; Xy: Blk of the pair; false: break; ky: Kept from wx; hsy: saysA; wx.heap.size: the pair's block
            have ka := ky
            have za := ka.size
            have hle5 := hP.le
            have hPa := hP.kept ka
            have hba := hbx.trans (ka.below (B := w.heap.size) (by omega) (fun i h => by omega))
            have cQa := hPa.rd.cell (o := 0) rfl
            push_cast -dsimp [cQa]
            refine callK_of (readCode_c l1 hRy (hv.below hba hg) (by omega)) ?_
            rintro _ wc ⟨l2, hRc, ⟨a1, n1, c1, a2, n2, c2, is1, rfl, hca⟩, hkc⟩
            have zc := hkc.size
            have kc := ka.trans hkc (fun i hi hh => by omega)
            push_cast -dsimp
            refine storeAgg (n := 2) (by kernel_rfl) ((Xy).kept hkc (by omega)) rfl (by simp) (by simp [Value.oneCell']) ?_
            intro wd hwd
            have zd := hwd.size
            have Xd : Blk wd wx.heap.size 45 [.bool false, .slice a1 n1 c1, .slice a2 n2 c2, .slice none 0 0, .slice none 0 0] := hwd.blk
            have kd := kc.trans hwd.kept (fun i hi hh => by omega)
            have hRd := hRc.kept hwd.kept (fun i hi => by rw [hX]; exact .inr (by omega)) (by omega)
            have hPd := hP.kept kd
            have hbd := hbx.trans (kd.below (B := w.heap.size) (by omega) (fun i h => by omega))
            have cQd := hPd.rd.cell (o := 0) rfl
            have hlt1 : (l1 : List (List UInt8)).length ≤ r.length := by omega
            rcases hca with ⟨c, rfl, hcA, hcV⟩ | ⟨rfl, hcA⟩
            · have hg1 := codeA_grow hcA few_nil
              have hg12 : c.ins.length + l2.length = 0 + (l1 : List (List UInt8)).length := hg1.2
              push_cast -dsimp [cQd]
              refine callK_of (takeA_c [97, 102, 116, 101, 114] hRd) ?_
              rintro _ we hre
              rcases hre with ⟨l3, hl3, rfl, hRe, hke, hze⟩ | ⟨hno, rfl, hwe⟩
              · have hl3n : l2.length = l3.length + 1 := congrArg List.length hl3
                have haf : afterA l2 = .ok l3 := by rw [hl3]; exact after_put l3
                have ke := kd.trans hke (fun i hi hh => hh)
                have ze := ke.size
                have hPe := hP.kept ke
                have hbe := hbx.trans (ke.below (B := w.heap.size) (by omega) (fun i h => by omega))
                have cQe := hPe.rd.cell (o := 0) rfl
                have Xe := Xd.kept hke (by omega)
                push_cast -dsimp [cQe]
                refine callK_of (readCode_c l3 hRe (hv.below hbe hg) (by omega)) ?_
                rintro _ wf ⟨l4, hRf, ⟨b1, m1, d1, b2, m2, d2, is2, rfl, hda⟩, hkf⟩
                have zf := hkf.size
                have kf := ke.trans hkf (fun i hi hh => by omega)
                push_cast -dsimp
                refine storeAgg (n := 2) (by kernel_rfl) (Xe.kept hkf (by omega)) rfl (by simp) (by simp [Value.oneCell']) ?_
                intro wg hwg
                have zg := hwg.size
                have Xg : Blk wg wx.heap.size 45 [.bool false, .slice a1 n1 c1, .slice a2 n2 c2, .slice b1 m1 d1, .slice b2 m2 d2] := hwg.blk
                have kg := kf.trans hwg.kept (fun i hi hh => by omega)
                have hRg := hRf.kept hwg.kept (fun i hi => by rw [hX]; exact .inr (by omega)) (by omega)
                have hPg := hP.kept kg
                have hbg := hbx.trans (kg.below (B := w.heap.size) (by omega) (fun i h => by omega))
                rcases hda with ⟨d, rfl, hdA, hdV⟩ | ⟨rfl, hdA⟩
                · have hg2 := codeA_grow hdA few_nil
                  have hg22 : d.ins.length + l4.length = 0 + l3.length := hg2.2
                  have hpair := pair_ok hsy hcA haf hdA
                  have hnx := rules_next (acc := acc) hln hst hpair
                  obtain ⟨m, hm1, hm2⟩ := hnx
                  obtain ⟨us, pv, hB0, hO0, hul, hus0⟩ := hP.st
                  have hown0 := hO0.block
                  have hB1 := hB0.kept kg (by omega)
                  have hO := hO0.keptX kg (fun g hg hh => by have := hown0 g hg; omega)
                  have hus : ∀ (i : Nat) (s : PairP), acc[i]? = some s → ∃ u, us[i]? = some u ∧ PairR (fun b => b < w8.heap.size ∨ pv.ownBlock = some b) wg (encPV u) s := fun i s hs => by
                    obtain ⟨u, hu, hp⟩ := hus0 i s hs
                    exact ⟨u, hu, hp.mono (fun b hnb hlt => kg.block b hlt (fun hh => hnb (.inl (by omega)))) (fun _ h => h)⟩
                  have hsh := hO.slice
                  obtain ⟨pa, pc, rfl⟩ := hsh
                  have p0 : wg.cell? ⟨w7.heap.size, 0, none⟩ = some (.slice pa us.length pc) := hB1.cell rfl
                  have x5 : cellsAt wg ⟨wx.heap.size, 0, none⟩ 0 5 = some [.bool false, .slice a1 n1 c1, .slice a2 n2 c2, .slice b1 m1 d1, .slice b2 m2 d2] := Xg.cellsAt
                  push_cast -dsimp [p0, x5]
                  refine rowK elI_22 rfl rfl (by omega) ?_
                  intro wh hwh
                  have zh := hwh.size
                  have hb1h := hB1.below hwh.below hB1.lt
                  push_cast -dsimp
                  refine appendK2 (base := w8.heap.size) [(⟨false, ⟨a1, n1, c1⟩, ⟨a2, n2, c2⟩, ⟨b1, m1, d1⟩, ⟨b2, m2, d2⟩⟩ : PV)] (enc := encPV) elI_22 (hO.new hwh) (by rfl) (fun j u hu => by simpa [encPV, SV.v] using hwh.cell hu) (by simp [encPV, SV.v, Value.oneCell']) (by simp only [List.length_cons, List.length_nil]; omega) (by omega) ?_
                  intro vi wi hoi hgi hni
                  have hsh := hoi.slice
                  obtain ⟨qa, qc, rfl⟩ := hsh
                  have ki : Kept (fun j => (Value.slice pa us.length pc).ownBlock = some j) wg wi := (Kept.new hwh).trans (Kept.grown hgi (fun _ h => h)) (fun _ _ h => h)
                  have hBi := hB1.kept ki (fun h => by have := hO.block _ h; omega)
                  have zi := ki.size
                  push_cast -dsimp
                  refine storeK_of hBi (by simp) rfl ?_
                  intro wj hwj
                  have zj := hwj.size
                  have hkgj : Kept (fun j => (Value.slice pa us.length pc).ownBlock = some j ∨ j = w7.heap.size) wg wj := (ki.weaken (fun _ _ h => .inl h)).trans hwj.kept (fun _ _ h => .inr h)
                  have kcg : Kept (fun i => i = w4.heap.size ∨ i = wx.heap.size) wc wg := (((hwd.kept.weaken (fun i _ hi => .inr hi)).trans hke (fun i _ hi => .inl hi)).trans hkf (fun i hi hh => by
                    rcases hh with hh | hh
                    · exact .inl hh
                    · omega)).trans hwg.kept (fun i _ hi => .inr hi)
                  have hcg : CodeV (fun b => b < w8.heap.size ∨ (Value.slice pa us.length pc).ownBlock = some b) wg (.agg #[.slice a1 n1 c1, .slice a2 n2 c2]) c := (hcV.mono (fun b hnb hlt => kcg.block b hlt (fun hh => hnb (by show b < _; omega))) (fun _ h => h)).narrow (fun b _ hh => by
                    show b < _
                    rcases hh with hh | hh
                    · omega
                    · have := hown0 b hh; omega)
                  have hdg : CodeV (fun b => b < w8.heap.size ∨ (Value.slice pa us.length pc).ownBlock = some b) wg (.agg #[.slice b1 m1 d1, .slice b2 m2 d2]) d := (hdV.mono (fun b hnb hlt => hwg.kept.block b hlt (fun hh => hnb (by show b < _; omega))) (fun _ h => h)).narrow (fun b _ hh => by
                    show b < _
                    rcases hh with hh | hh
                    · omega
                    · have := hown0 b hh; omega)
                  have hnew : PairR (fun b => b < w8.heap.size ∨ (Value.slice pa us.length pc).ownBlock = some b) wg (encPV ⟨false, ⟨a1, n1, c1⟩, ⟨a2, n2, c2⟩, ⟨b1, m1, d1⟩, ⟨b2, m2, d2⟩⟩) ⟨false, c, d⟩ := ⟨_, _, _, _, rfl, hcg, hdg⟩
                  have hYX : ∀ i, ((Value.slice pa us.length pc).ownBlock = some i ∨ i = w7.heap.size) → (i < w8.heap.size ∨ (Value.slice pa us.length pc).ownBlock = some i) := fun i hi => by
                    rcases hi with hi | hi
                    · exact .inr hi
                    · exact .inl (by omega)
                  have hZX : ∀ b, (b < w8.heap.size ∨ (Value.slice qa (us ++ [(⟨false, ⟨a1, n1, c1⟩, ⟨a2, n2, c2⟩, ⟨b1, m1, d1⟩, ⟨b2, m2, d2⟩⟩ : PV)]).length qc).ownBlock = some b) → (b < w8.heap.size ∨ (Value.slice pa us.length pc).ownBlock = some b) ∨ wg.heap.size ≤ b := fun b hb => by
                    rcases hb with hb | hb
                    · exact .inl (.inl hb)
                    · rcases hni b hb with h1 | h1
                      · exact .inl (.inr h1)
                      · exact .inr (by omega)
                  have hent := append_get (Pr := fun _ u s => PairR (fun b => b < w8.heap.size ∨ (Value.slice qa (us ++ [(⟨false, ⟨a1, n1, c1⟩, ⟨a2, n2, c2⟩, ⟨b1, m1, d1⟩, ⟨b2, m2, d2⟩⟩ : PV)]).length qc).ownBlock = some b) wj (encPV u) s) hul (fun i s hs => by
                    obtain ⟨u, hu, hp⟩ := hus i s hs
                    exact ⟨u, hu, hp.moved hkgj hYX hZX⟩) (hnew.moved hkgj hYX hZX)
                  have hne9 := hP.ne
                  have hlt9 := hP.lt
                  have hPj : Pg w.heap.size w4.heap.size w2.heap.size w5.heap.size w7.heap.size w8.heap.size (.slice va (linesA s).length vk) false wj (acc ++ [⟨false, c, d⟩]) := ⟨⟨_, _, hwj.blk, hoi.keptX hwj.kept (fun g hg hh => by have := hoi.block g hg; omega), by simp [hul], hent⟩,
                    hPg.zero.kept hkgj (fun hh => by
                      rcases hh with hh | hh
                      · have := hown0 _ hh; omega
                      · omega), hPg.all.kept hkgj (fun hh => by
                      rcases hh with hh | hh
                      · have := hown0 _ hh; omega
                      · omega), hPg.rd.kept hkgj (fun hh => by
                      rcases hh with hh | hh
                      · have := hown0 _ hh; omega
                      · omega), hlt9, hne9, by have := hkgj.size; omega⟩
                  have hRj := hRg.kept hkgj (fun i hi => by
                    rw [hX]
                    rcases hi with hi | hi
                    · have := hown0 _ hi; exact .inr (by omega)
                    · exact .inr (by omega)) (fun hh => by
                      rcases hh with hh | hh
                      · have := hown0 _ hh; omega
                      · omega)
                  have hbj := hbg.trans (hkgj.below (B := w.heap.size) (by omega) (fun i hi => by
                    rcases hi with hi | hi
                    · have := hown0 _ hi; omega
                    · omega))
                  push_cast -dsimp
                  refine ⟨⟨m, _, l4, hru.trans hm1, hm2, ?_, hRj, hPj, hbj⟩, ?_⟩
                  · rw [List.length_append]
                    simp only [List.length_cons, List.length_nil]
                    omega
                  · rw [hRj.lines, hR.lines, List.length_cons]
                    omega
                · push_cast -dsimp
                  have hpe := pair_e4 hsy hcA haf hdA
                  have hce := codeA_err hdA
                  -- wg: the world; hRg: reader at it; hPg: Pg; l4: its lines; hbg: Below w.heap.size w wg; (parse_e (body_e1 (hru.trans (rules_err hln hst hpe)))): what the text is; ((linesA s).length - l4.length): the line
                  have cA := (hPg).all.cell (o := 0) rfl
                  have cQ := (hPg).rd.cell (o := 0) rfl
                  refine callK_of (failA_c (linesA s).length (by omega) va vk _ _ hRg cA cQ) ?_
                  rintro _ wf9 ⟨⟨fb, hfb, rfl, hBf⟩, hbf⟩
                  have zf9 := hbf.size
                  have zz := (hPg).zero.lt
                  have hZf := (hPg).zero.below hbf zz
                  push_cast -dsimp
                  refine storeAgg (n := 2) (by kernel_rfl) hZf rfl (by simp) (by simp [Value.oneCell']) ?_
                  intro wg9 hwg9
                  have zg9 := hwg9.size
                  have cg : cellsAt wg9 ⟨w.heap.size, 0, none⟩ 0 2 = some [.slice none 0 0, .bool false] := hwg9.blk.cellsAt
                  have hkg := hwg9.kept
                  push_cast -dsimp [cg]
                  have hpf := (parse_e (body_e1 (hru.trans (rules_err hln hst hpe))))
                  have z59 := (hbg).size
                  refine ⟨?_, (hbg).trans ((hbf.mono z59).trans (hkg.below (by omega) (fun i h => by omega)))⟩
                  unfold ParseA
                  rw [hpf]
                  have e9 : (((linesA s).length : Int) - ((l4 : List (List UInt8)).length : Int)) = ((((linesA s).length - l4.length) : Nat) : Int) := by omega
                  rw [e9] at hBf
                  exact ⟨fb, by omega, rfl, hBf.kept hkg (by omega)⟩
              · obtain rfl := hwe.symm
                push_cast -dsimp
                have hpe := pair_e3 hsy hcA (after_err hno)
                -- wd: the world; hRd: reader at it; hPd: Pg; l2: its lines; hbd: Below w.heap.size w wd; (parse_e (body_e1 (hru.trans (rules_err hln hst hpe)))): what the text is; ((linesA s).length - l2.length): the line
                have cA := (hPd).all.cell (o := 0) rfl
                have cQ := (hPd).rd.cell (o := 0) rfl
                refine callK_of (failA_c (linesA s).length (by omega) va vk _ _ hRd cA cQ) ?_
                rintro _ wf9 ⟨⟨fb, hfb, rfl, hBf⟩, hbf⟩
                have zf9 := hbf.size
                have zz := (hPd).zero.lt
                have hZf := (hPd).zero.below hbf zz
                push_cast -dsimp
                refine storeAgg (n := 2) (by kernel_rfl) hZf rfl (by simp) (by simp [Value.oneCell']) ?_
                intro wg9 hwg9
                have zg9 := hwg9.size
                have cg : cellsAt wg9 ⟨w.heap.size, 0, none⟩ 0 2 = some [.slice none 0 0, .bool false] := hwg9.blk.cellsAt
                have hkg := hwg9.kept
                push_cast -dsimp [cg]
                have hpf := (parse_e (body_e1 (hru.trans (rules_err hln hst hpe))))
                have z59 := (hbd).size
                refine ⟨?_, (hbd).trans ((hbf.mono z59).trans (hkg.below (by omega) (fun i h => by omega)))⟩
                unfold ParseA
                rw [hpf]
                have e9 : (((linesA s).length : Int) - ((l2 : List (List UInt8)).length : Int)) = ((((linesA s).length - l2.length) : Nat) : Int) := by omega
                rw [e9] at hBf
                exact ⟨fb, by omega, rfl, hBf.kept hkg (by omega)⟩
            · push_cast -dsimp
              have hpe := pair_e2 hsy hcA
              have hce := codeA_err hcA
              -- wd: the world; hRd: reader at it; hPd: Pg; l2: its lines; hbd: Below w.heap.size w wd; (parse_e (body_e1 (hru.trans (rules_err hln hst hpe)))): what the text is; ((linesA s).length - l2.length): the line
              have cA := (hPd).all.cell (o := 0) rfl
              have cQ := (hPd).rd.cell (o := 0) rfl
              refine callK_of (failA_c (linesA s).length (by omega) va vk _ _ hRd cA cQ) ?_
              rintro _ wf9 ⟨⟨fb, hfb, rfl, hBf⟩, hbf⟩
              have zf9 := hbf.size
              have zz := (hPd).zero.lt
              have hZf := (hPd).zero.below hbf zz
              push_cast -dsimp
              refine storeAgg (n := 2) (by kernel_rfl) hZf rfl (by simp) (by simp [Value.oneCell']) ?_
              intro wg9 hwg9
              have zg9 := hwg9.size
              have cg : cellsAt wg9 ⟨w.heap.size, 0, none⟩ 0 2 = some [.slice none 0 0, .bool false] := hwg9.blk.cellsAt
              have hkg := hwg9.kept
              push_cast -dsimp [cg]
              have hpf := (parse_e (body_e1 (hru.trans (rules_err hln hst hpe))))
              have z59 := (hbd).size
              refine ⟨?_, (hbd).trans ((hbf.mono z59).trans (hkg.below (by omega) (fun i h => by omega)))⟩
              unfold ParseA
              rw [hpf]
              have e9 : (((linesA s).length : Int) - ((l2 : List (List UInt8)).length : Int)) = ((((linesA s).length - l2.length) : Nat) : Int) := by omega
              rw [e9] at hBf
              exact ⟨fb, by omega, rfl, hBf.kept hkg (by omega)⟩
          · obtain rfl := hwe.symm
            have hle5 := hP.le
            have hbb := hbx.trans (kb.below (B := w.heap.size) (by omega) (fun i h => by omega))
            have hse := says_err (w := ruleW) hno1 hno2
            have hpe := pair_e1 hse
            have hlc : (t :: r).length = r.length + 1 := rfl
            push_cast -dsimp
            -- wy: the world; hRb: reader at it; hPb0: Pg; (t :: r): its lines; hbb: Below w.heap.size w wy; (parse_e (body_e1 (hru.trans (rules_err (by simpa using hln) hst hpe)))): what the text is; ((linesA s).length - (t :: r).length): the line
            have cA := (hPb0).all.cell (o := 0) rfl
            have cQ := (hPb0).rd.cell (o := 0) rfl
            refine callK_of (failA_c (linesA s).length (by omega) va vk _ _ hRb cA cQ) ?_
            rintro _ wf9 ⟨⟨fb, hfb, rfl, hBf⟩, hbf⟩
            have zf9 := hbf.size
            have zz := (hPb0).zero.lt
            have hZf := (hPb0).zero.below hbf zz
            push_cast -dsimp
            refine storeAgg (n := 2) (by kernel_rfl) hZf rfl (by simp) (by simp [Value.oneCell']) ?_
            intro wg9 hwg9
            have zg9 := hwg9.size
            have cg : cellsAt wg9 ⟨w.heap.size, 0, none⟩ 0 2 = some [.slice none 0 0, .bool false] := hwg9.blk.cellsAt
            have hkg := hwg9.kept
            push_cast -dsimp [cg]
            have hpf := (parse_e (body_e1 (hru.trans (rules_err (by simpa using hln) hst hpe))))
            have z59 := (hbb).size
            refine ⟨?_, (hbb).trans ((hbf.mono z59).trans (hkg.below (by omega) (fun i h => by omega)))⟩
            unfold ParseA
            rw [hpf]
            have e9 : (((linesA s).length : Int) - (((t :: r) : List (List UInt8)).length : Int)) = ((((linesA s).length - (t :: r).length) : Nat) : Int) := by omega
            rw [e9] at hBf
            exact ⟨fb, by omega, rfl, hBf.kept hkg (by omega)⟩
end Go.Proofs.YtiofleijieepgaaGreatDoor
end
section
/- What an error is, and that two sets are the same. -/
namespace Go.Proofs.YtiofleijieepgaaGreatDoor
open Go.Vc Go.Proofs Go.RowKit Cae
set_option maxRecDepth 100000
set_option linter.unusedSimpArgs false
set_option linter.unusedVariables false
attribute [local irreducible] wpL callK valK unitK runK Fun Sl Vc.Own vc vcOps opK pureK
set_option maxHeartbeats 4000000

/-- An error and what it tells. -/
def Errs (w : World) (v : Value) (n p : Int) : Prop := (v = .nilIface ∧ n = 0 ∧ p = -1) ∨ Placed w v n p
theorem Errs.below {w w' : World} {v : Value} {n p : Int} (h : Errs w v n p) (hk : Below w.heap.size w w') : Errs w' v n p := h.imp id fun h => h.below hk

theorem placeE_c (v : Value) (n p : Int) (w : World) (hE : ErrVar w) (hv : Errs w v n p) : Fun Tryz.prog 52 [v] w fun r w' => r = .tuple #[.int .i64 n, .int .i64 p] ∧ Below w.heap.size w w' := by
  rcases hv with ⟨rfl, rfl, rfl⟩ | hv
  · exact (place0_c w).mono fun r w' ⟨h, hw⟩ => ⟨h, by subst hw; exact Below.refl _ _⟩
  · exact place_c v n p w hE hv

theorem is_c (v : Value) (n p a b : Int) (w : World) (hE : ErrVar w) (hv : Errs w v n p) : Fun Tryz.prog 19 [v, .agg #[.int .i64 a, .int .i64 b]] w fun r w' => r = .bool (decide (n = a ∧ p = b)) ∧ Below w.heap.size w w' := by
  refine fun_of_vc Tryz.func19 rfl (by kernel_rfl) [4] rfl ?_
  push_cast -dsimp (maxSteps := 4000000) [Tryz.ntmps19]
  refine boxK_of ?_
  intro w1 hw1
  push_cast -dsimp
  refine callK_of (placeE_c v n p w1 ((Kept.new hw1 (X := fun _ => False)).cell hE id) (hv.below hw1.below)) ?_
  rintro _ w2 ⟨rfl, hb2⟩
  have c0 : w2.cell? ⟨w.heap.size, 0, none⟩ = some (.int .i64 a) := (hb2.cell (by have := hw1.size; show w.heap.size < _; omega)).trans (hw1.cell rfl)
  have c1 : w2.cell? ⟨w.heap.size, 1, none⟩ = some (.int .i64 b) := (hb2.cell (by have := hw1.size; show w.heap.size < _; omega)).trans (hw1.cell rfl)
  push_cast -dsimp [c0, c1]
  have hb : Below w.heap.size w w2 := hw1.below.trans (hb2.mono (by have := hw1.size; omega))
  constructor
  · intro h; subst h; exact ⟨by simp, hb⟩
  · intro h; exact ⟨by simp [h], hb⟩

theorem keptErr {w w' : World} (h : Below w.heap.size w w') (hE : ErrVar w) : ErrVar w' := (Kept.of_below h (X := fun _ => False) (fun k hk hl => by omega)).cell hE id

theorem sameSet_c (l : List Rg) (hl : l.length < 1000000000) (X X' : Nat → Prop) (v v' : Value) (w : World) (hv : Sl X 2 (En encR) w v l) (hv' : Sl X' 2 (En encR) w v' l) :
    Fun Tryz.prog 84 [v, v'] w fun r w' => r = .bool true ∧ Below w.heap.size w w' := by
  obtain ⟨a, c, rfl, hc⟩ := hv.shape
  obtain ⟨a', c', rfl, hc'⟩ := hv'.shape
  refine fun_of_vc Tryz.func84 rfl (by kernel_rfl) [4] rfl ?_
  push_cast -dsimp (maxSteps := 4000000) [Tryz.ntmps84]
  refine wpL_loop [4, 5, 11, 12, 13, 14, 15, 16, 17, 18, 19, 20, 21, 22, 23, 24, 25] (fun z wx => ∃ (i : Nat), z 5 = .int .i64 i ∧ i ≤ l.length ∧ Below w.heap.size w wx) (fun z _ => l.length - (intOf (z 5)).toNat) ?_ ?_
  · exact ⟨0, rfl, Nat.zero_le _, Below.refl _ _⟩
  · intro z wx hI
    obtain ⟨i, h5, hi, hb⟩ := hI
    push_cast -dsimp [h5]
    refine ⟨fun hlt => ?_, fun hge => ?_⟩
    · obtain ⟨x, hx, hxm, hd, ht⟩ := lt_get (l := l) (i := i) (by omega)
      obtain ⟨b, o, rfl, hX, hcell⟩ := (hv.below hb).get hx
      obtain ⟨b', o', rfl, hX', hcell'⟩ := (hv'.below hb).get hx
      refine wpL_draw (fun w' => ∀ a, w'.cell? a = wx.cell? a) mixed (by kernel_rfl) (fun _ => rfl) ?_
      have g0 : ∀ w'' : World, (∀ a, w''.cell? a = wx.cell? a) → cellsAt w'' ⟨b, o + i * 2, none⟩ 0 2 = some (encR x) := fun w'' hC => cellsAt_of (encR x) 0 (fun j u hu => by rw [hC]; simpa using hcell j u hu)
      have g0' : ∀ w'' : World, (∀ a, w''.cell? a = wx.cell? a) → cellsAt w'' ⟨b', o' + i * 2, none⟩ 0 2 = some (encR x) := fun w'' hC => cellsAt_of (encR x) 0 (fun j u hu => by rw [hC]; simpa using hcell' j u hu)
      have d0 := g0 wx.drew (fun _ => rfl)
      have d0' := g0' wx.drew (fun _ => rfl)
      unfold encR at d0 d0'
      push_cast -dsimp [d0, d0']
      refine ⟨⟨by omega, by omega⟩, fun w'' hC => by rw [g0 w'' hC]; exact rfl, ⟨by omega, by omega⟩, fun w'' hC => by rw [g0' w'' hC]; exact rfl, ?_⟩
      exact ⟨⟨by omega, by omega⟩, ⟨i + 1, rfl, by omega, hb.drew⟩, by rw [h5]; simp only [intOf]; omega⟩
    · exact hb
end Go.Proofs.YtiofleijieepgaaGreatDoor
end
section
/- An error without a place. -/
namespace Go.Proofs.YtiofleijieepgaaGreatDoor
open Go.Vc Go.Proofs Go.RowKit Cae
set_option maxRecDepth 100000
set_option linter.unusedSimpArgs false
set_option linter.unusedVariables false
attribute [local irreducible] wpL callK valK unitK runK Fun Sl Vc.Own vc vcOps opK pureK
set_option maxHeartbeats 4000000
theorem Bare_c (e : Int) (w : World) : Fun Tryz.prog 46 [.int .i64 e] w fun r w' => r = .agg #[.int .i64 e, .int .i64 (-1)] ∧ Below w.heap.size w w' := by
  refine fun_of_vcC Tryz.func46 rfl (by kernel_rfl) [.cell 2 52] rfl ?_
  push_cast -dsimp (maxSteps := 4000000) [Tryz.ntmps46]
  refine allocK (z := [.int .i64 0, .int .i64 0]) (by kernel_rfl) ?_
  intro w1 hw1
  push_cast -dsimp
  refine storeAgg (n := 2) (by kernel_rfl) hw1.blk rfl (by simp) (by simp [Value.oneCell']) ?_
  intro w2 hw2
  have c2 : cellsAt w2 ⟨w.heap.size, 0, none⟩ 0 2 = some [.int .i64 e, .int .i64 (-1)] := hw2.blk.cellsAt
  have sz1 := hw1.size
  push_cast -dsimp [c2]
  exact hw1.below.trans (hw2.kept.below (by omega) (fun _ h => by omega))

theorem bare_c (v : Value) (n p e : Int) (w : World) (hE : ErrVar w) (hv : Errs w v n p) : Fun Tryz.prog 17 [v, .int .i64 e] w fun r w' => r = .bool (decide (n = e ∧ p = -1)) ∧ Below w.heap.size w w' := by
  refine fun_of_vc Tryz.func17 rfl (by kernel_rfl) [4] rfl ?_
  push_cast -dsimp (maxSteps := 4000000) [Tryz.ntmps17]
  refine callK_of (Bare_c e w) ?_
  rintro _ w1 ⟨rfl, hb1⟩
  push_cast -dsimp
  refine callK_of (is_c v n p e (-1) w1 (keptErr hb1 hE) (hv.below hb1)) ?_
  rintro _ w2 ⟨rfl, hb2⟩
  push_cast -dsimp
  exact hb1.trans (hb2.mono hb1.size)
end Go.Proofs.YtiofleijieepgaaGreatDoor
end
section
/- The reference reads a program. -/
namespace Go.Proofs.YtiofleijieepgaaGreatDoor
open Go.Vc Go.Proofs Go.RowKit Cae
set_option maxRecDepth 100000
set_option linter.unusedSimpArgs false
set_option linter.unusedVariables false
attribute [local irreducible] wpL callK valK unitK runK Fun Sl Vc.Own vc vcOps opK pureK
set_option maxHeartbeats 8000000
/-- What it answers. -/
def ParseRA (B : Nat) (s : List UInt8) (r : Value) (w : World) : Prop := match parseA s with
  | .ok p => ∃ v, r = .tuple #[v, .agg #[.int .i64 0, .int .i64 (-1)]] ∧ ProgV (· < B) w v p
  | .form n => r = .tuple #[.agg #[.slice none 0 0, .bool false], .agg #[.int .i64 3, .int .i64 (n : Nat)]]
  | .arg => r = .tuple #[.agg #[.slice none 0 0, .bool false], .agg #[.int .i64 1, .int .i64 (-1)]]
theorem start_get (L : List (List UInt8)) (n : Nat) : ruleStartA (L.drop n) = ruleW.isPrefixOf (L.getD n []) := by
  by_cases h : n < L.length
  · rw [List.drop_eq_getElem_cons h, List.getD_eq_getElem?_getD, List.getElem?_eq_getElem h]; rfl
  · rw [List.drop_eq_nil_of_le (by omega), List.getD_eq_getElem?_getD, List.getElem?_eq_none (by omega)]; rfl
theorem drop_get {L : List (List UInt8)} {n : Nat} (h : n < L.length) : L.drop n = L.getD n [] :: L.drop (n + 1) := by
  rw [List.drop_eq_getElem_cons h, List.getD_eq_getElem?_getD, List.getElem?_eq_getElem h]; rfl
theorem get_lt {L : List (List UInt8)} {n : Nat} (h : L.getD n [] ≠ []) : n < L.length := by
  rcases Nat.lt_or_ge n L.length with h' | h'
  · exact h'
  · rw [List.getD_eq_getElem?_getD, List.getElem?_eq_none h'] at h; exact absurd rfl h
theorem get_ne {L : List (List UInt8)} {n : Nat} {s : List UInt8} (hs : s ≠ []) (h : L.getD n [] ≠ s) : ∀ l', L.drop n ≠ s :: l' := fun l' e => by
  have hl : n < L.length := by
    rcases Nat.lt_or_ge n L.length with h' | h'
    · exact h'
    · rw [List.drop_eq_nil_of_le h'] at e; cases e
  rw [drop_get hl] at e
  exact h (List.cons.inj e).1
/-- A program that is being read: the rules that are there, and the boxes of the call. -/
structure Pq (b2 b3 lb ab pb eb B5 : Nat) (lv : Value) (els : Bool) (w : World) (acc : List PairP) (n : Nat) : Prop where
  st : ∃ (us : List PV) (pv : Value), Blk w pb 24 [pv, .bool els] ∧ Vc.Own B5 45 5 encPV w pv us ∧ us.length = acc.length ∧ ∀ (i : Nat) (s : PairP), acc[i]? = some s → ∃ u, us[i]? = some u ∧ PairR (fun b => b < B5 ∨ pv.ownBlock = some b) w (encPV u) s
  zero : Blk w b2 24 [.slice none 0 0, .bool false]
  zf : Blk w b3 52 [.int .i64 0, .int .i64 0]
  all : Blk w lb 61 [lv]
  pos : Blk w ab 3 [.int .i64 n]
  en : w.cell? ⟨eb, 0, none⟩ = some (.func (.func 48) #[] #[])
  lt : b2 < b3 ∧ b3 < lb ∧ lb < ab ∧ ab < pb ∧ pb < eb ∧ eb < B5
  le : B5 ≤ w.heap.size
theorem Pq.kept {b2 b3 lb ab pb eb B5 n n' : Nat} {lv : Value} {els : Bool} {w w' : World} {acc : List PairP} (h : Pq b2 b3 lb ab pb eb B5 lv els w acc n) (hk : Kept (· = ab) w w') (ha : Blk w' ab 3 [.int .i64 n']) : Pq b2 b3 lb ab pb eb B5 lv els w' acc n' := by
  obtain ⟨us, pv, h1, h2, h3, h4⟩ := h.st
  have hl := h.lt
  exact ⟨⟨us, pv, h1.kept hk (by omega), h2.keptX hk (fun g hg hh => by have := (h2.block g hg).1; omega), h3, fun i s hs => by
    obtain ⟨u, hu, hp⟩ := h4 i s hs
    exact ⟨u, hu, hp.mono (fun b hnb hlt => hk.block b hlt (fun hh => hnb (.inl (by omega)))) (fun _ h => h)⟩⟩, h.zero.kept hk (by omega), h.zf.kept hk (by omega), h.all.kept hk (by omega), ha, hk.cell h.en (by show eb ≠ ab; omega), hl, by have := h.le; have := hk.size; omega⟩
theorem Pq.below {b2 b3 lb ab pb eb B5 n : Nat} {lv : Value} {els : Bool} {w w' : World} {acc : List PairP} (h : Pq b2 b3 lb ab pb eb B5 lv els w acc n) (hb : Below w.heap.size w w') : Pq b2 b3 lb ab pb eb B5 lv els w' acc n :=
  h.kept (Kept.of_below hb (fun i h1 h2 => by omega)) (h.pos.below hb h.pos.lt)
/-- The program, as a value. -/
theorem Pq.prog {b2 b3 lb ab pb eb B5 n : Nat} {lv : Value} {els : Bool} {w : World} {acc : List PairP} (h : Pq b2 b3 lb ab pb eb B5 lv els w acc n) : ∃ a c, Blk w pb 24 [.slice a acc.length c, .bool els] ∧
    (∀ w', Kept (fun b => b < B5) w w' → ProgV (fun b => b < B5) w' (.agg #[.slice a acc.length c, .bool els]) ⟨acc, els⟩) ∧ ∀ (b : Bool) w', Put w w' pb 24 [.slice a acc.length c, .bool b] → Pq b2 b3 lb ab pb eb B5 lv b w' acc n := by
  obtain ⟨us, pv, h1, h2, h3, h4⟩ := h.st
  obtain ⟨a, c, rfl⟩ := h2.slice
  rw [h3] at h1 h2 h4
  have hl := h.lt
  refine ⟨a, c, h1, fun w' hk => ⟨_, rfl, ?_⟩, fun b w' hp => ?_⟩
  · have hO := h2.keptX hk (fun g hg hh => by have := (h2.block g hg).1; omega)
    rw [← h3] at hO ⊢
    exact ownRead (R := PairR (fun b => b < B5) w') hO h3 (fun i s hs => by
      obtain ⟨u, hu, hp⟩ := h4 i s hs
      exact ⟨u, hu, hp.mono (fun b hnb hlt => hk.block b hlt (fun hh => hnb (.inl hh))) (fun _ h => .inl h)⟩)
  · have hk := hp.kept
    exact ⟨⟨us, _, hp.blk, h2.keptX hk (fun g hg hh => by have := (h2.block g hg).1; omega), h3, fun i s hs => by
      obtain ⟨u, hu, hp⟩ := h4 i s hs
      exact ⟨u, hu, hp.mono (fun b hnb hlt => hk.block b hlt (fun hh => hnb (.inl (by omega)))) (fun _ h => h)⟩⟩, h.zero.kept hk (by omega), h.zf.kept hk (by omega), h.all.kept hk (by omega), h.pos.kept hk (by omega), hk.cell h.en (by show eb ≠ pb; omega), hl, by have := h.le; have := hk.size; omega⟩
def posOf (ab : Nat) (w : World) : Nat := match w.cell? ⟨ab, 0, none⟩ with
  | some (.int _ k) => k.toNat
  | _ => 0
theorem posOf_of {ab n : Nat} {T : TypeId} {w : World} (h : Blk w ab T [.int .i64 (n : Int)]) : posOf ab w = n := by
  have := h.cell (o := 0) rfl
  unfold posOf
  rw [this]
  rfl
theorem last_ten {s : List UInt8} (h : 0 < s.length) : s.getLast? = some 10 ↔ (s.getD (s.length - 1) 0).toNat = 10 := by
  rw [List.getLast?_eq_getElem?, List.getD_eq_getElem?_getD, List.getElem?_eq_getElem (show s.length - 1 < s.length by omega)]
  simp only [Option.some.injEq, Option.getD_some]
  constructor
  · intro e; rw [e]; rfl
  · intro e
    apply UInt8.toNat.inj
    rw [e]; rfl
theorem parseR_c (s : List UInt8) (hs : s.length ≤ 999980) (w : World) (hv : WsN w.heap.size w) (hf : w.cell? ⟨0, 0, none⟩ = some (.int .i64 0) ∧ w.cell? ⟨0, 1, none⟩ = some (.int .i64 (-1))) (hg : 14 ≤ w.heap.size) :
    Fun Tryz.prog 18 [str s] w fun r w' => ParseRA w.heap.size s r w' ∧ Below w.heap.size w w' := by
  have hLn := linesA_len s
  have hLm := linesA_mem (s := s)
  have htl : (trimA s).length ≤ s.length := by
    unfold trimA
    split <;> simp
  have hLL : ∃ L, L = linesA s := ⟨_, rfl⟩
  obtain ⟨L, hLL⟩ := hLL
  refine fun_of_wLC Tryz.func18 rfl (by kernel_rfl) [.cell 2 24, .cell 3 52] rfl ?_
  push_cast -dsimp (maxSteps := 4000000) [Tryz.ntmps18]
  refine wpL_seqV ?_
  push_cast -dsimp
  refine allocK (z := [.slice none 0 0, .bool false]) (by kernel_rfl) ?_
  intro w1 hw1
  have z1 := hw1.size
  push_cast -dsimp
  refine allocK (z := [.int .i64 0, .int .i64 0]) (by kernel_rfl) ?_
  intro w2 hw2
  have z2 := hw2.size
  have bw2 := hw1.below.trans (hw2.below.mono (by omega))
  push_cast -dsimp
  refine wpL_seqV ?_
  push_cast -dsimp
  refine callK_of (trimTen_c s (by omega) w2) ?_
  rintro _ w2' ⟨rfl, hwe⟩
  obtain rfl : w2 = w2' := hwe.symm
  push_cast -dsimp
  refine callK_of (splitO_c 10 (trimA s) (by omega) w2 (hv w2 bw2).m) ?_
  rintro vl w3 ⟨hO, b3⟩
  have z3 := b3.size
  have hO : Vc.Own w2.heap.size 9 1 encS w3 vl L := by rw [hLL]; exact hO
  have hsh := hO.slice
  obtain ⟨va, vk, rfl⟩ := hsh
  have hown := hO.block
  have bw3 := bw2.trans (b3.mono bw2.size)
  push_cast -dsimp
  refine allocK (z := [.slice none 0 0]) (by kernel_rfl) ?_
  intro w4 hw4
  have z4 := hw4.size
  push_cast -dsimp
  refine storeK_of hw4.blk (by simp) rfl ?_
  intro w5 hw5
  have z5 := hw5.size
  have A5 : Blk w5 w3.heap.size 61 [.slice va L.length vk] := hw5.blk
  push_cast -dsimp
  refine wpL_seqV ?_
  push_cast -dsimp
  refine allocK (z := [.int .i64 0]) (by kernel_rfl) ?_
  intro w6 hw6
  have z6 := hw6.size
  push_cast -dsimp
  refine storeK_of hw6.blk (by simp) rfl ?_
  intro w7 hw7
  have z7 := hw7.size
  have N7 : Blk w7 w5.heap.size 3 [.int .i64 0] := hw7.blk
  push_cast -dsimp
  refine wpL_seqV ?_
  push_cast -dsimp
  refine wpL_seqV ?_
  push_cast -dsimp
  refine allocK (z := [.slice none 0 0, .bool false]) (by kernel_rfl) ?_
  intro w8 hw8
  have z8 := hw8.size
  push_cast -dsimp
  refine wpL_seqV ?_
  push_cast -dsimp
  refine allocK (z := [.nilFunc]) (by kernel_rfl) ?_
  intro w9 hw9
  have z9 := hw9.size
  push_cast -dsimp
  refine storeK_of hw9.blk (by simp) rfl ?_
  intro wA hwA
  have zA := hwA.size
  push_cast -dsimp
  have E9 : Blk wA w8.heap.size _ [.func (.func 48) #[] #[]] := hwA.blk
  have b9A := hw9.below.trans (hwA.kept.below (B := w8.heap.size) (by omega) (fun i h => by omega))
  have b7A := hw8.below.trans (b9A.mono (by omega))
  have b57 := hw6.below.trans (hw7.kept.below (B := w5.heap.size) (by omega) (fun i h => by omega))
  have b5A := b57.trans (b7A.mono (by omega))
  have b35 := hw4.below.trans (hw5.kept.below (B := w3.heap.size) (by omega) (fun i h => by omega))
  have b3A := b35.trans (b5A.mono (by omega))
  have hP0 : Pq w.heap.size w1.heap.size w3.heap.size w5.heap.size w7.heap.size w8.heap.size wA.heap.size (.slice va L.length vk) false wA [] 0 :=
    ⟨⟨[], .slice none 0 0, (hw8.blk).below b9A (by omega), Vc.Own.nil (enc := encPV) _ _ (fun _ => rfl) _, rfl, fun i u h1 => by simp at h1⟩,
      ((hw1.blk.below hw2.below (by omega)).below b3 (by omega)).below b3A (by omega), (hw2.blk.below b3 (by omega)).below b3A (by omega), A5.below b5A (by omega), N7.below b7A (by omega), E9.cell rfl, by omega, Nat.le_refl _⟩
  have hXL : ∃ XL : Nat → Prop, XL = (fun b => (Value.slice va L.length vk).ownBlock ≠ some b) := ⟨_, rfl⟩
  obtain ⟨XL, hXL⟩ := hXL
  have hS3 : Sl XL 1 (En encS) w3 (.slice va L.length vk) L := by rw [hXL]; exact hO.slOwn
  have hXf : ∀ b, w3.heap.size ≤ b → XL b := fun b hb => by rw [hXL]; intro e; have := (hown b e).2; omega
  refine wpL_seqV ?_
  push_cast -dsimp
  refine wpL_seqV ?_
  push_cast -dsimp
  have hLl : L.length ≤ 1000000 := by rw [hLL]; omega
  have hLt : ∀ t ∈ L, t.length ≤ 999990 := fun t ht => by rw [hLL] at ht; have := hLm t ht; omega
  refine wpL_seqD [11, 18, 19, 20, 21, 22, 23, 24, 25, 26, 27, 28, 29, 30, 31, 32, 33, 34, 35, 36, 37, 38, 39, 40, 41, 42, 43, 44, 45, 46, 47, 48, 49, 50, 51, 52, 53, 54, 55, 56, 57, 58, 59, 60, 61, 62, 63, 64, 65, 66, 67] (fun z wx => ∃ acc n, rulesA L.length [] L = .ok (acc, L.drop n) ∧ n ≤ L.length ∧ acc.length ≤ n ∧ Pq w.heap.size w1.heap.size w3.heap.size w5.heap.size w7.heap.size w8.heap.size wA.heap.size (.slice va L.length vk) false wx acc n ∧ Below w3.heap.size w3 wx) ?_ ?_
  · refine wpL_blockW ?_
    refine wpL_loopW [11, 18, 19, 20, 21, 22, 23, 24, 25, 26, 27, 28, 29, 30, 31, 32, 33, 34, 35, 36, 37, 38, 39, 40, 41, 42, 43, 44, 45, 46, 47, 48, 49, 50, 51, 52, 53, 54, 55, 56, 57, 58, 59, 60, 61, 62, 63, 64, 65, 66, 67] (fun z wx => ∃ m acc n, rulesA L.length [] L = rulesA m acc (L.drop n) ∧ (L.drop n).length ≤ m ∧ n ≤ L.length ∧ acc.length ≤ n ∧ Pq w.heap.size w1.heap.size w3.heap.size w5.heap.size w7.heap.size w8.heap.size wA.heap.size (.slice va L.length vk) false wx acc n ∧ Below w3.heap.size w3 wx) (fun _ wx => L.length - posOf w5.heap.size wx) ?_ ?_
    · exact ⟨_, [], 0, rfl, by simp, Nat.zero_le _, Nat.le_refl _, hP0, b3A⟩
    · rintro z wx ⟨m, acc, n, hru, hm, hnL, hacc, hP, hbx⟩
      have zx := hP.le
      have bwx := bw3.trans (hbx.mono (by omega))
      have hcL : wx.cell? ⟨w3.heap.size, 0, none⟩ = some (.slice va L.length vk) := hP.all.cell rfl
      have hSx := hS3.below hbx
      have hl : ∀ {wy : World} {k : Nat}, Kept (· = w5.heap.size) wx wy → Blk wy w5.heap.size 3 [.int .i64 k] → Fun Tryz.prog 47 [.pointer (some ⟨w5.heap.size, 0, none⟩), .pointer (some ⟨w3.heap.size, 0, none⟩)] wy fun r w' => r = str (L.getD k []) ∧ w' = wy := fun hk hb =>
        line_c L hLl _ _ _ XL _ _ (hb.cell rfl) (hk.cell hcL (by show w3.heap.size ≠ _; omega)) (hSx.kept hk (fun i hi => hXf i (by omega)))
      have hext : ∃ t, t = L.getD n [] := ⟨_, rfl⟩
      obtain ⟨t, ht⟩ := hext
      refine wpL_seqV ?_
      push_cast -dsimp
      -- wx: the world; (Kept.refl _ _): Kept from the round's beginning; hP.pos: the place's block
      refine callK_of (hl (Kept.refl _ _) hP.pos) ?_
      rintro _ wln ⟨rfl, hwe⟩
      obtain rfl : wx = wln := hwe.symm
      rw [← ht]
      push_cast -dsimp
      refine callK_of (hasPre_c t [114, 117, 108, 101, 32] wx) ?_
      rintro _ wln ⟨rfl, hwe⟩
      obtain rfl : wx = wln := hwe.symm
      have hsg := start_get L n
      rw [← ht] at hsg
      cases hpr : ([114, 117, 108, 101, 32] : List UInt8).isPrefixOf t with
      | false =>
        have hend : ruleStartA (L.drop n) = false := by rw [hsg]; exact hpr
        push_cast -dsimp
        exact ⟨acc, n, hru.trans (rules_end hend), hnL, hacc, hP, hbx⟩
      | true =>
        have hst : ruleStartA (L.drop n) = true := by rw [hsg]; exact hpr
        have hlt : n < L.length := get_lt (by rw [← ht]; rintro rfl; cases hpr)
        have hdr := drop_get hlt
        rw [← ht] at hdr
        push_cast -dsimp
        refine wpL_blockW ?_
        refine wpL_seqV ?_
        push_cast -dsimp
        refine allocK (z := [.bool false, .slice none 0 0, .slice none 0 0, .slice none 0 0, .slice none 0 0]) (by kernel_rfl) ?_
        intro wa hwa
        have za := hwa.size
        have ka : Kept (· = w5.heap.size) wx wa := Kept.new hwa
        have Na := hP.pos.below hwa.below hP.pos.lt
        have Xa : Blk wa wx.heap.size 45 [.bool false, .slice none 0 0, .slice none 0 0, .slice none 0 0, .slice none 0 0] := hwa.blk
        push_cast -dsimp
        have hkB : ∀ {wy : World}, Kept (· = w5.heap.size) wx wy → Below w.heap.size w wy := fun hk => bwx.trans (hk.below (by omega) (fun i hi => by omega))
        have hdl : (L.drop n).length = L.length - n := List.length_drop
        have hform : ∀ {e k : Nat}, bodyA L = .error e → k = L.length - e → parseA s = .form k := fun h hk => by rw [hk, hLL]; exact parse_e (by rw [← hLL]; exact h)
        have hrule : ∀ {e k : Nat}, pairA (L.drop n) = .error e → k = L.length - e → parseA s = .form k := fun h hk => hform (body_e1 (hru.trans (rules_err hm hst h))) hk
        refine wpL_seqD [21, 22, 23, 24, 25, 26, 27, 28] (fun _ wy => wy = wa ∧ (t = [114, 117, 108, 101, 32, 98, 114, 101, 97, 107] ∨ t = [114, 117, 108, 101, 32, 107, 101, 101, 112])) ?_ ?_
        · refine wpL_of ?_
          push_cast -dsimp
          -- wa: the world; ka: Kept from the round's beginning; Na: the place's block
          refine callK_of (hl ka Na) ?_
          rintro _ wln ⟨rfl, hwe⟩
          obtain rfl : wa = wln := hwe.symm
          rw [← ht]
          push_cast -dsimp
          refine ⟨fun hne => ?_, fun he => .inl (Classical.not_not.1 he)⟩
          -- wa: the world; ka: Kept from the round's beginning; Na: the place's block
          refine callK_of (hl ka Na) ?_
          rintro _ wln ⟨rfl, hwe⟩
          obtain rfl : wa = wln := hwe.symm
          rw [← ht]
          push_cast -dsimp
          refine ⟨fun hne2 => ?_, fun he2 => .inr (Classical.not_not.1 he2)⟩
          have hse : saysA ruleW (L.drop n) = .error (L.drop n).length := says_err (get_ne (by decide) (by rw [← ht]; exact hne)) (get_ne (by decide) (by rw [← ht]; exact hne2))
          -- wa: the world; (hP.kept ka Na): Pq at it; (hkB ka): Below w.heap.size w wa; (hrule (pair_e1 hse) (show n = L.length - (L.drop n).length by rw [hdl]; omega)): what the text is; n: the line
          have hPb := (hP.kept ka Na)
          have hbb := (hkB ka)
          have zbb := hbb.size
          have ltb := hPb.lt
          refine callK_of (badP_c (n : Nat) w5.heap.size wa (hPb.pos.cell rfl)) ?_
          rintro _ wf9 ⟨rfl, bf9⟩
          have zf9 := bf9.size
          have hP9 := hPb.below bf9
          push_cast -dsimp
          refine storeAgg (xt := 24) (n := 2) (by kernel_rfl) hP9.zero rfl (by simp) (by simp [Value.oneCell']) ?_
          intro wg9 hwg9
          have zg9 := hwg9.size
          have F9 := hP9.zf.kept hwg9.kept (by omega)
          push_cast -dsimp
          refine storeAgg (xt := 52) (n := 2) (by kernel_rfl) F9 rfl (by simp) (by simp [Value.oneCell']) ?_
          intro wh9 hwh9
          have c9 : cellsAt wh9 ⟨w.heap.size, 0, none⟩ 0 2 = some [.slice none 0 0, .bool false] := (hwg9.blk.kept hwh9.kept (by omega)).cellsAt
          have f9 : cellsAt wh9 ⟨w1.heap.size, 0, none⟩ 0 2 = some [.int .i64 3, .int .i64 (n : Nat)] := hwh9.blk.cellsAt
          push_cast -dsimp [c9, f9]
          have hpf := (hrule (pair_e1 hse) (show n = L.length - (L.drop n).length by rw [hdl]; omega))
          refine ⟨?_, (hbb.trans (bf9.mono zbb)).trans ((hwg9.kept.below (B := w.heap.size) (by omega) (fun i h => by omega)).trans (hwh9.kept.below (by omega) (fun i h => by omega)))⟩
          unfold ParseRA
          rw [hpf]
        · rintro z2 wy ⟨hwe, hbk⟩
          subst hwe
          have hsy : saysA ruleW (L.drop n) = .ok (decide (t = [114, 117, 108, 101, 32, 98, 114, 101, 97, 107]), L.drop (n + 1)) := by
            rw [hdr]
            rcases hbk with e | e
            · rw [e]; exact says_put ruleW true _
            · rw [e]; exact says_put ruleW false _
          have hexb : ∃ b, b = decide (t = [114, 117, 108, 101, 32, 98, 114, 101, 97, 107]) := ⟨_, rfl⟩
          obtain ⟨b, hb⟩ := hexb
          rw [← hb] at hsy
          refine wpL_seqV ?_
          push_cast -dsimp
          -- wy: the world; ka: Kept from the round's beginning; Na: the place's block
          refine callK_of (hl ka Na) ?_
          rintro _ wln ⟨rfl, hwe⟩
          obtain rfl : wy = wln := hwe.symm
          rw [← ht]
          push_cast -dsimp
          refine storeK_of Xa (by simp) rfl ?_
          intro wb hwb
          have zb := hwb.size
          rw [← hb] at hwb
          have Xb : Blk wb wx.heap.size 45 [.bool b, .slice none 0 0, .slice none 0 0, .slice none 0 0, .slice none 0 0] := hwb.blk
          have kb : Kept (· = w5.heap.size) wx wb := ka.trans hwb.kept (fun i hi hh => by omega)
          have Nb := Na.kept hwb.kept (by omega)
          have nb : wb.cell? ⟨w5.heap.size, 0, none⟩ = some (.int .i64 n) := Nb.cell rfl
          push_cast -dsimp
          refine wpL_seqV ?_
          push_cast -dsimp [nb]
          refine ⟨⟨by omega, by omega⟩, ?_⟩
          refine storeK_of Nb (by simp) rfl ?_
          intro wc hwc
          have zc := hwc.size
          have Nc : Blk wc w5.heap.size 3 [.int .i64 ((n + 1 : Nat) : Int)] := hwc.blk
          have kc : Kept (· = w5.heap.size) wx wc := kb.trans hwc.kept (fun i hi hh => hh)
          have Xc := Xb.kept hwc.kept (by omega)
          have hPc := hP.kept kc Nc
          have hleP := hP.le
          have hcode : ∀ {wy : World} {k : Nat} {m1 m2 : List Value}, Kept (· = w5.heap.size) wx wy → Blk wy w5.heap.size 3 [.int .i64 k] → k ≤ L.length → Blk wy wx.heap.size 45 (m1 ++ .slice none 0 0 :: .slice none 0 0 :: m2) →
              Fun Tryz.prog 50 [.pointer (some ⟨wx.heap.size, m1.length, none⟩), .pointer (some ⟨w5.heap.size, 0, none⟩), .pointer (some ⟨w3.heap.size, 0, none⟩), .pointer (some ⟨w8.heap.size, 0, none⟩)] wy
                fun r w' => ∃ n' : Nat, k ≤ n' ∧ n' ≤ L.length ∧ Blk w' w5.heap.size 3 [.int .i64 n'] ∧ CodeQ wy.heap.size wx.heap.size 45 m1 m2 (· < wx.heap.size + 1) L k n' r w' ∧ Kept (fun i => i = w5.heap.size ∨ i = wx.heap.size ∨ wy.heap.size ≤ i) wy w' := fun hk hb hkl hx =>
            codeP_c w.heap.size L hLl hLt _ hkl w5.heap.size w3.heap.size w8.heap.size wx.heap.size 45 _ _ XL (.slice va L.length vk) _ hb (hk.cell hcL (by show w3.heap.size ≠ _; omega)) (hk.cell hP.en (by show w8.heap.size ≠ _; omega)) (hSx.kept hk (fun i hi => hXf i (by omega))) hx
              ⟨hXf _ (by omega), hXf _ (by omega), fun i hi => hXf i (by have := hk.size; omega)⟩ (by have := hk.size; omega) (hv.go (hkB hk)) (by omega) hg
          push_cast -dsimp
          refine wpL_seqV ?_
          push_cast -dsimp
          refine callK_of (hcode (m1 := [.bool b]) (m2 := [.slice none 0 0, .slice none 0 0]) kc Nc (by omega) Xc) ?_
          rintro _ wd ⟨n2, hn2, hn2L, Nd, hcq, kd0⟩
          have zd := kd0.size
          have kd : Kept (· = w5.heap.size) wx wd := kc.trans kd0 (fun i hi hh => by
            rcases hh with hh | hh | hh
            · exact hh
            · omega
            · omega)
          rcases hcq with ⟨c, rfl, hcA, sv1, iv1, us1, hC1⟩ | ⟨rfl, hcE⟩
          · have hv1 := hC1.code (fun i hi => by omega)
            have hsh1 := hC1.sets.slice
            obtain ⟨x0, x1, rfl⟩ := hsh1
            have hsh2 := hC1.ins.slice
            obtain ⟨x2, x3, rfl⟩ := hsh2
            have Xd : Blk wd wx.heap.size 45 [.bool b, .slice x0 us1.length x1, .slice x2 c.ins.length x3, .slice none 0 0, .slice none 0 0] := hC1.blk
            have hext2 : ∃ t2, t2 = L.getD n2 [] := ⟨_, rfl⟩
            obtain ⟨t2, ht2⟩ := hext2
            push_cast -dsimp
            -- wd: the world; kd: Kept from the round's beginning; Nd: the place's block
            refine callK_of (hl kd Nd) ?_
            rintro _ wln ⟨rfl, hwe⟩
            obtain rfl : wd = wln := hwe.symm
            rw [← ht2]
            push_cast -dsimp
            refine ⟨fun hne => ?_, fun he => ?_⟩
            · have hae := after_err (get_ne (s := afterW) (by decide) (by rw [← ht2]; exact hne))
              -- wd: the world; (hP.kept kd Nd): Pq at it; (hkB kd): Below w.heap.size w wd; (hrule (pair_e3 hsy hcA hae) (show n2 = L.length - (L.drop n2).length by rw [List.length_drop]; omega)): what the text is; n2: the line
              have hPb := (hP.kept kd Nd)
              have hbb := (hkB kd)
              have zbb := hbb.size
              have ltb := hPb.lt
              refine callK_of (badP_c (n2 : Nat) w5.heap.size wd (hPb.pos.cell rfl)) ?_
              rintro _ wf9 ⟨rfl, bf9⟩
              have zf9 := bf9.size
              have hP9 := hPb.below bf9
              push_cast -dsimp
              refine storeAgg (xt := 24) (n := 2) (by kernel_rfl) hP9.zero rfl (by simp) (by simp [Value.oneCell']) ?_
              intro wg9 hwg9
              have zg9 := hwg9.size
              have F9 := hP9.zf.kept hwg9.kept (by omega)
              push_cast -dsimp
              refine storeAgg (xt := 52) (n := 2) (by kernel_rfl) F9 rfl (by simp) (by simp [Value.oneCell']) ?_
              intro wh9 hwh9
              have c9 : cellsAt wh9 ⟨w.heap.size, 0, none⟩ 0 2 = some [.slice none 0 0, .bool false] := (hwg9.blk.kept hwh9.kept (by omega)).cellsAt
              have f9 : cellsAt wh9 ⟨w1.heap.size, 0, none⟩ 0 2 = some [.int .i64 3, .int .i64 (n2 : Nat)] := hwh9.blk.cellsAt
              push_cast -dsimp [c9, f9]
              have hpf := (hrule (pair_e3 hsy hcA hae) (show n2 = L.length - (L.drop n2).length by rw [List.length_drop]; omega))
              refine ⟨?_, (hbb.trans (bf9.mono zbb)).trans ((hwg9.kept.below (B := w.heap.size) (by omega) (fun i h => by omega)).trans (hwh9.kept.below (by omega) (fun i h => by omega)))⟩
              unfold ParseRA
              rw [hpf]
            · have he := Classical.not_not.1 he
              have hn2l : n2 < L.length := get_lt (by rw [← ht2, he]; simp)
              have hdr2 := drop_get hn2l
              rw [← ht2, he] at hdr2
              have haf : afterA (L.drop n2) = .ok (L.drop (n2 + 1)) := by rw [hdr2]; exact after_put _
              have nd : wd.cell? ⟨w5.heap.size, 0, none⟩ = some (.int .i64 n2) := Nd.cell rfl
              refine wpL_seqV ?_
              push_cast -dsimp [nd]
              refine ⟨⟨by omega, by omega⟩, ?_⟩
              refine storeK_of Nd (by simp) rfl ?_
              intro we hwe
              have ze := hwe.size
              have Ne : Blk we w5.heap.size 3 [.int .i64 ((n2 + 1 : Nat) : Int)] := hwe.blk
              have ke : Kept (· = w5.heap.size) wx we := kd.trans hwe.kept (fun i hi hh => hh)
              have Xe := Xd.kept hwe.kept (by omega)
              push_cast -dsimp
              refine wpL_seqV ?_
              push_cast -dsimp
              refine callK_of (hcode (m1 := [.bool b, .slice x0 us1.length x1, .slice x2 c.ins.length x3]) (m2 := []) ke Ne (by omega) Xe) ?_
              rintro _ wf ⟨n3, hn3, hn3L, Nf, hcq, kf0⟩
              have zf := kf0.size
              have kf : Kept (· = w5.heap.size) wx wf := ke.trans kf0 (fun i hi hh => by
                rcases hh with hh | hh | hh
                · exact hh
                · omega
                · omega)
              rcases hcq with ⟨d, rfl, hdA, sv2, iv2, us2, hC2⟩ | ⟨rfl, hdE⟩
              · have hv2 := hC2.code (fun i hi => by omega)
                have hsh1 := hC2.sets.slice
                obtain ⟨y0, y1, rfl⟩ := hsh1
                have hsh2 := hC2.ins.slice
                obtain ⟨y2, y3, rfl⟩ := hsh2
                have Xf : Blk wf wx.heap.size 45 [.bool b, .slice x0 us1.length x1, .slice x2 c.ins.length x3, .slice y0 us2.length y1, .slice y2 d.ins.length y3] := hC2.blk
                push_cast -dsimp
                have hst := hP.st
                obtain ⟨us, pv, hB0, hO0, hul, hus0⟩ := hst
                have hown0 := hO0.block
                have hlt9 := hP.lt
                have hB1 := hB0.kept kf (by omega)
                have hO := hO0.keptX kf (fun g hg hh => by have := hown0 g hg; omega)
                have hus : ∀ (i : Nat) (s : PairP), acc[i]? = some s → ∃ u, us[i]? = some u ∧ PairR (fun b => b < wA.heap.size ∨ pv.ownBlock = some b) wf (encPV u) s := fun i s hs => by
                  obtain ⟨u, hu, hp⟩ := hus0 i s hs
                  exact ⟨u, hu, hp.mono (fun b hnb hlt => kf.block b hlt (fun hh => hnb (.inl (by omega)))) (fun _ h => h)⟩
                have hsh := hO.slice
                obtain ⟨pa, pc, rfl⟩ := hsh
                have p0 : wf.cell? ⟨w7.heap.size, 0, none⟩ = some (.slice pa us.length pc) := hB1.cell rfl
                have x5 : cellsAt wf ⟨wx.heap.size, 0, none⟩ 0 5 = some [.bool b, .slice x0 us1.length x1, .slice x2 c.ins.length x3, .slice y0 us2.length y1, .slice y2 d.ins.length y3] := Xf.cellsAt
                refine wpL_of ?_
                push_cast -dsimp [p0, x5]
                refine rowK elI_22 rfl rfl (by omega) ?_
                intro wh hwh
                have zh := hwh.size
                have hb1h := hB1.below hwh.below hB1.lt
                push_cast -dsimp
                refine appendK2 (base := wA.heap.size) [(⟨b, ⟨x0, us1.length, x1⟩, ⟨x2, c.ins.length, x3⟩, ⟨y0, us2.length, y1⟩, ⟨y2, d.ins.length, y3⟩⟩ : PV)] (enc := encPV) elI_22 (hO.new hwh) (by rfl) (fun j u hu => by simpa [encPV, SV.v] using hwh.cell hu) (by simp [encPV, SV.v, Value.oneCell']) (by simp only [List.length_cons, List.length_nil]; omega) (by omega) ?_
                intro vi wi hoi hgi hni
                have hsh := hoi.slice
                obtain ⟨qa, qc, rfl⟩ := hsh
                have ki : Kept (fun j => (Value.slice pa us.length pc).ownBlock = some j) wf wi := (Kept.new hwh).trans (Kept.grown hgi (fun _ h => h)) (fun _ _ h => h)
                have hBi := hB1.kept ki (fun h => by have := hO.block _ h; omega)
                have zi := ki.size
                push_cast -dsimp
                refine storeK_of hBi (by simp) rfl ?_
                intro wj hwj
                have zj := hwj.size
                have hkgj : Kept (fun j => (Value.slice pa us.length pc).ownBlock = some j ∨ j = w7.heap.size) wf wj := (ki.weaken (fun _ _ h => .inl h)).trans hwj.kept (fun _ _ h => .inr h)
                have kdf : Kept (fun i => i = w5.heap.size ∨ i = wx.heap.size ∨ we.heap.size ≤ i) wd wf := (hwe.kept.weaken (fun i _ hi => .inl hi)).trans kf0 (fun i _ hi => hi)
                have hcg : CodeV (fun b => b < wA.heap.size ∨ (Value.slice pa us.length pc).ownBlock = some b) wf (.agg #[.slice x0 us1.length x1, .slice x2 c.ins.length x3]) c := (hv1.mono (fun b hnb hlt => kdf.block b hlt (fun hh => hnb (by show b < _; omega))) (fun _ h => h)).narrow (fun b _ hh => by
                  show b < _
                  rcases hh with hh | hh
                  · omega
                  · have := hown0 b hh; omega)
                have hdg : CodeV (fun b => b < wA.heap.size ∨ (Value.slice pa us.length pc).ownBlock = some b) wf (.agg #[.slice y0 us2.length y1, .slice y2 d.ins.length y3]) d := hv2.narrow (fun b _ hh => by
                  show b < _
                  rcases hh with hh | hh
                  · omega
                  · have := hown0 b hh; omega)
                have hnew : PairR (fun b => b < wA.heap.size ∨ (Value.slice pa us.length pc).ownBlock = some b) wf (encPV ⟨b, ⟨x0, us1.length, x1⟩, ⟨x2, c.ins.length, x3⟩, ⟨y0, us2.length, y1⟩, ⟨y2, d.ins.length, y3⟩⟩) ⟨b, c, d⟩ := ⟨_, _, _, _, rfl, hcg, hdg⟩
                have hYX : ∀ i, ((Value.slice pa us.length pc).ownBlock = some i ∨ i = w7.heap.size) → (i < wA.heap.size ∨ (Value.slice pa us.length pc).ownBlock = some i) := fun i hi => by
                  rcases hi with hi | hi
                  · exact .inr hi
                  · exact .inl (by omega)
                have hZX : ∀ b', (b' < wA.heap.size ∨ (Value.slice qa (us ++ [(⟨b, ⟨x0, us1.length, x1⟩, ⟨x2, c.ins.length, x3⟩, ⟨y0, us2.length, y1⟩, ⟨y2, d.ins.length, y3⟩⟩ : PV)]).length qc).ownBlock = some b') → (b' < wA.heap.size ∨ (Value.slice pa us.length pc).ownBlock = some b') ∨ wf.heap.size ≤ b' := fun b' hb' => by
                  rcases hb' with hb' | hb'
                  · exact .inl (.inl hb')
                  · rcases hni b' hb' with h1 | h1
                    · exact .inl (.inr h1)
                    · exact .inr (by omega)
                have hent := append_get (Pr := fun _ u s => PairR (fun b' => b' < wA.heap.size ∨ (Value.slice qa (us ++ [(⟨b, ⟨x0, us1.length, x1⟩, ⟨x2, c.ins.length, x3⟩, ⟨y0, us2.length, y1⟩, ⟨y2, d.ins.length, y3⟩⟩ : PV)]).length qc).ownBlock = some b') wj (encPV u) s) hul (fun i s hs => by
                  obtain ⟨u, hu, hp⟩ := hus i s hs
                  exact ⟨u, hu, hp.moved hkgj hYX hZX⟩) (hnew.moved hkgj hYX hZX)
                have hnot : ∀ {k : Nat}, k < wA.heap.size → k ≠ w7.heap.size → ¬ ((Value.slice pa us.length pc).ownBlock = some k ∨ k = w7.heap.size) := fun h1 h2 hh => by
                  rcases hh with hh | hh
                  · have := hown0 _ hh; omega
                  · exact h2 hh
                have hPf := hP.kept kf Nf
                have hPj : Pq w.heap.size w1.heap.size w3.heap.size w5.heap.size w7.heap.size w8.heap.size wA.heap.size (.slice va L.length vk) false wj (acc ++ [⟨b, c, d⟩]) n3 := ⟨⟨_, _, hwj.blk, hoi.keptX hwj.kept (fun g hg hh => by have := hoi.block g hg; omega), by simp [hul], hent⟩,
                  hPf.zero.kept hkgj (hnot (by omega) (by omega)), hPf.zf.kept hkgj (hnot (by omega) (by omega)), hPf.all.kept hkgj (hnot (by omega) (by omega)), hPf.pos.kept hkgj (hnot (by omega) (by omega)), hkgj.cell hPf.en (hnot (k := w8.heap.size) (by omega) (by omega)), hlt9, by have := hkgj.size; omega⟩
                have hpair := pair_ok hsy hcA haf hdA
                have hnx := rules_next (acc := acc) hm hst hpair
                obtain ⟨m', hm1, hm2⟩ := hnx
                have hbj := (hbx.trans (kf.below (B := w3.heap.size) (by omega) (fun i hi => by omega))).trans (hkgj.below (B := w3.heap.size) (by omega) (fun i hi => by
                  rcases hi with hi | hi
                  · have := hown0 _ hi; omega
                  · omega))
                push_cast -dsimp
                refine ⟨⟨m', _, n3, hru.trans hm1, hm2, hn3L, ?_, hPj, hbj⟩, ?_⟩
                · rw [List.length_append, List.length_singleton]; omega
                · rw [posOf_of hPj.pos, posOf_of hP.pos]; omega
              · push_cast -dsimp
                -- wf: the world; (hP.kept kf Nf): Pq at it; (hkB kf): Below w.heap.size w wf; (hrule (pair_e4 hsy hcA haf hdE) (show n3 = L.length - (L.length - n3) by omega)): what the text is; n3: the line
                have hPb := (hP.kept kf Nf)
                have hbb := (hkB kf)
                have zbb := hbb.size
                have ltb := hPb.lt
                refine callK_of (badP_c (n3 : Nat) w5.heap.size wf (hPb.pos.cell rfl)) ?_
                rintro _ wf9 ⟨rfl, bf9⟩
                have zf9 := bf9.size
                have hP9 := hPb.below bf9
                push_cast -dsimp
                refine storeAgg (xt := 24) (n := 2) (by kernel_rfl) hP9.zero rfl (by simp) (by simp [Value.oneCell']) ?_
                intro wg9 hwg9
                have zg9 := hwg9.size
                have F9 := hP9.zf.kept hwg9.kept (by omega)
                push_cast -dsimp
                refine storeAgg (xt := 52) (n := 2) (by kernel_rfl) F9 rfl (by simp) (by simp [Value.oneCell']) ?_
                intro wh9 hwh9
                have c9 : cellsAt wh9 ⟨w.heap.size, 0, none⟩ 0 2 = some [.slice none 0 0, .bool false] := (hwg9.blk.kept hwh9.kept (by omega)).cellsAt
                have f9 : cellsAt wh9 ⟨w1.heap.size, 0, none⟩ 0 2 = some [.int .i64 3, .int .i64 (n3 : Nat)] := hwh9.blk.cellsAt
                push_cast -dsimp [c9, f9]
                have hpf := (hrule (pair_e4 hsy hcA haf hdE) (show n3 = L.length - (L.length - n3) by omega))
                refine ⟨?_, (hbb.trans (bf9.mono zbb)).trans ((hwg9.kept.below (B := w.heap.size) (by omega) (fun i h => by omega)).trans (hwh9.kept.below (by omega) (fun i h => by omega)))⟩
                unfold ParseRA
                rw [hpf]
          · push_cast -dsimp
            -- wd: the world; (hP.kept kd Nd): Pq at it; (hkB kd): Below w.heap.size w wd; (hrule (pair_e2 hsy hcE) (show n2 = L.length - (L.length - n2) by omega)): what the text is; n2: the line
            have hPb := (hP.kept kd Nd)
            have hbb := (hkB kd)
            have zbb := hbb.size
            have ltb := hPb.lt
            refine callK_of (badP_c (n2 : Nat) w5.heap.size wd (hPb.pos.cell rfl)) ?_
            rintro _ wf9 ⟨rfl, bf9⟩
            have zf9 := bf9.size
            have hP9 := hPb.below bf9
            push_cast -dsimp
            refine storeAgg (xt := 24) (n := 2) (by kernel_rfl) hP9.zero rfl (by simp) (by simp [Value.oneCell']) ?_
            intro wg9 hwg9
            have zg9 := hwg9.size
            have F9 := hP9.zf.kept hwg9.kept (by omega)
            push_cast -dsimp
            refine storeAgg (xt := 52) (n := 2) (by kernel_rfl) F9 rfl (by simp) (by simp [Value.oneCell']) ?_
            intro wh9 hwh9
            have c9 : cellsAt wh9 ⟨w.heap.size, 0, none⟩ 0 2 = some [.slice none 0 0, .bool false] := (hwg9.blk.kept hwh9.kept (by omega)).cellsAt
            have f9 : cellsAt wh9 ⟨w1.heap.size, 0, none⟩ 0 2 = some [.int .i64 3, .int .i64 (n2 : Nat)] := hwh9.blk.cellsAt
            push_cast -dsimp [c9, f9]
            have hpf := (hrule (pair_e2 hsy hcE) (show n2 = L.length - (L.length - n2) by omega))
            refine ⟨?_, (hbb.trans (bf9.mono zbb)).trans ((hwg9.kept.below (B := w.heap.size) (by omega) (fun i h => by omega)).trans (hwh9.kept.below (by omega) (fun i h => by omega)))⟩
            unfold ParseRA
            rw [hpf]
  · rintro z wx ⟨acc, n, hru, hnL, hacc, hP, hbx⟩
    have zx := hP.le
    have hlt9 := hP.lt
    have bwx := bw3.trans (hbx.mono (by omega))
    have hcL : wx.cell? ⟨w3.heap.size, 0, none⟩ = some (.slice va L.length vk) := hP.all.cell rfl
    have hSx := hS3.below hbx
    have hl : ∀ {wy : World} {k : Nat}, Kept (· = w5.heap.size) wx wy → Blk wy w5.heap.size 3 [.int .i64 k] → Fun Tryz.prog 47 [.pointer (some ⟨w5.heap.size, 0, none⟩), .pointer (some ⟨w3.heap.size, 0, none⟩)] wy fun r w' => r = str (L.getD k []) ∧ w' = wy := fun hk hb =>
      line_c L hLl _ _ _ XL _ _ (hb.cell rfl) (hk.cell hcL (by show w3.heap.size ≠ _; omega)) (hSx.kept hk (fun i hi => hXf i (by omega)))
    have hext : ∃ t, t = L.getD n [] := ⟨_, rfl⟩
    obtain ⟨t, ht⟩ := hext
    have hdl : (L.drop n).length = L.length - n := List.length_drop
    have hform : ∀ {e k : Nat}, bodyA L = .error e → k = L.length - e → parseA s = .form k := fun h hk => by rw [hk, hLL]; exact parse_e (by rw [← hLL]; exact h)
    refine wpL_seqD [68, 69, 70, 71, 72, 73, 74, 75] (fun _ wy => wy = wx ∧ (t = [101, 108, 115, 101, 32, 98, 114, 101, 97, 107] ∨ t = [101, 108, 115, 101, 32, 107, 101, 101, 112])) ?_ ?_
    · refine wpL_of ?_
      push_cast -dsimp
      -- wx: the world; (Kept.refl _ _): Kept from the round's beginning; hP.pos: the place's block
      refine callK_of (hl (Kept.refl _ _) hP.pos) ?_
      rintro _ wln ⟨rfl, hwe⟩
      obtain rfl : wx = wln := hwe.symm
      rw [← ht]
      push_cast -dsimp
      refine ⟨fun hne => ?_, fun he => .inl (Classical.not_not.1 he)⟩
      -- wx: the world; (Kept.refl _ _): Kept from the round's beginning; hP.pos: the place's block
      refine callK_of (hl (Kept.refl _ _) hP.pos) ?_
      rintro _ wln ⟨rfl, hwe⟩
      obtain rfl : wx = wln := hwe.symm
      rw [← ht]
      push_cast -dsimp
      refine ⟨fun hne2 => ?_, fun he2 => .inr (Classical.not_not.1 he2)⟩
      have hse : saysA elseW (L.drop n) = .error (L.drop n).length := says_err (get_ne (by decide) (by rw [← ht]; exact hne)) (get_ne (by decide) (by rw [← ht]; exact hne2))
      -- wx: the world; hP: Pq at it; bwx: Below w.heap.size w wx; (hform (body_e2 hru hse) (show n = L.length - (L.drop n).length by rw [hdl]; omega)): what the text is; n: the line
      have hPb := hP
      have hbb := bwx
      have zbb := hbb.size
      have ltb := hPb.lt
      refine callK_of (badP_c (n : Nat) w5.heap.size wx (hPb.pos.cell rfl)) ?_
      rintro _ wf9 ⟨rfl, bf9⟩
      have zf9 := bf9.size
      have hP9 := hPb.below bf9
      push_cast -dsimp
      refine storeAgg (xt := 24) (n := 2) (by kernel_rfl) hP9.zero rfl (by simp) (by simp [Value.oneCell']) ?_
      intro wg9 hwg9
      have zg9 := hwg9.size
      have F9 := hP9.zf.kept hwg9.kept (by omega)
      push_cast -dsimp
      refine storeAgg (xt := 52) (n := 2) (by kernel_rfl) F9 rfl (by simp) (by simp [Value.oneCell']) ?_
      intro wh9 hwh9
      have c9 : cellsAt wh9 ⟨w.heap.size, 0, none⟩ 0 2 = some [.slice none 0 0, .bool false] := (hwg9.blk.kept hwh9.kept (by omega)).cellsAt
      have f9 : cellsAt wh9 ⟨w1.heap.size, 0, none⟩ 0 2 = some [.int .i64 3, .int .i64 (n : Nat)] := hwh9.blk.cellsAt
      push_cast -dsimp [c9, f9]
      have hpf := (hform (body_e2 hru hse) (show n = L.length - (L.drop n).length by rw [hdl]; omega))
      refine ⟨?_, (hbb.trans (bf9.mono zbb)).trans ((hwg9.kept.below (B := w.heap.size) (by omega) (fun i h => by omega)).trans (hwh9.kept.below (by omega) (fun i h => by omega)))⟩
      unfold ParseRA
      rw [hpf]
    · rintro z2 wy ⟨hwe, hbk⟩
      subst hwe
      have htn : t ≠ [] := by rcases hbk with e | e <;> rw [e] <;> simp
      have hlt : n < L.length := get_lt (by rw [← ht]; exact htn)
      have hdr := drop_get hlt
      rw [← ht] at hdr
      have htm : t ∈ L := by rw [← List.take_append_drop n L, hdr]; simp
      have hspos : 0 < s.length := by
        have := hLm t (by rw [← hLL]; exact htm)
        have := List.length_pos_iff.2 htn
        omega
      have hsy : saysA elseW (L.drop n) = .ok (decide (t = [101, 108, 115, 101, 32, 98, 114, 101, 97, 107]), L.drop (n + 1)) := by
        rw [hdr]
        rcases hbk with e | e
        · rw [e]; exact says_put elseW true _
        · rw [e]; exact says_put elseW false _
      have hexb : ∃ b, b = decide (t = [101, 108, 115, 101, 32, 98, 114, 101, 97, 107]) := ⟨_, rfl⟩
      obtain ⟨b, hb⟩ := hexb
      rw [← hb] at hsy
      have hpg := hP.prog
      obtain ⟨pa, pc, hPb, _, hset⟩ := hpg
      refine wpL_seqV ?_
      push_cast -dsimp
      -- wy: the world; (Kept.refl _ _): Kept from the round's beginning; hP.pos: the place's block
      refine callK_of (hl (Kept.refl _ _) hP.pos) ?_
      rintro _ wln ⟨rfl, hwe⟩
      obtain rfl : wy = wln := hwe.symm
      rw [← ht]
      push_cast -dsimp
      refine storeK_of hPb (by simp) rfl ?_
      intro wb hwb
      have zb := hwb.size
      rw [← hb] at hwb
      have hPb2 := hset b wb hwb
      have kb : Kept (fun i => w3.heap.size ≤ i) wy wb := hwb.kept.weaken (fun i _ hi => by omega)
      have nb : wb.cell? ⟨w5.heap.size, 0, none⟩ = some (.int .i64 n) := hPb2.pos.cell rfl
      push_cast -dsimp
      refine wpL_seqV ?_
      push_cast -dsimp [nb]
      refine ⟨⟨by omega, by omega⟩, ?_⟩
      refine storeK_of hPb2.pos (by simp) rfl ?_
      intro wc hwc
      have zc := hwc.size
      have Nc : Blk wc w5.heap.size 3 [.int .i64 ((n + 1 : Nat) : Int)] := hwc.blk
      have hPc := hPb2.kept hwc.kept Nc
      have hbc : Below w3.heap.size w3 wc := hbx.trans ((kb.trans hwc.kept (fun i hi hh => by omega)).below (by omega) (fun i hi => hi))
      have bwc := bw3.trans (hbc.mono (by omega))
      have nc : wc.cell? ⟨w5.heap.size, 0, none⟩ = some (.int .i64 ((n + 1 : Nat) : Int)) := Nc.cell rfl
      have lc : wc.cell? ⟨w3.heap.size, 0, none⟩ = some (.slice va L.length vk) := hPc.all.cell rfl
      have hlast := last_ten hspos
      have hgi : ((s.length : Int) - 1).toNat = s.length - 1 := by omega
      push_cast -dsimp
      refine wpL_seqV ?_
      push_cast -dsimp [nc, lc, hgi]
      refine ⟨fun hnp => ⟨⟨by omega, by omega⟩, ⟨by omega, by omega⟩, fun hno => ?_, fun hyes => ?_⟩, fun hpos => ?_⟩
      rotate_left 2
      · have hbd := body_left hru hsy (by rw [List.length_drop]; omega)
        -- wc: the world; hPc: Pq at it; bwc: Below w.heap.size w wc; (hform hbd (show n + 1 = L.length - (L.drop (n + 1)).length by rw [List.length_drop]; omega)): what the text is; (n + 1): the line
        have hPb := hPc
        have hbb := bwc
        have zbb := hbb.size
        have ltb := hPb.lt
        refine callK_of (badP_c ((n + 1) : Nat) w5.heap.size wc (hPb.pos.cell rfl)) ?_
        rintro _ wf9 ⟨rfl, bf9⟩
        have zf9 := bf9.size
        have hP9 := hPb.below bf9
        push_cast -dsimp
        refine storeAgg (xt := 24) (n := 2) (by kernel_rfl) hP9.zero rfl (by simp) (by simp [Value.oneCell']) ?_
        intro wg9 hwg9
        have zg9 := hwg9.size
        have F9 := hP9.zf.kept hwg9.kept (by omega)
        push_cast -dsimp
        refine storeAgg (xt := 52) (n := 2) (by kernel_rfl) F9 rfl (by simp) (by simp [Value.oneCell']) ?_
        intro wh9 hwh9
        have c9 : cellsAt wh9 ⟨w.heap.size, 0, none⟩ 0 2 = some [.slice none 0 0, .bool false] := (hwg9.blk.kept hwh9.kept (by omega)).cellsAt
        have f9 : cellsAt wh9 ⟨w1.heap.size, 0, none⟩ 0 2 = some [.int .i64 3, .int .i64 ((n + 1) : Nat)] := hwh9.blk.cellsAt
        push_cast -dsimp [c9, f9]
        have hpf := (hform hbd (show n + 1 = L.length - (L.drop (n + 1)).length by rw [List.length_drop]; omega))
        refine ⟨?_, (hbb.trans (bf9.mono zbb)).trans ((hwg9.kept.below (B := w.heap.size) (by omega) (fun i h => by omega)).trans (hwh9.kept.below (by omega) (fun i h => by omega)))⟩
        unfold ParseRA
        rw [hpf]
        exact rfl
      · have hnil : L.drop (n + 1) = [] := List.drop_eq_nil_of_le (by omega)
        have hbd := body_ok hru (by rw [← hnil]; exact hsy)
        have hsf : ¬ s.getLast? = some 10 := fun e => hno (by have := hlast.1 e; omega)
        have hpn : parseA s = .form (n + 1) := by
          rw [parse_no (by rw [← hLL]; exact hbd) hsf, ← hLL]
          congr 1
          omega
        -- wc: the world; hPc: Pq at it; bwc: Below w.heap.size w wc; hpn: what the text is; (n + 1): the line
        have hPb := hPc
        have hbb := bwc
        have zbb := hbb.size
        have ltb := hPb.lt
        refine callK_of (badP_c ((n + 1) : Nat) w5.heap.size wc (hPb.pos.cell rfl)) ?_
        rintro _ wf9 ⟨rfl, bf9⟩
        have zf9 := bf9.size
        have hP9 := hPb.below bf9
        push_cast -dsimp
        refine storeAgg (xt := 24) (n := 2) (by kernel_rfl) hP9.zero rfl (by simp) (by simp [Value.oneCell']) ?_
        intro wg9 hwg9
        have zg9 := hwg9.size
        have F9 := hP9.zf.kept hwg9.kept (by omega)
        push_cast -dsimp
        refine storeAgg (xt := 52) (n := 2) (by kernel_rfl) F9 rfl (by simp) (by simp [Value.oneCell']) ?_
        intro wh9 hwh9
        have c9 : cellsAt wh9 ⟨w.heap.size, 0, none⟩ 0 2 = some [.slice none 0 0, .bool false] := (hwg9.blk.kept hwh9.kept (by omega)).cellsAt
        have f9 : cellsAt wh9 ⟨w1.heap.size, 0, none⟩ 0 2 = some [.int .i64 3, .int .i64 ((n + 1) : Nat)] := hwh9.blk.cellsAt
        push_cast -dsimp [c9, f9]
        have hpf := hpn
        refine ⟨?_, (hbb.trans (bf9.mono zbb)).trans ((hwg9.kept.below (B := w.heap.size) (by omega) (fun i h => by omega)).trans (hwh9.kept.below (by omega) (fun i h => by omega)))⟩
        unfold ParseRA
        rw [hpf]
        exact rfl
      · have hnil : L.drop (n + 1) = [] := List.drop_eq_nil_of_le (by omega)
        have hbd := body_ok hru (by rw [← hnil]; exact hsy)
        have hbd' : bodyA (linesA s) = .ok ⟨acc, b⟩ := by rw [← hLL]; exact hbd
        have hsf : s.getLast? = some 10 := hlast.2 (by omega)
        have hpg := hPc.prog
        obtain ⟨qa, qc, hQB, hprog, _⟩ := hpg
        have hc2 : cellsAt wc ⟨w7.heap.size, 0, none⟩ 0 2 = some [.slice qa acc.length qc, .bool b] := hQB.cellsAt
        have hfl := fewP_len (p := ⟨acc, b⟩) (bodyA_few hbd) (by omega)
        have hleC := hPc.le
        push_cast -dsimp
        refine wpL_seqV ?_
        push_cast -dsimp [hc2]
        refine callK_of (rightProgramR_c ⟨acc, b⟩ hfl _ _ wc (hprog wc (Kept.refl _ _))) ?_
        rintro _ wv ⟨rfl, hbv⟩
        have zv := hbv.size
        have bwv := bwc.trans (hbv.mono bwc.size)
        have hPv := hPc.below hbv
        have hQv := hQB.below hbv hQB.lt
        cases hpr : progRight ⟨acc, b⟩ with
        | false =>
          push_cast -dsimp
          refine callK_of (Bare_c 1 wv) ?_
          rintro _ wf ⟨rfl, bf⟩
          have zf := bf.size
          have hPf := hPv.below bf
          push_cast -dsimp
          refine storeAgg (xt := 24) (n := 2) (by kernel_rfl) hPf.zero rfl (by simp) (by simp [Value.oneCell']) ?_
          intro wg hwg
          have zg := hwg.size
          have F9 := hPf.zf.kept hwg.kept (by omega)
          push_cast -dsimp
          refine storeAgg (xt := 52) (n := 2) (by kernel_rfl) F9 rfl (by simp) (by simp [Value.oneCell']) ?_
          intro wh hwh
          have c9 : cellsAt wh ⟨w.heap.size, 0, none⟩ 0 2 = some [.slice none 0 0, .bool false] := (hwg.blk.kept hwh.kept (by omega)).cellsAt
          have f9 : cellsAt wh ⟨w1.heap.size, 0, none⟩ 0 2 = some [.int .i64 1, .int .i64 (-1)] := hwh.blk.cellsAt
          push_cast -dsimp [c9, f9]
          refine ⟨?_, (bwv.trans (bf.mono bwv.size)).trans ((hwg.kept.below (B := w.heap.size) (by omega) (fun i h => by omega)).trans (hwh.kept.below (by omega) (fun i h => by omega)))⟩
          unfold ParseRA
          rw [parse_arg hbd' hsf hpr]
        | true =>
          push_cast -dsimp
          have hfc : ∀ {w'}, Below w.heap.size w w' → cellsAt w' ⟨0, 0, none⟩ 0 2 = some [.int .i64 0, .int .i64 (-1)] := fun hb => cellsAt_of [.int .i64 0, .int .i64 (-1)] 0 (fun j u hu => by
            rw [Nat.zero_add, Nat.zero_add]
            match j, hu with
            | 0, hu => cases hu; exact (hb.cell (Nat.lt_of_lt_of_le (by decide) hg)).trans hf.1
            | 1, hu => cases hu; exact (hb.cell (Nat.lt_of_lt_of_le (by decide) hg)).trans hf.2
            | j + 2, hu => cases hu)
          have bd := below_drewI wv
          have bwd := bwv.trans (bd.mono bwv.size)
          have g1 : ∀ w'', Blk w'' w7.heap.size 24 [.slice qa acc.length qc, .bool b] → cellsAt w'' ⟨w7.heap.size, 0, none⟩ 0 2 = some [.slice qa acc.length qc, .bool b] := fun w'' h => h.cellsAt
          have Qd := hQv.drew
          refine wpL_seqW ?_
          refine wpL_draw (fun w'' => Blk w'' w7.heap.size 24 [.slice qa acc.length qc, .bool b] ∧ Below w.heap.size w w'') mixed (by kernel_rfl) ⟨Qd, bwd⟩ ?_
          push_cast -dsimp [g1 _ Qd, hfc bwd]
          refine ⟨fun w'' h => by rw [g1 _ h.1]; exact rfl, fun w'' h => by rw [hfc h.2]; exact rfl, ?_⟩
          have hPd := hPv.below bd
          refine storeAgg (xt := 24) (n := 2) (by kernel_rfl) hPd.zero rfl (by simp) (by simp [Value.oneCell']) ?_
          intro wg hwg
          have zg : wg.heap.size = wv.heap.size := hwg.size
          have bwg := bwd.trans (hwg.kept.below (B := w.heap.size) (by show w.heap.size ≤ wv.heap.size; omega) (fun i h => by omega))
          refine ⟨⟨Qd.kept hwg.kept (by omega), bwg⟩, ?_⟩
          have F9 := hPd.zf.kept hwg.kept (by omega)
          push_cast -dsimp
          refine storeAgg (xt := 52) (n := 2) (by kernel_rfl) F9 rfl (by simp) (by simp [Value.oneCell']) ?_
          intro wh hwh
          have bwh := bwg.trans (hwh.kept.below (B := w.heap.size) (by omega) (fun i h => by omega))
          refine ⟨⟨(Qd.kept hwg.kept (by omega)).kept hwh.kept (by omega), bwh⟩, ?_⟩
          have c9 : cellsAt wh ⟨w.heap.size, 0, none⟩ 0 2 = some [.slice qa acc.length qc, .bool b] := (hwg.blk.kept hwh.kept (by omega)).cellsAt
          have f9 : cellsAt wh ⟨w1.heap.size, 0, none⟩ 0 2 = some [.int .i64 0, .int .i64 (-1)] := hwh.blk.cellsAt
          push_cast -dsimp
          refine wpL_of ?_
          push_cast -dsimp [c9, f9]
          refine ⟨?_, bwh⟩
          unfold ParseRA
          rw [parse_yes hbd' hsf hpr]
          refine ⟨_, rfl, ProgV.mono (hprog wh ?_) (fun _ _ _ => rfl) (fun b' hb' => by show b' < _; omega)⟩
          exact (((Kept.of_below hbv (X := fun b' => b' < wA.heap.size) (fun i h1 h2 => by omega)).drew).trans hwg.kept (fun i _ hi => by omega)).trans hwh.kept (fun i _ hi => by omega)
end Go.Proofs.YtiofleijieepgaaGreatDoor
end
