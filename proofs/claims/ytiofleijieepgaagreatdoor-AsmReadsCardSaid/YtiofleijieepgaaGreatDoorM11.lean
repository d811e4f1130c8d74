/- Texts of this claim, merged: Ri6, Smq, Ri5. -/
import Derived.Test.YtiofleijieepgaaGreatDoorM7
import Derived.Test.YtiofleijieepgaaGreatDoorM8
import Derived.Test.YtiofleijieepgaaGreatDoorM10
section
/- A program's text, by the reference. -/
namespace Go.Proofs.YtiofleijieepgaaGreatDoor
open Go.Vc Go.Proofs Go.RowKit Cae
set_option maxRecDepth 100000
set_option linter.unusedSimpArgs false
set_option linter.unusedVariables false
attribute [local irreducible] wpL callK valK unitK runK Fun Sl Vc.Own vc vcOps opK pureK
set_option maxHeartbeats 8000000
theorem linesT_two (a b : List (List UInt8)) : linesT (a ++ b) = linesT a ++ linesT b := by simp [linesT]
theorem programText_c (p : ProgP) (hl : ProgLen p) (hlen0 : progRight p = true → (progT p).length ≤ 1000000000) (X : Nat → Prop) (v : Value) (w : World) (hv : ProgV X w v p) (hd : Db w) (hp : Pw w) (hg : 14 ≤ w.heap.size) :
    Fun Tryz.prog 16 [v] w fun r w' => r = (if progRight p = true then .tuple #[str (progT p), .int .i64 0] else .tuple #[str [], .int .i64 1]) ∧ Below w.heap.size w w' := by
  obtain ⟨rv, rfl, hr⟩ := hv
  obtain ⟨a, c, rfl, hc⟩ := hr.shape
  refine fun_of_wL Tryz.func16 rfl (by kernel_rfl) [2, 3] rfl ?_
  push_cast -dsimp (maxSteps := 4000000) [Tryz.ntmps16]
  refine wpL_seqV ?_
  push_cast -dsimp
  refine boxK_of ?_
  intro w1 hw1
  have z1 := hw1.size
  have P1 : Blk w1 w.heap.size 24 [.slice a p.rules.length c, .bool p.els] := hw1.blk
  have d1 : cellsAt w1 ⟨w.heap.size, 0, none⟩ 0 2 = some [.slice a p.rules.length c, .bool p.els] := P1.cellsAt
  push_cast -dsimp
  refine wpL_seqV ?_
  push_cast -dsimp [d1]
  refine callK_of (rightProgramR_c p hl X _ w1 ⟨_, rfl, PairsV.below hr hw1.below⟩) ?_
  rintro _ w2 ⟨rfl, b2⟩
  have z2 := b2.size
  have bw2 := hw1.below.trans (b2.mono (by omega))
  have P2 := P1.below b2 P1.lt
  cases hR : progRight p with
  | false =>
    push_cast -dsimp
    exact bw2
  | true =>
    have hlen := hlen0 hR
    have hok := (right_parts hR).2
    have h20 := (right_parts hR).1
    have d20 : w2.cell? ⟨w.heap.size, 0, none⟩ = some (.slice a p.rules.length c) := P2.cell rfl
    have hpt := progT_eq p
    have hptl := congrArg List.length hpt
    rw [List.length_append] at hptl
    push_cast -dsimp
    refine wpL_seqV ?_
    push_cast -dsimp
    refine wpL_seqD [4, 6, 8, 10, 14, 15, 16, 17, 18, 19, 20, 21, 22, 23, 24, 25, 26, 27, 28, 29, 30, 31, 32, 33, 34, 35, 36, 37, 38, 39, 40, 41, 42, 43, 44, 45, 46, 47, 48, 49, 50, 51, 52, 53, 54, 55, 56, 57, 58, 59, 60, 61, 62] (fun z wx => z 4 = str (rulesT p) ∧ Below w2.heap.size w2 wx) ?_ ?_
    · refine wpL_seqV ?_
      push_cast -dsimp [d20]
      refine wpL_blockW ?_
      refine wpL_loopW [4, 6, 8, 10, 17, 18, 19, 20, 21, 22, 23, 24, 25, 26, 27, 28, 29, 30, 31, 32, 33, 34, 35, 36, 37, 38, 39, 40, 41, 42, 43, 44, 45, 46, 47, 48, 49, 50, 51, 52, 53, 54, 55, 56, 57, 58, 59, 60, 61, 62] (fun z wx => ∃ i : Nat, z 17 = .int .i64 i ∧ i ≤ p.rules.length ∧ z 4 = str (linesT ((p.rules.take i).flatMap pairL)) ∧ Below w2.heap.size w2 wx) (fun z _ => p.rules.length - (intOf (z 17)).toNat) ?_ ?_
      · exact ⟨0, rfl, Nat.zero_le _, rfl, Below.refl _ _⟩
      · rintro z wx ⟨i, h17, hi, h4, hbx⟩
        have zx := hbx.size
        have bw := bw2.trans (hbx.mono bw2.size)
        refine wpL_seqV ?_
        push_cast -dsimp [h17]
        refine wpL_seqV ?_
        push_cast -dsimp
        refine ⟨fun hlt => ?_, fun hge => ?_⟩
        · have hex := lt_get (l := p.rules) (i := i) (by omega)
          obtain ⟨x, hx, hxm, _, ht⟩ := hex
          have hgt := Sl.getR (PairsV.below hr bw) hx
          obtain ⟨b, o, cs, rfl, hX, hk, hcell, s1, i1, s2, i2, rfl, hv1, hv2⟩ := hgt
          have cx : cellsAt wx ⟨b, o + i * 5, none⟩ 0 5 = some [.bool x.brk, s1, i1, s2, i2] := cellsAt_of _ 0 (fun j u hu => by simpa using hcell j u hu)
          have hxo := hok x hxm
          have hrl : rulesT p = linesT ((p.rules.take i).flatMap pairL) ++ (linesT (pairL x) ++ linesT ((p.rules.drop (i + 1)).flatMap pairL)) := by
            unfold rulesT
            conv => lhs; rw [← List.take_append_drop (i + 1) p.rules, ht]
            rw [List.flatMap_append, List.flatMap_append, List.flatMap_singleton, linesT_two, linesT_two, List.append_assoc]
          have hpx : linesT (pairL x) = (ruleW ++ wordT x.brk ++ [10]) ++ (linesT (codeL x.before) ++ ((afterW ++ [10]) ++ linesT (codeL x.after))) := by simp [pairL, linesT]
          have hll := congrArg List.length hrl
          have hpxl := congrArg List.length hpx
          have hwl : (wordT x.brk).length ≤ 5 := by cases x.brk <;> decide
          have hsh1 : ∃ q1 n1 k1 q2 n2 k2, s1 = .slice q1 n1 k1 ∧ i1 = .slice q2 n2 k2 ∧ n2 = x.before.ins.length := by
            obtain ⟨sv', iv', ee, h1, h2⟩ := hv1
            obtain ⟨a1, c1, rfl, _⟩ := h1.shape
            obtain ⟨a2, c2, rfl, _⟩ := h2.shape
            cases ee
            exact ⟨_, _, _, _, _, _, rfl, rfl, rfl⟩
          have hsh2 : ∃ q1 n1 k1 q2 n2 k2, s2 = .slice q1 n1 k1 ∧ i2 = .slice q2 n2 k2 ∧ n2 = x.after.ins.length := by
            obtain ⟨sv', iv', ee, h1, h2⟩ := hv2
            obtain ⟨a1, c1, rfl, _⟩ := h1.shape
            obtain ⟨a2, c2, rfl, _⟩ := h2.shape
            cases ee
            exact ⟨_, _, _, _, _, _, rfl, rfl, rfl⟩
          obtain ⟨q1, n1, k1, q2, n2, k2, rfl, rfl, rfl⟩ := hsh1
          obtain ⟨q3, n3, k3, q4, n4, k4, rfl, rfl, rfl⟩ := hsh2
          refine wpL_seqW (wpL_blockW ?_)
          refine wpL_seqV ?_
          push_cast -dsimp [cx]
          refine ⟨⟨by omega, by omega⟩, ?_⟩
          refine allocK (z := [.bool false, .slice none 0 0, .slice none 0 0, .slice none 0 0, .slice none 0 0]) (by kernel_rfl) ?_
          intro w4 hw4
          have z4 := hw4.size
          push_cast -dsimp
          refine storeAgg (n := 5) (by kernel_rfl) hw4.blk rfl (by simp) (by simp; exact ⟨rfl, rfl, rfl, rfl, rfl⟩) ?_
          intro w5 hw5
          have z5 := hw5.size
          have B5 : Blk w5 wx.heap.size 45 [.bool x.brk, .slice q1 n1 k1, .slice q2 x.before.ins.length k2, .slice q3 n3 k3, .slice q4 x.after.ins.length k4] := hw5.blk
          have b5 : Below wx.heap.size wx w5 := hw4.below.trans (hw5.kept.below (B := wx.heap.size) (by omega) (fun i h => by omega))
          have bx := bw
          have bw := bw.trans (b5.mono bw.size)
          have d50 : w5.cell? ⟨wx.heap.size, 0, none⟩ = some (.bool x.brk) := B5.cell rfl
          push_cast -dsimp
          refine wpL_seqV ?_
          push_cast -dsimp [d50, h4]
          refine callK_of (verdict_c x.brk w5) ?_
          rintro _ w5' ⟨rfl, hw5e⟩
          obtain rfl : w5 = w5' := hw5e.symm
          push_cast -dsimp
          simp only [List.length_append, List.length_cons, List.length_nil] at hpxl hll ⊢
          have ha5 : afterW.length = 5 := rfl
          have hr5 : ruleW.length = 5 := rfl
          refine ⟨by omega, by omega, by omega, ?_⟩
          have hT : ∃ T, T = linesT ((p.rules.take i).flatMap pairL) ++ (ruleW ++ wordT x.brk ++ [10]) := ⟨_, rfl⟩
          obtain ⟨T, hT⟩ := hT
          have hTl := congrArg List.length hT
          simp only [List.length_append, List.length_cons, List.length_nil] at hTl
          have hTe : linesT ((p.rules.take i).flatMap pairL) ++ ([114, 117, 108, 101, 32] ++ wordT x.brk ++ [10]) = T := hT.symm
          rw [hTe]
          have hcp := code_parts hxo.1
          have hcq := code_parts hxo.2
          have d52 : w5.cell? ⟨wx.heap.size, 2, none⟩ = some (.slice q2 x.before.ins.length k2) := B5.cell rfl
          have hbl : T.length + (linesT (codeL x.before)).length ≤ 1000000000 := by omega
          have hvx := hv1.below b5
          refine wpL_seqD [4, 8, 28, 29, 30, 31, 32, 33, 34, 35, 36, 37, 38, 39, 40, 41, 42, 43] (fun z wy => z 4 = str (T ++ linesT (codeL x.before)) ∧ Below w5.heap.size w5 wy) ?_ ?_
          · refine wpL_seqV ?_
            push_cast -dsimp [d52]
            -- 1 the loop's number; 32 the counter; x.before the code; T the text ahead of it; w5 the world; B5 Blk of the pair; 1 its place; (.slice q1 n1 k1) (.slice q2 x.before.ins.length k2) its rows; hvx: CodeV there; hcp: its parts; hbl: the length; bw: Below; what is left: the loop's end
            refine wpL_blockW ?_
            refine wpL_loop [4, 8, 32, 33, 34, 35, 36, 37, 38, 39, 40, 41, 42, 43] (fun z wy => ∃ j : Nat, z 32 = .int .i64 j ∧ j ≤ x.before.ins.length ∧ z 4 = str (T ++ linesT ((codeL x.before).take j)) ∧ Below (w5).heap.size w5 wy) (fun z _ => x.before.ins.length - (intOf (z 32)).toNat) ?_ ?_
            · exact ⟨0, rfl, Nat.zero_le _, (by rw [show linesT ((codeL x.before).take 0) = [] from rfl, List.append_nil]; rfl), Below.refl _ _⟩
            rintro z wy ⟨j, hj, hjl, h4, hby⟩
            have zy := hby.size
            have hcl : (codeL x.before).length = x.before.ins.length := by simp [codeL]
            push_cast -dsimp [hj, h4]
            refine ⟨fun hlt => ?_, fun hge => ?_⟩
            · have hex := lt_get (l := x.before.ins) (i := j) (by omega)
              obtain ⟨y, hy, hym, _⟩ := hex
              have hly : (codeL x.before)[j]? = some (instL x.before.sets y) := by unfold codeL; rw [List.getElem?_map, hy]; rfl
              obtain ⟨hpl, hpe⟩ := linesT_pre hly
              have hvy := hvx.below hby
              obtain ⟨sv', iv', ee, hsy, hiy⟩ := hvy
              simp only [Value.agg.injEq, Array.mk.injEq, List.cons.injEq, and_true] at ee
              obtain ⟨rfl, rfl⟩ := ee
              have hgt := hiy.get hy
              obtain ⟨g, o, hq, _, hcell⟩ := hgt
              have cy : cellsAt wy ⟨g, o + j * 3, none⟩ 0 3 = some [.int .i64 y.op, .int .i64 y.a, .int .i64 y.b] := cellsAt_of (encIn y) 0 (fun k u hu => by simpa using hcell k u hu)
              have hic := ins_cases (hcp.2.1 y hym) (by omega)
              push_cast -dsimp [hq, cy]
              refine ⟨⟨by omega, by omega⟩, ?_⟩
              refine allocK (z := [.int .i64 0, .int .i64 0, .int .i64 0]) (by kernel_rfl) ?_
              intro wb hwb
              have zb := hwb.size
              push_cast -dsimp
              refine storeAgg (n := 3) (by kernel_rfl) hwb.blk rfl (by simp) (by simp; exact ⟨rfl, rfl, rfl⟩) ?_
              intro wc hwc
              have zc := hwc.size
              have Yc : Blk wc wy.heap.size 89 [.int .i64 y.op, .int .i64 y.a, .int .i64 y.b] := hwc.blk
              have byc : Below wy.heap.size wy wc := hwb.below.trans (hwc.kept.below (B := wy.heap.size) (by omega) (fun i h => by omega))
              have bc := hby.trans (byc.mono zy)
              have e1 : cellsAt wc ⟨wx.heap.size, 1, none⟩ 0 2 = some [(.slice q1 n1 k1), (.slice q2 x.before.ins.length k2)] := blkSome (n := 2) (xs := [_, _]) ((B5).below bc (B5).lt) 1 rfl rfl
              have e2 : cellsAt wc ⟨wy.heap.size, 0, none⟩ 0 3 = some [.int .i64 y.op, .int .i64 y.a, .int .i64 y.b] := Yc.cellsAt
              push_cast -dsimp [e1, e2]
              have bwc := bw.trans (bc.mono bw.size)
              refine callK_of (instTextR_c x.before y (by omega) (fun h => by omega) (by omega) (by omega) (by omega) (fun s hs => ⟨hcp.2.2.1 s hs, by have := right_len (hcp.2.2.1 s hs); omega⟩) X _ wc (hvx.below bc) (hd.below bwc (Nat.lt_of_lt_of_le (by decide) hg)) (hp.below bwc hg) (by have := bwc.size; omega)) ?_
              rintro _ wd ⟨rfl, bd⟩
              have bD := bc.trans (bd.mono bc.size)
              have hTl : (T ++ linesT ((codeL x.before).take j)).length = (T).length + (linesT ((codeL x.before).take j)).length := List.length_append
              push_cast -dsimp
              refine ⟨by omega, by rw [hTl, List.length_append, List.length_singleton]; omega, ⟨by omega, by omega⟩, by rw [hq], ⟨j + 1, rfl, by omega, ?_, bD⟩, by rw [hj]; simp only [intOf]; omega⟩
              rw [hpe]
              simp [List.append_assoc]
            have hte : (codeL x.before).take j = codeL x.before := List.take_of_length_le (by omega)
            exact ⟨by rw [hte], hby⟩
          · rintro z6 w6 ⟨h46, b6⟩
            have z6' := b6.size
            have B6 := B5.below b6 B5.lt
            have b56 := b5.trans (b6.mono b5.size)
            have bw := bw.trans (b6.mono bw.size)
            have d64 : w6.cell? ⟨wx.heap.size, 4, none⟩ = some (.slice q4 x.after.ins.length k4) := B6.cell rfl
            have hT2 : ∃ T2, T2 = T ++ linesT (codeL x.before) ++ [97, 102, 116, 101, 114, 10] := ⟨_, rfl⟩
            obtain ⟨T2, hT2⟩ := hT2
            have hTl2 := congrArg List.length hT2
            simp only [List.length_append, List.length_cons, List.length_nil] at hTl2
            refine wpL_seqV ?_
            push_cast -dsimp [h46]
            rw [← hT2]
            refine ⟨by rw [List.length_append]; omega, ?_⟩
            have hcp := hcq
            have hbl : T2.length + (linesT (codeL x.after)).length ≤ 1000000000 := by omega
            have hvx := hv2.below b56
            refine wpL_seqV ?_
            push_cast -dsimp [d64]
            -- 2 the loop's number; 50 the counter; x.after the code; T2 the text ahead of it; w6 the world; B6 Blk of the pair; 3 its place; (.slice q3 n3 k3) (.slice q4 x.after.ins.length k4) its rows; hvx: CodeV there; hcp: its parts; hbl: the length; bw: Below; what is left: the loop's end
            refine wpL_blockW ?_
            refine wpL_loop [4, 10, 50, 51, 52, 53, 54, 55, 56, 57, 58, 59, 60, 61] (fun z wy => ∃ j : Nat, z 50 = .int .i64 j ∧ j ≤ x.after.ins.length ∧ z 4 = str (T2 ++ linesT ((codeL x.after).take j)) ∧ Below (w6).heap.size w6 wy) (fun z _ => x.after.ins.length - (intOf (z 50)).toNat) ?_ ?_
            · exact ⟨0, rfl, Nat.zero_le _, (by rw [show linesT ((codeL x.after).take 0) = [] from rfl, List.append_nil]; rfl), Below.refl _ _⟩
            rintro z wy ⟨j, hj, hjl, h4, hby⟩
            have zy := hby.size
            have hcl : (codeL x.after).length = x.after.ins.length := by simp [codeL]
            push_cast -dsimp [hj, h4]
            refine ⟨fun hlt => ?_, fun hge => ?_⟩
            · have hex := lt_get (l := x.after.ins) (i := j) (by omega)
              obtain ⟨y, hy, hym, _⟩ := hex
              have hly : (codeL x.after)[j]? = some (instL x.after.sets y) := by unfold codeL; rw [List.getElem?_map, hy]; rfl
              obtain ⟨hpl, hpe⟩ := linesT_pre hly
              have hvy := hvx.below hby
              obtain ⟨sv', iv', ee, hsy, hiy⟩ := hvy
              simp only [Value.agg.injEq, Array.mk.injEq, List.cons.injEq, and_true] at ee
              obtain ⟨rfl, rfl⟩ := ee
              have hgt := hiy.get hy
              obtain ⟨g, o, hq, _, hcell⟩ := hgt
              have cy : cellsAt wy ⟨g, o + j * 3, none⟩ 0 3 = some [.int .i64 y.op, .int .i64 y.a, .int .i64 y.b] := cellsAt_of (encIn y) 0 (fun k u hu => by simpa using hcell k u hu)
              have hic := ins_cases (hcp.2.1 y hym) (by omega)
              push_cast -dsimp [hq, cy]
              refine ⟨⟨by omega, by omega⟩, ?_⟩
              refine allocK (z := [.int .i64 0, .int .i64 0, .int .i64 0]) (by kernel_rfl) ?_
              intro wb hwb
              have zb := hwb.size
              push_cast -dsimp
              refine storeAgg (n := 3) (by kernel_rfl) hwb.blk rfl (by simp) (by simp; exact ⟨rfl, rfl, rfl⟩) ?_
              intro wc hwc
              have zc := hwc.size
              have Yc : Blk wc wy.heap.size 89 [.int .i64 y.op, .int .i64 y.a, .int .i64 y.b] := hwc.blk
              have byc : Below wy.heap.size wy wc := hwb.below.trans (hwc.kept.below (B := wy.heap.size) (by omega) (fun i h => by omega))
              have bc := hby.trans (byc.mono zy)
              have e1 : cellsAt wc ⟨wx.heap.size, 3, none⟩ 0 2 = some [(.slice q3 n3 k3), (.slice q4 x.after.ins.length k4)] := blkSome (n := 2) (xs := [_, _]) ((B6).below bc (B6).lt) 3 rfl rfl
              have e2 : cellsAt wc ⟨wy.heap.size, 0, none⟩ 0 3 = some [.int .i64 y.op, .int .i64 y.a, .int .i64 y.b] := Yc.cellsAt
              push_cast -dsimp [e1, e2]
              have bwc := bw.trans (bc.mono bw.size)
              refine callK_of (instTextR_c x.after y (by omega) (fun h => by omega) (by omega) (by omega) (by omega) (fun s hs => ⟨hcp.2.2.1 s hs, by have := right_len (hcp.2.2.1 s hs); omega⟩) X _ wc (hvx.below bc) (hd.below bwc (Nat.lt_of_lt_of_le (by decide) hg)) (hp.below bwc hg) (by have := bwc.size; omega)) ?_
              rintro _ wd ⟨rfl, bd⟩
              have bD := bc.trans (bd.mono bc.size)
              have hTl : (T2 ++ linesT ((codeL x.after).take j)).length = (T2).length + (linesT ((codeL x.after).take j)).length := List.length_append
              push_cast -dsimp
              refine ⟨by omega, by rw [hTl, List.length_append, List.length_singleton]; omega, ⟨by omega, by omega⟩, by rw [hq], ⟨j + 1, rfl, by omega, ?_, bD⟩, by rw [hj]; simp only [intOf]; omega⟩
              rw [hpe]
              simp [List.append_assoc]
            have hte : (codeL x.after).take j = codeL x.after := List.take_of_length_le (by omega)
            refine wpL_of ?_
            push_cast -dsimp [h17]
            refine ⟨⟨by omega, by omega⟩, ⟨i + 1, rfl, by omega, ?_, hbx.trans ((b56.trans (hby.mono b56.size)).mono zx)⟩, by simp only [intOf]; omega⟩
            rw [hte, hT2, hT, ht, List.flatMap_append, List.flatMap_singleton, linesT_two, hpx]
            simp [afterW, List.append_assoc]
        · have hin : i = p.rules.length := by omega
          subst hin
          rw [List.take_length] at h4
          exact ⟨h4, hbx⟩
    · rintro z wx ⟨h4, hbx⟩
      have zx := hbx.size
      have bw := bw2.trans (hbx.mono bw2.size)
      have Px := P2.below hbx P2.lt
      have dx : wx.cell? ⟨w.heap.size, 1, none⟩ = some (.bool p.els) := Px.cell rfl
      have hwl : (wordT p.els).length ≤ 5 := by cases p.els <;> decide
      refine wpL_seqV ?_
      push_cast -dsimp [h4, dx]
      refine ⟨by omega, ?_⟩
      refine callK_of (verdict_c p.els wx) ?_
      rintro _ wx' ⟨rfl, hxe⟩
      obtain rfl : wx = wx' := hxe.symm
      push_cast -dsimp
      simp only [List.length_append, List.length_cons, List.length_nil]
      refine ⟨by omega, by omega, ?_⟩
      refine wpL_of ?_
      push_cast -dsimp
      refine ⟨?_, bw⟩
      rw [hpt]
      simp [elseW]
end Go.Proofs.YtiofleijieepgaaGreatDoor
end
section
/- Two values of one program are the same; which programs are small. -/
namespace Go.Proofs.YtiofleijieepgaaGreatDoor
open Go.Vc Go.Proofs Go.RowKit Cae
set_option maxRecDepth 100000
set_option linter.unusedSimpArgs false
set_option linter.unusedVariables false
attribute [local irreducible] wpL callK valK unitK runK Fun Sl Vc.Own vc vcOps opK pureK
set_option maxHeartbeats 4000000
theorem sameCode_c (c : CodeP) (hl : CodeLen c) (X X' : Nat → Prop) (v v' : Value) (w : World) (hv : CodeV X w v c) (hv' : CodeV X' w v' c) :
    Fun Tryz.prog 53 [v, v'] w fun r w' => r = .bool true ∧ Below w.heap.size w w' := by
  obtain ⟨hl1, hl2, hl3⟩ := hl
  obtain ⟨sv, iv, rfl, hsv, hiv⟩ := hv
  obtain ⟨sv', iv', rfl, hsv', hiv'⟩ := hv'
  obtain ⟨a1, c1, rfl, hc1⟩ := hsv.shape
  obtain ⟨a2, c2, rfl, hc2⟩ := hiv.shape
  obtain ⟨a1', c1', rfl, hc1'⟩ := hsv'.shape
  obtain ⟨a2', c2', rfl, hc2'⟩ := hiv'.shape
  refine fun_of_vc Tryz.func53 rfl (by kernel_rfl) [4] rfl ?_
  push_cast -dsimp (maxSteps := 4000000) [Tryz.ntmps53]
  refine boxK_of ?_
  intro w1 hw1
  have hw1 : New w w1 43 [.slice a1 c.sets.length c1, .slice a2 c.ins.length c2] := hw1
  push_cast -dsimp
  refine boxK_of ?_
  intro w2 hw2
  have hw2 : New w1 w2 43 [.slice a1' c.sets.length c1', .slice a2' c.ins.length c2'] := hw2
  have sz1 := hw1.size
  have sz2 := hw2.size
  have hB1 : Blk w2 w.heap.size 43 [.slice a1 c.sets.length c1, .slice a2 c.ins.length c2] := hw1.blk.below hw2.below (by omega)
  have hB2 : Blk w2 w1.heap.size 43 [.slice a1' c.sets.length c1', .slice a2' c.ins.length c2'] := hw2.blk
  have hL2 : Below w.heap.size w w2 := hw1.below.trans (hw2.below.mono (by omega))
  have d0 : w2.cell? ⟨w.heap.size, 0, none⟩ = some (.slice a1 c.sets.length c1) := hB1.cell rfl
  have d1 : w2.cell? ⟨w.heap.size, 1, none⟩ = some (.slice a2 c.ins.length c2) := hB1.cell rfl
  have d0' : w2.cell? ⟨w1.heap.size, 0, none⟩ = some (.slice a1' c.sets.length c1') := hB2.cell rfl
  have d1' : w2.cell? ⟨w1.heap.size, 1, none⟩ = some (.slice a2' c.ins.length c2') := hB2.cell rfl
  push_cast -dsimp [d0, d1, d0', d1', decide_false]
  refine wpL_loop [4, 5, 23, 24, 25, 26, 27, 28, 29, 30, 31, 32, 33, 34, 35, 36, 37, 38, 39, 40, 41] (fun z wx => ∃ (i : Nat), z 5 = .int .i64 i ∧ i ≤ c.sets.length ∧ Below w2.heap.size w2 wx) (fun z _ => c.sets.length - (intOf (z 5)).toNat) ?_ ?_
  · exact ⟨0, rfl, Nat.zero_le _, Below.refl _ _⟩
  · intro z wx hI
    obtain ⟨i, h5, hi, hb⟩ := hI
    have hLx := hL2.trans (hb.mono hL2.size)
    have szx := hb.size
    have hB1x := hB1.below hb (by omega)
    have hB2x := hB2.below hb (by omega)
    have e0 : wx.cell? ⟨w.heap.size, 0, none⟩ = some (.slice a1 c.sets.length c1) := hB1x.cell rfl
    have e1 : wx.cell? ⟨w.heap.size, 1, none⟩ = some (.slice a2 c.ins.length c2) := hB1x.cell rfl
    push_cast -dsimp [h5, e0]
    refine ⟨fun hlt => ?_, fun hge => ?_⟩
    · obtain ⟨x, hex⟩ := lt_get (l := c.sets) (i := i) (by omega)
      have hx := hex.1
      have hxm := hex.2.1
      have hget := Sl.getR (SetsV.below hsv hLx) hx
      obtain ⟨b, o, cs, rfl, hX, hk, hcell, u, rfl, hu⟩ := hget
      have hget' := Sl.getR (SetsV.below hsv' hLx) hx
      obtain ⟨b', o', cs', rfl, hX', hk', hcell', u', rfl, hu'⟩ := hget'
      have f0 : wx.cell? ⟨b, o + i, none⟩ = some u := by simpa using hcell 0 u rfl
      have f0' : wx.cell? ⟨b', o' + i, none⟩ = some u' := by simpa using hcell' 0 u' rfl
      have g0' : wx.cell? ⟨w1.heap.size, 0, none⟩ = some (.slice (some ⟨b', o', none⟩) c.sets.length c1') := hB2x.cell rfl
      refine wpL_draw (fun w' => Kept (fun _ => False) wx w') mixed (by kernel_rfl) (Kept.refl _ _).drew ?_
      have kd : Kept (fun _ => False) wx wx.drew := (Kept.refl _ _).drew
      have m0 := kd.cell e0 id
      have m1 := kd.cell f0 id
      have m2 := kd.cell g0' id
      have m3 := kd.cell f0' id
      push_cast -dsimp [m0, m1, m2, m3]
      refine ⟨fun w'' hC => by rw [hC.cell e0 id]; exact rfl, ⟨by omega, by omega⟩, fun w'' hC => by rw [hC.cell f0 id]; exact rfl, fun w'' hC => by rw [hC.cell g0' id]; exact rfl, ⟨by omega, by omega⟩, fun w'' hC => by rw [hC.cell f0' id]; exact rfl, ?_⟩
      have hbd : Below wx.heap.size wx wx.drew := (Below.refl _ _).drew
      refine callK_of (sameSet_c x (hl1 x hxm) X X' u u' wx.drew (hu.below hbd) (hu'.below hbd)) ?_
      rintro _ w3 ⟨rfl, hb3⟩
      have hb3' : Below wx.heap.size wx w3 := hbd.trans hb3
      refine ⟨Kept.of_below hb3' (fun k hk hl => by omega), ?_⟩
      push_cast -dsimp
      exact ⟨⟨by omega, by omega⟩, ⟨i + 1, rfl, by omega, hb.trans (hb3'.mono szx)⟩, by rw [h5]; simp only [intOf]; omega⟩
    · refine wpL_loop [4, 6, 42, 43, 44, 45, 46, 47, 48, 49, 50, 51, 52, 53, 54, 55, 56, 57, 58, 59] (fun z' wy => ∃ (j : Nat), z' 6 = .int .i64 j ∧ j ≤ c.ins.length ∧ Below wx.heap.size wx wy) (fun z' _ => c.ins.length - (intOf (z' 6)).toNat) ?_ ?_
      · exact ⟨0, rfl, Nat.zero_le _, Below.refl _ _⟩
      · intro z' wy hI
        obtain ⟨j, h6, hj, hby⟩ := hI
        have hLy := hLx.trans (hby.mono hLx.size)
        have szy := hby.size
        have hB1y := hB1x.below hby hB1x.lt
        have hB2y := hB2x.below hby hB2x.lt
        have e1 : wy.cell? ⟨w.heap.size, 1, none⟩ = some (.slice a2 c.ins.length c2) := hB1y.cell rfl
        have e1' : wy.cell? ⟨w1.heap.size, 1, none⟩ = some (.slice a2' c.ins.length c2') := hB2y.cell rfl
        push_cast -dsimp [h6, e1]
        refine ⟨fun hlt2 => ?_, fun hge2 => hLy⟩
        obtain ⟨x, hex⟩ := lt_get (l := c.ins) (i := j) (by omega)
        have hx := hex.1
        have hget := (hiv.below hLy).get hx
        obtain ⟨b, o, rfl, hX, hcell⟩ := hget
        have hget' := (hiv'.below hLy).get hx
        obtain ⟨b', o', rfl, hX', hcell'⟩ := hget'
        refine wpL_draw (fun w' => ∀ a, w'.cell? a = wy.cell? a) mixed (by kernel_rfl) (fun _ => rfl) ?_
        have g0 : ∀ w'' : World, (∀ a, w''.cell? a = wy.cell? a) → cellsAt w'' ⟨b, o + j * 3, none⟩ 0 3 = some (encIn x) := fun w'' hC => cellsAt_of (encIn x) 0 (fun j u hu => by rw [hC]; simpa using hcell j u hu)
        have g0' : ∀ w'' : World, (∀ a, w''.cell? a = wy.cell? a) → cellsAt w'' ⟨b', o' + j * 3, none⟩ 0 3 = some (encIn x) := fun w'' hC => cellsAt_of (encIn x) 0 (fun j u hu => by rw [hC]; simpa using hcell' j u hu)
        have q0 : wy.drew.cell? ⟨w.heap.size, 1, none⟩ = some (.slice (some ⟨b, o, none⟩) c.ins.length c2) := e1
        have q0' : wy.drew.cell? ⟨w1.heap.size, 1, none⟩ = some (.slice (some ⟨b', o', none⟩) c.ins.length c2') := e1'
        have r0 := g0 wy.drew (fun _ => rfl)
        have r0' := g0' wy.drew (fun _ => rfl)
        unfold encIn at r0 r0'
        push_cast -dsimp [q0, q0', r0, r0']
        refine ⟨fun w'' hC => by rw [hC, e1]; exact rfl, ⟨by omega, by omega⟩, fun w'' hC => by rw [g0 w'' hC]; exact rfl, fun w'' hC => by rw [hC, e1']; exact rfl, ⟨by omega, by omega⟩, fun w'' hC => by rw [g0' w'' hC]; exact rfl, ?_⟩
        exact ⟨⟨by omega, by omega⟩, ⟨j + 1, rfl, by omega, hby.drew⟩, by rw [h6]; simp only [intOf]; omega⟩
theorem sub_get {cs xs : List Value} {o j : Nat} {u : Value} (hx : (cs.drop o).take xs.length = xs) (hu : xs[j]? = some u) : cs[o + j]? = some u := by
  rw [← hx] at hu
  have := (List.getElem?_eq_some_iff.1 hu).1
  rw [List.length_take] at this
  rw [List.getElem?_take_of_lt (by omega), List.getElem?_drop] at hu
  exact hu

theorem sameProgram_c (p : ProgP) (hl : ProgLen p) (X X' : Nat → Prop) (v v' : Value) (w : World) (hv : ProgV X w v p) (hv' : ProgV X' w v' p) :
    Fun Tryz.prog 20 [v, v'] w fun r w' => r = .bool true ∧ Below w.heap.size w w' := by
  obtain ⟨hl1, hl2⟩ := hl
  obtain ⟨rv, rfl, hr⟩ := hv
  obtain ⟨rv', rfl, hr'⟩ := hv'
  obtain ⟨a, c, rfl, hc⟩ := hr.shape
  obtain ⟨a', c', rfl, hc'⟩ := hr'.shape
  refine fun_of_vc Tryz.func20 rfl (by kernel_rfl) [4] rfl ?_
  push_cast -dsimp (maxSteps := 4000000) [Tryz.ntmps20]
  refine boxK_of ?_
  intro w1 hw1
  have hw1 : New w w1 24 [.slice a p.rules.length c, .bool p.els] := hw1
  push_cast -dsimp
  refine boxK_of ?_
  intro w2 hw2
  have hw2 : New w1 w2 24 [.slice a' p.rules.length c', .bool p.els] := hw2
  have sz1 := hw1.size
  have sz2 := hw2.size
  have hB1 : Blk w2 w.heap.size 24 [.slice a p.rules.length c, .bool p.els] := hw1.blk.below hw2.below (by omega)
  have hB2 : Blk w2 w1.heap.size 24 [.slice a' p.rules.length c', .bool p.els] := hw2.blk
  have hL2 : Below w.heap.size w w2 := hw1.below.trans (hw2.below.mono (by omega))
  have d0 : w2.cell? ⟨w.heap.size, 0, none⟩ = some (.slice a p.rules.length c) := hB1.cell rfl
  have d1 : w2.cell? ⟨w.heap.size, 1, none⟩ = some (.bool p.els) := hB1.cell rfl
  have d0' : w2.cell? ⟨w1.heap.size, 0, none⟩ = some (.slice a' p.rules.length c') := hB2.cell rfl
  have d1' : w2.cell? ⟨w1.heap.size, 1, none⟩ = some (.bool p.els) := hB2.cell rfl
  push_cast -dsimp [d0, d1, d0', d1', decide_false, beq_self_eq_true]
  refine wpL_loop [4, 5, 20, 21, 22, 23, 24, 25, 26, 27, 28, 29, 30, 31, 32, 33, 34, 35, 36, 37, 38, 39, 40, 41, 42, 43, 44, 45, 46, 47, 48, 49, 50, 51, 52, 53, 54, 55, 56, 57, 58, 59, 60, 61, 62, 63, 64, 65, 66, 67, 68, 69, 70, 71] (fun z wx => ∃ (i : Nat), z 5 = .int .i64 i ∧ i ≤ p.rules.length ∧ Below w2.heap.size w2 wx) (fun z _ => p.rules.length - (intOf (z 5)).toNat) ?_ ?_
  · exact ⟨0, rfl, Nat.zero_le _, Below.refl _ _⟩
  · intro z wx hI
    obtain ⟨i, h5, hi, hb⟩ := hI
    have hLx := hL2.trans (hb.mono hL2.size)
    have szx := hb.size
    have hB1x := hB1.below hb (by omega)
    have hB2x := hB2.below hb (by omega)
    have e0 : wx.cell? ⟨w.heap.size, 0, none⟩ = some (.slice a p.rules.length c) := hB1x.cell rfl
    push_cast -dsimp [h5, e0]
    refine ⟨fun hlt => ?_, fun hge => hLx⟩
    obtain ⟨r, hex⟩ := lt_get (l := p.rules) (i := i) (by omega)
    have hx := hex.1
    have hrm := hex.2.1
    have hget := Sl.getR (PairsV.below hr hLx) hx
    obtain ⟨b, o, cs, rfl, hX, hk, hcell, s1, i1, s2, i2, rfl, hc1, hc2⟩ := hget
    have hget' := Sl.getR (PairsV.below hr' hLx) hx
    obtain ⟨b', o', cs', rfl, hX', hk', hcell', s1', i1', s2', i2', rfl, hc1', hc2'⟩ := hget'
    have g0' : wx.cell? ⟨w1.heap.size, 0, none⟩ = some (.slice (some ⟨b', o', none⟩) p.rules.length c') := hB2x.cell rfl
    refine wpL_draw (fun w' => Kept (fun _ => False) wx w') mixed (by kernel_rfl) (Kept.refl _ _).drew ?_
    have kd : Kept (fun _ => False) wx wx.drew := (Kept.refl _ _).drew
    have q0 : ∀ w'' : World, Kept (fun _ => False) wx w'' → w''.cell? ⟨b, o + i * 5, none⟩ = some (.bool r.brk) := fun w'' h => h.cell (by simpa using hcell 0 _ rfl) id
    have q0' : ∀ w'' : World, Kept (fun _ => False) wx w'' → w''.cell? ⟨b', o' + i * 5, none⟩ = some (.bool r.brk) := fun w'' h => h.cell (by simpa using hcell' 0 _ rfl) id
    have q1 : ∀ w'' : World, Kept (fun _ => False) wx w'' → cellsAt w'' ⟨b, o + i * 5 + 1, none⟩ 0 2 = some [s1, i1] := fun w'' h => cellsAt_of [s1, i1] 0 (fun j u hu => h.cell (by
      have := hcell (1 + j) u (sub_get (xs := [s1, i1]) rfl hu)
      simpa [Nat.add_assoc] using this) id)
    have q1' : ∀ w'' : World, Kept (fun _ => False) wx w'' → cellsAt w'' ⟨b', o' + i * 5 + 1, none⟩ 0 2 = some [s1', i1'] := fun w'' h => cellsAt_of [s1', i1'] 0 (fun j u hu => h.cell (by
      have := hcell' (1 + j) u (sub_get (xs := [s1', i1']) rfl hu)
      simpa [Nat.add_assoc] using this) id)
    have q2 : ∀ w'' : World, Kept (fun _ => False) wx w'' → cellsAt w'' ⟨b, o + i * 5 + 3, none⟩ 0 2 = some [s2, i2] := fun w'' h => cellsAt_of [s2, i2] 0 (fun j u hu => h.cell (by
      have := hcell (3 + j) u (sub_get (xs := [s2, i2]) rfl hu)
      simpa [Nat.add_assoc] using this) id)
    have q2' : ∀ w'' : World, Kept (fun _ => False) wx w'' → cellsAt w'' ⟨b', o' + i * 5 + 3, none⟩ 0 2 = some [s2', i2'] := fun w'' h => cellsAt_of [s2', i2'] 0 (fun j u hu => h.cell (by
      have := hcell' (3 + j) u (sub_get (xs := [s2', i2']) rfl hu)
      simpa [Nat.add_assoc] using this) id)
    have m0 := kd.cell e0 id
    have m0' := kd.cell g0' id
    have n0 := q0 _ kd
    have n0' := q0' _ kd
    have n1 := q1 _ kd
    have n1' := q1' _ kd
    push_cast -dsimp [m0, m0', n0, n0', n1, n1', beq_self_eq_true]
    have E0 : ∀ w'' : World, Kept (fun _ => False) wx w'' → w''.cell? ⟨w.heap.size, 0, none⟩ = some (.slice (some ⟨b, o, none⟩) p.rules.length c) := fun w'' h => h.cell e0 id
    have G0 : ∀ w'' : World, Kept (fun _ => False) wx w'' → w''.cell? ⟨w1.heap.size, 0, none⟩ = some (.slice (some ⟨b', o', none⟩) p.rules.length c') := fun w'' h => h.cell g0' id
    refine ⟨fun w'' hC => by rw [E0 w'' hC]; exact rfl, ⟨by omega, by omega⟩, fun w'' hC => by rw [q0 w'' hC]; exact rfl, fun w'' hC => by rw [G0 w'' hC]; exact rfl, ⟨by omega, by omega⟩, fun w'' hC => by rw [q0' w'' hC]; exact rfl,
      fun w'' hC => by rw [E0 w'' hC]; exact rfl, ⟨by omega, by omega⟩, fun w'' hC => by rw [q1 w'' hC]; exact rfl, fun w'' hC => by rw [G0 w'' hC]; exact rfl, ⟨by omega, by omega⟩, fun w'' hC => by rw [q1' w'' hC]; exact rfl, ?_⟩
    have hbd : Below wx.heap.size wx wx.drew := (Below.refl _ _).drew
    refine callK_of (sameCode_c r.before (hl2 r hrm).1 X X' _ _ wx.drew (hc1.below hbd) (hc1'.below hbd)) ?_
    rintro _ w3 ⟨rfl, hb3⟩
    have hb3' : Below wx.heap.size wx w3 := hbd.trans hb3
    have k3 : Kept (fun _ => False) wx w3 := Kept.of_below hb3' (fun k hk hl => by omega)
    refine ⟨k3, ?_⟩
    have M0 := E0 _ k3
    have M0' := G0 _ k3
    have M2 := q2 _ k3
    have M2' := q2' _ k3
    push_cast -dsimp [M0, M0', M2, M2']
    refine ⟨fun w'' hC => by rw [E0 w'' hC]; exact rfl, ⟨by omega, by omega⟩, fun w'' hC => by rw [q2 w'' hC]; exact rfl, fun w'' hC => by rw [G0 w'' hC]; exact rfl, ⟨by omega, by omega⟩, fun w'' hC => by rw [q2' w'' hC]; exact rfl, ?_⟩
    refine callK_of (sameCode_c r.after (hl2 r hrm).2 X X' _ _ w3 (hc2.below hb3') (hc2'.below hb3')) ?_
    rintro _ w4 ⟨rfl, hb4⟩
    have hb4' : Below wx.heap.size wx w4 := hb3'.trans (hb4.mono hb3'.size)
    refine ⟨Kept.of_below hb4' (fun k hk hl => by omega), ?_⟩
    push_cast -dsimp
    exact ⟨⟨by omega, by omega⟩, ⟨i + 1, rfl, by omega, hb.trans (hb4'.mono szx)⟩, by rw [h5]; simp only [intOf]; omega⟩

theorem lsmall_c (c : CodeP) (X : Nat → Prop) (v : Value) (w : World) (hv : CodeV X w v c) :
    Fun Tryz.prog 42 [v] w fun r w' => r = .bool (smallP c) ∧ Below w.heap.size w w' := by
  obtain ⟨sv, iv, rfl, hsv, hiv⟩ := hv
  obtain ⟨a1, c1, rfl, hc1⟩ := hsv.shape
  obtain ⟨a2, c2, rfl, hc2⟩ := hiv.shape
  have hno : ¬ (c.sets.length ≤ 20 ∧ c.ins.length ≤ 60 ∧ ∀ s ∈ c.sets, s.length ≤ 20) → Value.bool false = Value.bool (smallP c) := fun h => by
    cases hs : smallP c with
    | false => rfl
    | true =>
      unfold smallP at hs
      simp only [Bool.and_eq_true, decide_eq_true_eq, List.all_eq_true] at hs
      exact absurd ⟨hs.1.1, hs.1.2, hs.2⟩ h
  refine fun_of_vc Tryz.func42 rfl (by kernel_rfl) [2] rfl ?_
  push_cast -dsimp (maxSteps := 4000000) [Tryz.ntmps42]
  refine boxK_of ?_
  intro w1 hw1
  have hw1 : New w w1 43 [.slice a1 c.sets.length c1, .slice a2 c.ins.length c2] := hw1
  have sz1 := hw1.size
  have d0 : w1.cell? ⟨w.heap.size, 0, none⟩ = some (.slice a1 c.sets.length c1) := hw1.cell rfl
  have d1 : w1.cell? ⟨w.heap.size, 1, none⟩ = some (.slice a2 c.ins.length c2) := hw1.cell rfl
  push_cast -dsimp [d0, d1]
  refine ⟨fun h20 => ⟨fun h60 => ⟨hno (by omega), hw1.below⟩, fun h60 => ?_⟩, fun h20 => ⟨hno (by omega), hw1.below⟩⟩
  refine wpL_loop [2, 3, 14, 15, 16, 17, 18, 19, 20, 21, 22, 23, 24, 25, 26, 27] (fun z wx => ∃ (i : Nat), z 3 = .int .i64 i ∧ i ≤ c.sets.length ∧ (∀ s ∈ c.sets.take i, s.length ≤ 20) ∧ wx = w1) (fun z _ => c.sets.length - (intOf (z 3)).toNat) ?_ ?_
  · exact ⟨0, rfl, Nat.zero_le _, by simp, rfl⟩
  · intro z wx hI
    obtain ⟨i, h3, hi, hok, hw⟩ := hI
    subst hw
    push_cast -dsimp [h3, d0]
    refine ⟨fun hlt => ?_, fun hge => ?_⟩
    · obtain ⟨s, hex⟩ := lt_get (l := c.sets) (i := i) (by omega)
      have hsm := hex.2.1
      have ht := hex.2.2.2
      have hget := Sl.getR (SetsV.below hsv hw1.below) hex.1
      obtain ⟨b, o, cs, rfl, hX, hk, hcell, u, rfl, hu⟩ := hget
      have hsh := hu.shape
      obtain ⟨a3, c3, rfl, hc3⟩ := hsh
      have cu : wx.cell? ⟨b, o + i, none⟩ = some (.slice a3 s.length c3) := by simpa using hcell 0 _ rfl
      push_cast -dsimp [d0, cu]
      refine ⟨⟨by omega, by omega⟩, fun hbig => ⟨hno (fun h => by have := h.2.2 s hsm; omega), hw1.below⟩, fun hle => ?_⟩
      refine ⟨⟨by omega, by omega⟩, ⟨i + 1, rfl, by omega, ?_⟩, by rw [h3]; simp only [intOf]; omega⟩
      intro y hy
      rw [ht, List.mem_append, List.mem_singleton] at hy
      rcases hy with hy | rfl
      · exact hok y hy
      · omega
    · rw [List.take_of_length_le (by omega)] at hok
      refine ⟨?_, hw1.below⟩
      congr 1
      unfold smallP
      rw [decide_eq_true (by omega), Bool.true_and]
      exact (List.all_eq_true.2 (fun s hs => decide_eq_true (hok s hs))).symm

theorem lsmallProgram_c (p : ProgP) (X : Nat → Prop) (v : Value) (w : World) (hv : ProgV X w v p) :
    Fun Tryz.prog 15 [v] w fun u w' => u = .bool (smallProgP p) ∧ Below w.heap.size w w' := by
  obtain ⟨rv, rfl, hr⟩ := hv
  obtain ⟨a, c, rfl, hc⟩ := hr.shape
  have hno : ¬ (p.rules.length ≤ 25 ∧ ∀ r ∈ p.rules, smallP r.before = true ∧ smallP r.after = true) → Value.bool false = Value.bool (smallProgP p) := fun h => by
    cases hs : smallProgP p with
    | false => rfl
    | true =>
      unfold smallProgP at hs
      simp only [Bool.and_eq_true, decide_eq_true_eq, List.all_eq_true] at hs
      exact absurd hs h
  refine fun_of_vc Tryz.func15 rfl (by kernel_rfl) [2] rfl ?_
  push_cast -dsimp (maxSteps := 4000000) [Tryz.ntmps15]
  refine boxK_of ?_
  intro w1 hw1
  have hw1 : New w w1 24 [.slice a p.rules.length c, .bool p.els] := hw1
  have sz1 := hw1.size
  have d0 : w1.cell? ⟨w.heap.size, 0, none⟩ = some (.slice a p.rules.length c) := hw1.cell rfl
  push_cast -dsimp [d0]
  refine ⟨fun h25 => ⟨hno (by omega), hw1.below⟩, fun h25 => ?_⟩
  refine wpL_loop [2, 3, 8, 9, 10, 11, 12, 13, 14, 15, 16, 17, 18, 19, 20, 21, 22, 23, 24, 25, 26, 27, 28, 29, 30, 31, 32] (fun z wx => ∃ (i : Nat), z 3 = .int .i64 i ∧ i ≤ p.rules.length ∧ (∀ r ∈ p.rules.take i, smallP r.before = true ∧ smallP r.after = true) ∧ Below w1.heap.size w1 wx) (fun z _ => p.rules.length - (intOf (z 3)).toNat) ?_ ?_
  · exact ⟨0, rfl, Nat.zero_le _, by simp, Below.refl _ _⟩
  · intro z wx hI
    obtain ⟨i, h3, hi, hok, hb⟩ := hI
    have hLx := hw1.below.trans (hb.mono (by omega))
    have szx := hb.size
    have hBx := hw1.blk.below hb (by omega)
    have e0 : wx.cell? ⟨w.heap.size, 0, none⟩ = some (.slice a p.rules.length c) := hBx.cell rfl
    push_cast -dsimp [h3, e0]
    refine ⟨fun hlt => ?_, fun hge => ?_⟩
    · obtain ⟨r, hex⟩ := lt_get (l := p.rules) (i := i) (by omega)
      have hrm := hex.2.1
      have ht := hex.2.2.2
      have hget := Sl.getR (PairsV.below hr hLx) hex.1
      obtain ⟨b, o, cs, rfl, hX, hk, hcell, s1, i1, s2, i2, rfl, hc1, hc2⟩ := hget
      have q1 : cellsAt wx ⟨b, o + i * 5 + 1, none⟩ 0 2 = some [s1, i1] := cellsAt_of [s1, i1] 0 (fun j u hu => by
        have := hcell (1 + j) u (sub_get (xs := [s1, i1]) rfl hu)
        simpa [Nat.add_assoc] using this)
      push_cast -dsimp [e0, q1]
      refine ⟨⟨by omega, by omega⟩, ?_⟩
      refine callK_of (lsmall_c r.before X _ wx hc1) ?_
      rintro _ w2 ⟨rfl, hb2⟩
      have hb12 := hb.trans (hb2.mono szx)
      have hL2 := hLx.trans (hb2.mono hLx.size)
      have e2 : w2.cell? ⟨w.heap.size, 0, none⟩ = some (.slice (some ⟨b, o, none⟩) p.rules.length c) := (hBx.below hb2 hBx.lt).cell rfl
      have q2 : cellsAt w2 ⟨b, o + i * 5 + 3, none⟩ 0 2 = some [s2, i2] := cellsAt_of [s2, i2] 0 (fun j u hu => by
        have h0 := hcell (3 + j) u (sub_get (xs := [s2, i2]) rfl hu)
        have := (hb2.cell (World.block_lt_of_cell? wx _ h0)).trans h0
        simpa [Nat.add_assoc] using this)
      cases hs1 : smallP r.before with
      | false =>
        push_cast -dsimp
        exact ⟨hno (fun h => by have := (h.2 r hrm).1; rw [hs1] at this; cases this), hL2⟩
      | true =>
        push_cast -dsimp [e2, q2]
        refine ⟨⟨by omega, by omega⟩, ?_⟩
        refine callK_of (lsmall_c r.after X _ w2 (hc2.below hb2)) ?_
        rintro _ w3 ⟨rfl, hb3⟩
        cases hs2 : smallP r.after with
        | false =>
          push_cast -dsimp
          exact ⟨hno (fun h => by have := (h.2 r hrm).2; rw [hs2] at this; cases this), hL2.trans (hb3.mono hL2.size)⟩
        | true =>
          push_cast -dsimp
          refine ⟨⟨by omega, by omega⟩, ⟨i + 1, rfl, by omega, ?_, hb12.trans (hb3.mono hb12.size)⟩, by rw [h3]; simp only [intOf]; omega⟩
          intro y hy
          rw [ht, List.mem_append, List.mem_singleton] at hy
          rcases hy with hy | rfl
          · exact hok y hy
          · exact ⟨hs1, hs2⟩
    · rw [List.take_of_length_le (by omega)] at hok
      refine ⟨?_, hLx⟩
      congr 1
      unfold smallProgP
      rw [decide_eq_true (by omega), Bool.true_and]
      exact (List.all_eq_true.2 (fun r hr => by rw [(hok r hr).1, (hok r hr).2]; rfl)).symm
end Go.Proofs.YtiofleijieepgaaGreatDoor
end
section
/- AsmReads returns true. -/
namespace Go.Proofs.YtiofleijieepgaaGreatDoor
open Go.Vc Go.Proofs Go.RowKit Cae
set_option maxRecDepth 100000
set_option linter.unusedSimpArgs false
set_option linter.unusedVariables false
attribute [local irreducible] wpL callK valK unitK runK Fun Sl Vc.Own vc vcOps opK pureK
set_option maxHeartbeats 8000000
theorem parseT_len {s : List UInt8} {p : ProgP} (h : parseA s = .ok p) (hs : s.length ≤ 999990) : ProgLen p := by
  have hL := linesA_len s
  unfold parseA at h
  cases hb : bodyA (linesA s) with
  | error e => rw [hb] at h; cases h
  | ok q =>
    rw [hb] at h
    simp only at h
    split at h
    · split at h
      · cases h
        exact fewP_len (bodyA_few hb) (by omega)
      · cases h
    · cases h
/-- Both answer alike. -/
theorem parse_both {B : Nat} {s : List UInt8} {r : Value} {w : World} (h : ParseRA B s r w) (hs : s.length ≤ 999990) : ∃ (q : ProgP) (x : Option Addr) (n k : Nat) (els : Bool) (e p : Int), r = .tuple #[.agg #[.slice x n k, .bool els], .agg #[.int .i64 e, .int .i64 p]] ∧ ProgLen q ∧ ProgV (fun _ => False) w (.agg #[.slice x n k, .bool els]) q ∧
    ∀ B' r' w', ParseA B' s r' w' → ∃ (x' : Option Addr) (n' k' : Nat) (els' : Bool) (ev : Value), r' = .tuple #[.agg #[.slice x' n' k', .bool els'], ev] ∧ ProgV (fun _ => False) w' (.agg #[.slice x' n' k', .bool els']) q ∧ Errs w' ev e p := by
  have hnil : ∀ w', ProgV (fun _ => False) w' (.agg #[.slice none 0 0, .bool false]) ⟨[], false⟩ := fun w' => ⟨_, rfl, Sl.nil _ _ _ _ _ _⟩
  have hln : ProgLen ⟨[], false⟩ := ⟨by show 0 < _; omega, fun r hr => by cases hr⟩
  have key : ∀ {B w v q}, ProgV (fun b => b < B) w v q → ∃ (x : Option Addr) (n k : Nat) (els : Bool), v = .agg #[.slice x n k, .bool els] ∧ ProgV (fun _ => False) w v q := fun h => by
    have h0 := h
    obtain ⟨rv, rfl, hr⟩ := h
    obtain ⟨a, c, rfl, _⟩ := hr.shape
    exact ⟨_, _, _, _, rfl, h0.mono (fun _ _ _ => rfl) (fun _ hb => hb.elim)⟩
  unfold ParseRA at h
  unfold ParseA
  cases hp : parseA s with
  | ok q =>
    rw [hp] at h
    obtain ⟨v, rfl, hv⟩ := h
    obtain ⟨x, n, k, els, rfl, hv'⟩ := key hv
    refine ⟨q, x, n, k, els, _, _, rfl, parseT_len hp hs, hv', fun B' r' w' h' => ?_⟩
    obtain ⟨v', rfl, hv2⟩ := h'
    obtain ⟨x', n', k', els', rfl, hv2'⟩ := key hv2
    exact ⟨x', n', k', els', _, rfl, hv2', .inl ⟨rfl, rfl, rfl⟩⟩
  | form m =>
    rw [hp] at h
    have h : r = _ := h
    subst h
    refine ⟨⟨[], false⟩, _, _, _, _, _, _, rfl, hln, hnil w, fun B' r' w' h' => ?_⟩
    obtain ⟨b, _, rfl, hB⟩ := h'
    exact ⟨_, _, _, _, _, rfl, hnil w', .inr (.at_ b 3 m (hB.cell rfl) (hB.cell rfl))⟩
  | arg =>
    rw [hp] at h
    have h : r = _ := h
    subst h
    refine ⟨⟨[], false⟩, _, _, _, _, _, _, rfl, hln, hnil w, fun B' r' w' h' => ?_⟩
    have h' : r' = _ := h'
    subst h'
    exact ⟨_, _, _, _, _, rfl, hnil w', .inr (.bare 1)⟩
theorem asmReads_c (p : ProgP) (s : List UInt8) (v : Value) (w : World) (hv : Vs w) (ht : Tv w) (hE : ErrVar w) (hf : w.cell? ⟨0, 0, none⟩ = some (.int .i64 0) ∧ w.cell? ⟨0, 1, none⟩ = some (.int .i64 (-1))) (hg : 14 ≤ w.heap.size) (hp : ProgV (fun _ => False) w v p) :
    Fun Tryz.prog 5 [v, str s] w fun r w' => r = .bool true ∧ Below w.heap.size w w' := by
  have hpv0 := hp
  obtain ⟨rv, rfl, hr⟩ := hp
  obtain ⟨a, c, rfl, hc⟩ := hr.shape
  refine fun_of_wL Tryz.func5 rfl (by kernel_rfl) [4] rfl ?_
  push_cast -dsimp (maxSteps := 4000000) [Tryz.ntmps5]
  refine wpL_seqV ?_
  push_cast -dsimp
  refine boxK_of ?_
  intro w1 hw1
  have z1 := hw1.size
  have P1 : Blk w1 w.heap.size 24 [.slice a p.rules.length c, .bool p.els] := hw1.blk
  have d1 : cellsAt w1 ⟨w.heap.size, 0, none⟩ 0 2 = some [.slice a p.rules.length c, .bool p.els] := P1.cellsAt
  push_cast -dsimp
  refine wpL_seqV ?_
  push_cast -dsimp [d1]
  refine callK_of (lsmallProgram_c p _ _ w1 (hpv0.below hw1.below)) ?_
  rintro _ w2 ⟨rfl, b2⟩
  have z2 := b2.size
  have bw2 := hw1.below.trans (b2.mono (by omega))
  have P2 := P1.below b2 P1.lt
  cases hsm : smallProgP p with
  | false =>
    push_cast -dsimp
    exact bw2
  | true =>
    have hl := smallProg_len hsm
    have hlen : progRight p = true → (progT p).length ≤ 1000000000 := fun h => by have := smallProg_text hsm h; omega
    push_cast -dsimp
    refine ⟨fun hbig => bw2, fun hno => ?_⟩
    have d2 : cellsAt w2 ⟨w.heap.size, 0, none⟩ 0 2 = some [.slice a p.rules.length c, .bool p.els] := P2.cellsAt
    have hv2 := hv.below bw2 hg
    refine wpL_seqV ?_
    push_cast -dsimp [d2]
    refine callK_of (programText_c p hl hlen _ _ w2 (hpv0.below bw2) hv2.d hv2.p (by omega)) ?_
    rintro _ w3 ⟨hr3, b3⟩
    have z3 := b3.size
    have bw3 := bw2.trans (b3.mono (by omega))
    have P3 := P2.below b3 P2.lt
    have d3 : cellsAt w3 ⟨w.heap.size, 0, none⟩ 0 2 = some [.slice a p.rules.length c, .bool p.els] := P3.cellsAt
    have hv3 := hv.below bw3 hg
    have hex : ∃ (T : List UInt8) (e : Int) (ev : Value), (if progRight p = true then Value.tuple #[str (progT p), .int .i64 0] else .tuple #[str [], .int .i64 1]) = .tuple #[str T, .int .i64 e] ∧
        (if progRight p = true then Value.tuple #[str (progT p), .nilIface] else .tuple #[str [], .iface 47 (.int .i64 1)]) = .tuple #[str T, ev] ∧ ∀ w', Errs w' ev e (-1) := by
      cases progRight p with
      | true => exact ⟨_, _, _, rfl, rfl, fun _ => .inl ⟨rfl, rfl, rfl⟩⟩
      | false => exact ⟨_, _, _, rfl, rfl, fun _ => .inr (.bare 1)⟩
    obtain ⟨T, e, ev, h1, h2, hEr⟩ := hex
    rw [h1] at hr3
    subst hr3
    push_cast -dsimp
    refine wpL_seqV ?_
    push_cast -dsimp [d3]
    refine callK_of (asmPrint_c p hl hlen _ _ w3 (hpv0.below bw3) hv3.d hv3.p hv3.n (by omega)) ?_
    rintro _ w4 ⟨hr4, b4⟩
    have z4 := b4.size
    have bw4 := bw3.trans (b4.mono (by omega))
    rw [h2] at hr4
    subst hr4
    push_cast -dsimp
    refine wpL_seqV ?_
    push_cast -dsimp
    refine callK_of (bare_c ev e (-1) e w4 (keptErr bw4 hE) (hEr w4)) ?_
    rintro _ w5 ⟨rfl, b5⟩
    have z5 := b5.size
    have bw5 := bw4.trans (b5.mono (by omega))
    rw [decide_eq_true (⟨rfl, rfl⟩ : e = e ∧ (-1 : Int) = -1)]
    push_cast -dsimp
    refine wpL_seqV ?_
    push_cast -dsimp
    have ws : WsN w5.heap.size w5 := fun w' h => by
      have hb := bw5.trans (h.mono bw5.size)
      have v := hv.below hb hg
      exact ⟨v.d, v.e, v.p, v.m, ht.below hb⟩
    refine callK_of (parseR_c s (by omega) w5 ws ⟨(bw5.cell (Nat.lt_of_lt_of_le (by decide) hg)).trans hf.1, (bw5.cell (Nat.lt_of_lt_of_le (by decide) hg)).trans hf.2⟩ (by omega)) ?_
    rintro r6 w6 ⟨hr6, b6⟩
    have z6 := b6.size
    have bw6 := bw5.trans (b6.mono bw5.size)
    obtain ⟨q, x, n, k, els, fe, fp, rfl, hql, hqv, hboth⟩ := parse_both hr6 (by omega)
    push_cast -dsimp
    refine allocK (z := [.slice none 0 0, .bool false]) (by kernel_rfl) ?_
    intro w7 hw7
    have z7 := hw7.size
    push_cast -dsimp
    refine allocK (z := [.int .i64 0, .int .i64 0]) (by kernel_rfl) ?_
    intro w8 hw8
    have z8 := hw8.size
    push_cast -dsimp
    refine storeAgg (xt := 24) (n := 2) (by kernel_rfl) (hw7.blk.below hw8.below (by omega)) rfl (by simp) (by simp [Value.oneCell']) ?_
    intro w9 hw9
    have z9 := hw9.size
    push_cast -dsimp
    refine storeAgg (xt := 52) (n := 2) (by kernel_rfl) (hw8.blk.kept hw9.kept (by omega)) rfl (by simp) (by simp [Value.oneCell']) ?_
    intro wA hwA
    have zA := hwA.size
    have QA : Blk wA w6.heap.size 24 [.slice x n k, .bool els] := hw9.blk.kept hwA.kept (by omega)
    have FA : Blk wA w7.heap.size 52 [.int .i64 fe, .int .i64 fp] := hwA.blk
    have b6A : Below w6.heap.size w6 wA := ((hw7.below.trans (hw8.below.mono (by omega))).trans (hw9.kept.below (by omega) (fun i h => by omega))).trans (hwA.kept.below (by omega) (fun i h => by omega))
    have bwA := bw6.trans (b6A.mono bw6.size)
    have zwA := bwA.size
    push_cast -dsimp
    refine wpL_seqV ?_
    push_cast -dsimp
    refine callK_of (parseA_c s (by omega) wA (hv.below bwA hg) (by omega)) ?_
    rintro rb wB ⟨hrb, bB⟩
    have zB := bB.size
    have bwB := bwA.trans (bB.mono bwA.size)
    obtain ⟨x', n', k', els', ev2, rfl, hqv2, hEr2⟩ := hboth _ _ _ hrb
    push_cast -dsimp
    refine allocK (z := [.slice none 0 0, .bool false]) (by kernel_rfl) ?_
    intro wC hwC
    have zC := hwC.size
    push_cast -dsimp
    refine storeAgg (xt := 24) (n := 2) (by kernel_rfl) hwC.blk rfl (by simp) (by simp [Value.oneCell']) ?_
    intro wD hwD
    have zD := hwD.size
    have QD : Blk wD wB.heap.size 24 [.slice x' n' k', .bool els'] := hwD.blk
    have bBD : Below wB.heap.size wB wD := hwC.below.trans (hwD.kept.below (by omega) (fun i h => by omega))
    have bwD := bwB.trans (bBD.mono bwB.size)
    have bAD := bB.trans (bBD.mono zB)
    have FD := FA.below bAD FA.lt
    have QD2 := QA.below bAD QA.lt
    have fD : cellsAt wD ⟨w7.heap.size, 0, none⟩ 0 2 = some [.int .i64 fe, .int .i64 fp] := FD.cellsAt
    push_cast -dsimp
    refine wpL_seqV ?_
    push_cast -dsimp [fD]
    refine callK_of (is_c ev2 fe fp fe fp wD (keptErr bwD hE) (hEr2.below bBD)) ?_
    rintro _ wE ⟨rfl, bE⟩
    have zE := bE.size
    have bwE := bwD.trans (bE.mono bwD.size)
    have bBE := bBD.trans (bE.mono bBD.size)
    have bAE := bAD.trans (bE.mono bAD.size)
    have q1 : cellsAt wE ⟨w6.heap.size, 0, none⟩ 0 2 = some [.slice x n k, .bool els] := (QD2.below bE QD2.lt).cellsAt
    have q2 : cellsAt wE ⟨wB.heap.size, 0, none⟩ 0 2 = some [.slice x' n' k', .bool els'] := (QD.below bE QD.lt).cellsAt
    rw [decide_eq_true (⟨rfl, rfl⟩ : fe = fe ∧ fp = fp)]
    push_cast -dsimp [q1, q2]
    refine callK_of (sameProgram_c q hql _ _ _ _ wE (hqv2.below bBE) ((hqv.below b6A).below bAE)) ?_
    rintro _ wF ⟨rfl, bF⟩
    push_cast -dsimp
    refine wpL_of ?_
    push_cast -dsimp
    exact bwE.trans (bF.mono bwE.size)
end Go.Proofs.YtiofleijieepgaaGreatDoor
end
