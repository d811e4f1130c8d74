/- Texts of this claim, merged: Rrc, IsB, Pok, Sam, Sam2, Prl4, PatN, Rfo, Rq1, Rq2. -/
import Derived.Test.YtphebgkbkdjjoaaGreatDoorM10
import Derived.Test.YtphebgkbkdjjoaaGreatDoorM3
import Derived.Test.YtphebgkbkdjjoaaGreatDoorM7
import Derived.Test.YtphebgkbkdjjoaaGreatDoorM6
import Derived.Test.YtphebgkbkdjjoaaGreatDoorM5
import Derived.Test.YtphebgkbkdjjoaaGreatDoorM4
import Derived.Shelf.Strconv.Itoa4
section
/- The reference's Parse. -/
namespace Go.Proofs.YtphebgkbkdjjoaaGreatDoor
open Go.Vc Go.Proofs Go.RowKit Cae
set_option maxRecDepth 100000
set_option linter.unusedSimpArgs false
set_option linter.unusedVariables false
attribute [local irreducible] wpL callK valK unitK runK Fun Sl Vc.Own vc vcOps opK pureK
set_option maxHeartbeats 40000000
theorem refParse_c (s : List UInt8) (hs : s.length ≤ 1000000) (w : World) (hg : Gr w) : Fun Tryz.prog 6 [str s] w fun r w' => RParsR w s r w' ∧ Below w.heap.size w w' := by
  refine fun_of_wLC Tryz.func6 rfl (by kernel_rfl) [.cell 2 28, .cell 3 31] rfl ?_
  push_cast -dsimp (maxSteps := 4000000) [Tryz.ntmps6]
  refine wpL_seqV ?_
  push_cast -dsimp
  refine allocK (z := [.slice none 0 0, .slice none 0 0, .bool false]) (by kernel_rfl) ?_
  intro w1 hw1
  have R1 : Blk w1 w.heap.size 28 [.slice none 0 0, .slice none 0 0, .bool false] := hw1.blk
  have z1 := hw1.size
  have b1 := hw1.below
  push_cast -dsimp
  refine allocK (z := [.int .i64 0, .int .i64 0]) (by kernel_rfl) ?_
  intro w2 hw2
  have E2 : Blk w2 w1.heap.size 31 [.int .i64 0, .int .i64 0] := hw2.blk
  have R2 := R1.below hw2.below (by omega)
  have z2 := hw2.size
  have b2 := b1.trans (hw2.below.mono (by omega))
  have hge : ∃ eb, eb = w1.heap.size := ⟨_, rfl⟩
  obtain ⟨eb, heb⟩ := hge
  rw [← heb] at E2
  push_cast -dsimp [← heb]
  refine wpL_seqV ?_
  push_cast -dsimp
  have hg2 := hg.below b2
  refine callK_of (rtokens_c s hs w2 hg2) ?_
  rintro r w3 ⟨hT, b3⟩
  have R3 := R2.below b3 (by omega)
  have E3 := E2.below b3 (by omega)
  have z3 := b3.size
  have hb3 := b2.trans (b3.mono (by omega))
  have hg3 := hg.below hb3
  unfold RTokR at hT
  rcases hT with ⟨l, v, htok, rfl, hO⟩ | ⟨en, pos, htok, hne, rfl⟩
  · have hsh := hO.slice
    obtain ⟨va, vc, rfl⟩ := hsh
    push_cast -dsimp
    refine allocK (z := [.int .i64 0, .int .i64 0]) (by kernel_rfl) ?_
    intro w4 hw4
    have z4 := hw4.size
    push_cast -dsimp
    refine storeAgg (xt := 31) (n := 2) (by kernel_rfl) hw4.blk rfl (by decide) (by simp; exact ⟨rfl, rfl⟩) ?_
    intro w5 hw5
    have F5 : Blk w5 w3.heap.size 31 [.int .i64 0, .int .i64 (-1)] := hw5.blk
    have z5 := hw5.size
    have b35 : Below w3.heap.size w3 w5 := hw4.below.trans (hw5.kept.below (B := w3.heap.size) (by omega) (fun i h => by omega))
    have hg5 := hg.below (hb3.trans (b35.mono hb3.size))
    have d5 : cellsAt w5 ⟨w3.heap.size, 0, none⟩ 0 2 = some [.int .i64 0, .int .i64 (-1)] := F5.cellsAt
    have g5 := fault_agg hg5
    push_cast -dsimp
    refine wpL_seqV ?_
    push_cast -dsimp [d5, g5]
    refine wpL_seqV ?_
    push_cast -dsimp [g5]
    refine boxK_of ?_
    intro w6 hw6
    have z6 := hw6.size
    have b56 := hw6.below
    have hgr : ∃ rb, rb = w5.heap.size := ⟨_, rfl⟩
    obtain ⟨rb, hrb⟩ := hgr
    rw [← hrb]
    have P6 : Blk w6 rb 52 (.slice va l.length vc :: badV none) := by rw [hrb]; exact hw6.blk
    push_cast -dsimp
    refine wpL_seqV ?_
    push_cast -dsimp
    refine allocK (z := [.slice none 0 0, .slice none 0 0, .bool false]) (by kernel_rfl) ?_
    intro w7 hw7
    have z7 := hw7.size
    have hgo : ∃ ob, ob = w6.heap.size := ⟨_, rfl⟩
    obtain ⟨ob, hob⟩ := hgo
    rw [← hob]
    push_cast -dsimp
    have O7 : Blk w7 ob 28 [.slice none 0 0, .slice none 0 0, .bool false] := by rw [hob]; exact hw7.blk
    refine storeAgg (xt := 28) (n := 3) (by kernel_rfl) O7 rfl (by decide) (by simp; exact ⟨rfl, rfl⟩) ?_
    intro w8 hw8
    have z8 := hw8.size
    have O8 : Blk w8 ob 28 [.slice none 0 0, .slice none 0 0, .bool true] := hw8.blk
    have b58 : Below w5.heap.size w5 w8 := (b56.trans (hw7.below.mono (by omega))).trans (hw8.kept.below (B := w5.heap.size) (by omega) (fun i h => by omega))
    have b38 := b35.trans (b58.mono (by omega))
    have hb8 := hb3.trans (b38.mono hb3.size)
    have R8 := R3.below b38 (by omega)
    have E8 := E3.below b38 (by omega)
    have htl := tl_of hs htok
    have htm := tm_of htok
    have S8 : RS rb (rb + 1) w8 l none := by
      refine ⟨⟨_, P6.below ((hw7.below.trans (hw8.kept.below (B := w6.heap.size) (by omega) (fun i h => by omega)))) (by omega), ?_⟩, by omega, by omega, htl, htm, ⟨w, hg, by omega, hb8⟩, fun e h => by cases h⟩
      exact (((Sl.top (by decide) hO.sl).below b38).weaken (fun i h => by omega))
    have hX : ∃ X, X = fileP l := ⟨_, rfl⟩
    obtain ⟨X, hX⟩ := hX
    push_cast -dsimp
    refine wpL_seqW (wpL_blockW ?_)
    refine wpL_cutB [8, 25, 26, 27, 28, 29, 30, 31, 32, 33, 34, 35, 36, 37, 38, 39, 40, 41, 42, 43, 44, 45, 46, 47, 48, 49, 50, 51, 52, 53, 54, 55, 56, 57, 58, 59, 60] (fun z w' => ∃ bad l1 cv cq, ClsI X rb (rb + 1) ob w' cv cq bad l1 (fun acc => Cae.pb (ruleLoop 1000 []) (fun rs => Cae.pb elseP fun b => pr ⟨acc, rs, b⟩) l1) ∧ Kept (fun i => i = rb ∨ i = ob) w8 w') ?_ ?_
    · refine wpL_loopW [8, 25, 26, 27, 28, 29, 30, 31, 32, 33, 34, 35, 36, 37, 38, 39, 40, 41, 42, 43, 44, 45, 46, 47, 48, 49, 50, 51, 52, 53, 54, 55, 56, 57, 58, 59, 60] (fun z w' => ∃ bad l1 cv cq m, ClsI X rb (rb + 1) ob w' cv cq bad l1 (fun acc => Cae.pb (classLoop m acc) (fun cs => Cae.pb (ruleLoop 1000 []) (fun rs => Cae.pb elseP fun b => pr ⟨cs, rs, b⟩)) l1) ∧ (bad = none → l1.length < m) ∧ Kept (fun i => i = rb ∨ i = ob) w8 w') (fun z w' => muR rb w') ?_ ?_
      · refine ⟨none, l, _, [], 1000, ⟨S8, O8, Vc.Own.nil (enc := encCq) _ _ (fun _ => rfl) _, fun _ => ⟨[], [], hX, rfl, by simp, .nil⟩, fun e h => by cases h⟩, fun _ => by have := htl.len; omega, Kept.refl _ _⟩
      · rintro z w' ⟨bad, l1, cv, cq, m, ⟨hP, hF, hO1, hN, hBd⟩, hm, hk⟩
        have hzk := hk.size
        refine wpL_seqV ?_
        push_cast -dsimp
        refine callK_of (rsee_c hP [99, 108, 97, 115, 115]) ?_
        rintro _ w9 ⟨rfl, b9⟩
        have P9 := hP.below b9
        have F9 := hF.below b9 hF.lt
        have O9 := hO1.below b9
        have k9 : Kept (fun i => i = rb ∨ i = ob) w8 w9 := hk.trans (Kept.of_below b9 (X := fun i => i = rb) (fun i h1 h2 => by have := hP.le; have := hP.lt; omega)) (fun i _ h => .inl h)
        have z9 := b9.size
        have hofl := hF.lt
        have hle1 := hP.le
        cases hs : (okB bad && seeP [99, 108, 97, 115, 115] l1) with
        | false =>
          push_cast -dsimp
          refine ⟨bad, l1, cv, cq, ⟨P9, F9, O9, fun h => ?_, hBd⟩, k9⟩
          subst h
          rw [okB_none, Bool.true_and] at hs
          obtain ⟨acc, cs, hX1, hcq, hcl, hV⟩ := hN rfl
          exact ⟨acc, cs, hX1.trans (clsX_end (hm rfl) hs), hcq, hcl, hV.imp fun a c h => ⟨h.1, h.2.1, h.2.2.below b9⟩⟩
        | true =>
          have hbn : bad = none := by
            cases bad with
            | none => rfl
            | some e => cases hs
          subst hbn
          rw [okB_none, Bool.true_and] at hs
          obtain ⟨acc, cs, hX1, hcq, hcl, hV⟩ := hN rfl
          have hm1 := hm rfl
          obtain ⟨m', rfl⟩ : ∃ m', m = m' + 1 := ⟨m - 1, by omega⟩
          have hVl := hV.len
          have hql : cq.length = acc.length := by rw [hcq, List.length_map, hVl]
          obtain ⟨ca, cc, hcv⟩ := hO1.slice
          have d0 : w9.cell? ⟨ob, 0, none⟩ = some (.slice ca cq.length cc) := by rw [← hcv]; exact F9.cell rfl
          push_cast -dsimp
          refine wpL_blockW (wpL_seqV ?_)
          push_cast -dsimp [d0]
          refine ⟨fun h20 => ?_, fun h20 => ?_⟩
          · refine callK_of (rfails_c P9 4 (by decide)) ?_
            rintro _ wa ⟨rfl, Pa, ka⟩
            push_cast -dsimp
            refine ⟨_, l1, cv, cq, ⟨Pa, F9.kept ka (by omega), O9.keptX ka (fun g hg h => by have := (O9.block g hg).1; omega), fun h => (by cases h), fun e h => ?_⟩, k9.trans ka (fun i _ h => .inl h)⟩
            cases h
            exact hX1.trans (clsX_many hs (by omega))
          · have h20 : acc.length ≠ 20 := by omega
            have hX2 := hX1.trans (clsX_step hs h20)
            obtain ⟨t1, r1, el1⟩ := P9.cons
            have hhd : Cae.hd l1 = t1 := by rw [el1]; rfl
            have P9' := P9
            rw [el1] at P9'
            obtain ⟨b, o, c, hBp, hc, hne, c0, c1, c2, c3⟩ := P9'.hd
            have cb : w9.cell? ⟨rb, 0, none⟩ = some (.slice (some ⟨b, o, none⟩) (r1.length + 1) c) := hBp.cell rfl
            have hcls : classP l1 = Cae.pb (mustP [99, 108, 97, 115, 115]) (fun _ => Cae.pb nameP fun n => Cae.pb (mustP [61]) fun _ => Cae.pb (kindP 9) fun k => Cae.pb (mustP [59]) fun _ => pr ⟨n, t1.pos, k⟩) l1 := by
              unfold classP
              rw [pb_of (p := peek) (x := Cae.hd l1) (l1 := l1) rfl, hhd]
            refine wpL_seqV ?_
            push_cast -dsimp [cb, c2]
            refine ⟨by omega, ?_⟩
            refine allocK (z := [str [], .int .i64 0, .pointer none]) (by kernel_rfl) ?_
            intro wa hwa
            have za := hwa.size
            have hgc : ∃ kb, kb = w9.heap.size := ⟨_, rfl⟩
            obtain ⟨kb, hkb⟩ := hgc
            have Ca : Blk wa kb 58 [str [], .int .i64 0, .pointer none] := by rw [hkb]; exact hwa.blk
            rw [← hkb]
            push_cast -dsimp
            refine storeAgg (xt := 58) (n := 3) (by kernel_rfl) Ca rfl (by decide) (by simp; exact ⟨rfl, rfl, rfl⟩) ?_
            intro wb hwb
            have Cb : Blk wb kb 58 [str [], .int .i64 t1.pos, .pointer none] := hwb.blk
            have zb := hwb.size
            have k9b : Kept (fun i => i = rb) w9 wb := (Kept.new (X := fun i => i = rb) hwa).trans hwb.kept (fun i h1 h2 => by omega)
            have Pb : RS rb (rb + 1) wb l1 none := (P9.below hwa.below).keptB hwb.kept (fun i h => by omega)
            push_cast -dsimp
            refine wpL_seqV ?_
            push_cast -dsimp
            refine callK_of (rmustX [99, 108, 97, 115, 115] Pb (fun _ => hcls) (fun e h => by cases h)) ?_
            rintro _ wc ⟨rfl, kc, bad2, l2, Pc, hn2, he2⟩
            have Cc := Cb.kept kc (by omega)
            have zc := kc.size
            push_cast -dsimp
            refine wpL_seqV ?_
            push_cast -dsimp
            refine callK_of (rnameX Pc hn2 he2) ?_
            rintro _ wd ⟨nm, rfl, kd, bad3, l3, Pd, hn3, he3⟩
            have Cd := Cc.kept kd (by omega)
            have zd := kd.size
            push_cast -dsimp
            refine storeK_of Cd (by simp) rfl ?_
            intro we hwe
            have Ce : Blk we kb 58 [str nm, .int .i64 t1.pos, .pointer none] := hwe.blk
            have Pe := Pd.keptB hwe.kept (fun i h => by omega)
            have ze := hwe.size
            push_cast -dsimp
            refine wpL_seqV ?_
            push_cast -dsimp
            refine callK_of (rmustX [61] Pe hn3 he3) ?_
            rintro _ wf ⟨rfl, kf, bad4, l4, Pf, hn4, he4⟩
            have Cf := Ce.kept kf (by omega)
            have zf := kf.size
            have k9f : Kept (fun i => i = rb) w9 wf := (((k9b.trans kc (fun i _ h => h)).trans kd (fun i _ h => h)).trans hwe.kept (fun i h1 h2 => by omega)).trans kf (fun i _ h => h)
            push_cast -dsimp
            refine wpL_seqC [48, 49, 50, 51, 52] (fun z wx => ∃ bad5 l5 u, RS rb (rb + 1) wx l5 bad5 ∧ Blk wx kb 58 [str nm, .int .i64 t1.pos, .pointer u] ∧ Kept (fun i => i = rb ∨ i = kb) wf wx ∧ (bad5 = none → ∃ kd ub, u = atP ub ∧ KindV (fun i => i < wf.heap.size) wx (ptrP ub) kd ∧ classP l1 = Cae.pb (mustP [59]) (fun _ => pr ⟨nm, t1.pos, kd⟩) l5) ∧ ∀ e, bad5 = some e → classP l1 = .error e) ?_ ?_
            · push_cast -dsimp
              refine callK_of (rok_c Pf) ?_
              rintro _ wg ⟨rfl, bg⟩
              have Pg := Pf.below bg
              have Cg := Cf.below bg Cf.lt
              have zg := bg.size
              have kg : Kept (fun i => i = rb ∨ i = kb) wf wg := Kept.of_below bg (fun i h1 h2 => by have := Pf.le; omega)
              cases bad4 with
              | some e =>
                push_cast -dsimp
                exact ⟨some e, l4, none, Pg, Cg, kg, fun h => (by cases h), he4⟩
              | none =>
                push_cast -dsimp
                refine callK_of (rkindX Pg hn4 he4) ?_
                rintro _ wh ⟨u, rfl, kh, bad5, l5, Ph, hn5, he5⟩
                have Ch := Cg.kept kh (by omega)
                push_cast -dsimp
                refine storeK_of Ch (by simp) rfl ?_
                intro wi hwi
                have Ci : Blk wi kb 58 [str nm, .int .i64 t1.pos, .pointer u] := hwi.blk
                have zh := kh.size
                push_cast -dsimp
                refine ⟨bad5, l5, u, Ph.keptB hwi.kept (fun i h => by omega), Ci, (kg.trans kh (fun i _ h => .inl h)).trans hwi.kept (fun i _ h => .inr h), fun h => ?_, he5⟩
                obtain ⟨kd, ub, e, hV, hX⟩ := hn5 h
                exact ⟨kd, ub, e, hV.mono hwi.kept (fun i h => by omega) (fun i h => by omega), hX⟩
            · rintro z2 wg ⟨bad5, l5, u, Pg, Cg, kg, hn5, he5⟩
              have zg := kg.size
              obtain ⟨kdd, hn5⟩ := pickN (.ref 0 []) hn5
              refine wpL_seqV ?_
              push_cast -dsimp
              refine callK_of (rmustX [59] Pg (fun h => by obtain ⟨_, _, _, h⟩ := hn5 h; exact h) he5) ?_
              rintro _ wh ⟨rfl, kh, bad6, l6, Ph, hn6, he6⟩
              have Ch := Cg.kept kh (by omega)
              have zh := kh.size
              -- from the round's beginning on: the reader's block, and those that are new
              have kw : Kept (fun i => i = rb) w' wh := (((Kept.of_below b9 (X := fun i => i = rb) (fun i h1 h2 => by omega)).trans k9f (fun i _ h => h)).trans kg (fun i h1 h2 => by omega)).trans kh (fun i _ h => h)
              have Fh := hF.kept kw (by omega)
              have Oh := hO1.keptX kw (fun g hg h => by have := (hO1.block g hg).1; omega)
              have hob1 : ∀ g, cv.ownBlock = some g → ob + 1 ≤ g ∧ g < w'.heap.size := fun g hg => hO1.block g hg
              have hVh : All2 (ClsR (fun b => (b < ob + 1 ∨ cv.ownBlock = some b) ∨ w'.heap.size ≤ b) wh) cs acc := hV.imp fun a c h => h.top.mono kw (fun i h => by omega) (fun i h => h)
              have dh : wh.cell? ⟨ob, 0, none⟩ = some (.slice ca cq.length cc) := by rw [← hcv]; exact Fh.cell rfl
              have dl : cellsAt wh ⟨kb, 0, none⟩ 0 3 = some [str nm, .int .i64 t1.pos, .pointer u] := Ch.cellsAt
              push_cast -dsimp
              refine wpL_of ?_
              push_cast -dsimp [dh, dl]
              refine rowK elI_25 rfl rfl (by omega) ?_
              intro wi hwi
              have Fi := Fh.below hwi.below Fh.lt
              have Oi := Oh.new hwi
              rw [hcv] at Oi
              have Pi := Ph.below hwi.below
              have zi := hwi.size
              push_cast -dsimp
              refine appendK2 (base := ob + 1) [(nm, t1.pos, u)] (enc := encCq) elI_25 Oi (by rfl) (fun j y hy => by simpa [encCq] using hwi.cell hy) encCq_one (by simp only [List.length_cons, List.length_nil]; omega) (by omega) ?_
              intro cv2 wj hOj hgj hne2
              rw [← hcv] at hgj hne2
              have kj : Kept (fun j => cv.ownBlock = some j) wi wj := Kept.grown hgj (fun _ h => h)
              have Fj := Fi.kept kj (fun h => by have := hob1 _ h; omega)
              have Pj := Pi.keptB kj (fun i h => by have := hob1 _ h; omega)
              have zj := kj.size
              obtain ⟨a5, c5, rfl⟩ := hOj.slice
              push_cast -dsimp
              refine storeK_of Fj (by simp) rfl ?_
              intro wk hwk
              have Fk : Blk wk ob 28 [.slice a5 (cq ++ [(nm, t1.pos, u)]).length c5, .slice none 0 0, .bool true] := hwk.blk
              have Ok' := hOj.keptX hwk.kept (fun g hg h => by have := (hOj.block g hg).1; omega)
              have Pk := Pj.keptB hwk.kept (fun i h => by omega)
              have kY : Kept (fun i => i = ob ∨ cv.ownBlock = some i) wh wk := ((Kept.new (X := fun i => i = ob ∨ cv.ownBlock = some i) hwi).trans kj (fun i _ h => .inr h)).trans hwk.kept (fun i _ h => .inl h)
              have kk : Kept (fun i => i = rb ∨ i = ob) w8 wk := (hk.trans kw (fun i _ h => .inl h)).trans kY (fun i h1 h2 => by
                rcases h2 with h2 | h2
                · exact .inr h2
                · have := hob1 _ h2; omega)
              have hXk : ∀ i, (i < ob + 1 ∨ (Value.slice a5 (cq ++ [(nm, t1.pos, u)]).length c5).ownBlock = some i) → (i < ob + 1 ∨ cv.ownBlock = some i) ∨ wh.heap.size ≤ i := fun i h => by
                rcases h with h | h
                · exact .inl (.inl h)
                · rcases hne2 i h with h | h
                  · exact .inl (.inr h)
                  · exact .inr (by omega)
              push_cast -dsimp
              refine ⟨⟨bad6, l6, _, cq ++ [(nm, t1.pos, u)], m', ⟨Pk, Fk, Ok', fun h => ?_, fun e h => ?_⟩, fun h => ?_, kk⟩, ?_⟩
              · have hok : classP l1 = .ok (⟨nm, t1.pos, kdd⟩, l6) := hn6 h
                have hb5 : bad5 = none := by
                  cases hb5 : bad5 with
                  | none => rfl
                  | some e => rw [he5 e hb5] at hok; cases hok
                obtain ⟨ub, rfl, hVu, _⟩ := hn5 hb5
                have hVu2 := (hVu.mono kh (X' := fun i => i < wf.heap.size) (fun i h => by omega) (fun i h => h)).top
                refine ⟨acc ++ [⟨nm, t1.pos, kdd⟩], cs ++ [(nm, t1.pos, ub)], hX2.trans (pb_of hok), by rw [hcq, List.map_append]; rfl, by rw [List.length_append, List.length_singleton]; omega, (hVh.imp fun a c h => h.mono kY (fun i h => ?_) (fun i h => ?_)).snoc ⟨rfl, rfl, hVu2.mono kY (fun i h => ?_) (fun i h => ?_)⟩⟩
                · rcases h with h | h
                  · exact .inl (.inl (by omega))
                  · exact .inl (.inr h)
                · rcases hXk i h with h | h
                  · exact .inl h
                  · exact .inr (by omega)
                · rcases h with h | h
                  · exact .inl (by omega)
                  · have := hob1 _ h; exact .inl (by omega)
                · rcases hXk i h with h | h
                  · rcases h with h | h
                    · exact .inl (by omega)
                    · have := hob1 _ h; exact .inl (by omega)
                  · exact .inr h
              · exact hX2.trans (pbe (he6 e h))
              · have := sh_class _ _ _ (hn6 h)
                omega
              · have h0 := hP.mu
                cases hb6 : bad6 with
                | none =>
                  subst hb6
                  have := Pk.mu
                  have := sh_class _ _ _ (hn6 rfl)
                  omega
                | some e =>
                  subst hb6
                  have := Pk.mu0
                  omega
    · rintro z V0 ⟨bad0, lc, cv, cq, ⟨hP0, hF0, hOc, hN0, hB0⟩, hk0⟩
      obtain ⟨acc, hN0⟩ := pickN [] hN0
      obtain ⟨ca, cc, hcv⟩ := hOc.slice
      have hz0 := hk0.size
      have hofl := hF0.lt
      have hle0 := hP0.le
      push_cast -dsimp
      refine wpL_seqW (wpL_blockW ?_)
      refine wpL_cutB [9, 61, 62, 63, 64, 65, 66, 67, 68, 69, 70, 71, 72, 73, 74, 75, 76, 77, 78, 79, 80, 81, 82, 83, 84, 85, 86, 87, 88, 89, 90, 91, 92, 93, 94, 95, 96, 97, 98, 99, 100, 101, 102, 103, 104, 105, 106, 107, 108] (fun z w' => ∃ bad l1 rv rq, RulI X rb (rb + 1) ob cv (bad0 = none) V0.heap.size w' rv rq bad l1 (fun acc2 => Cae.pb elseP (fun b => pr ⟨acc, acc2, b⟩) l1) ∧ Kept (fun i => i = rb ∨ i = ob) V0 w') ?_ ?_
      · refine wpL_loopW [9, 61, 62, 63, 64, 65, 66, 67, 68, 69, 70, 71, 72, 73, 74, 75, 76, 77, 78, 79, 80, 81, 82, 83, 84, 85, 86, 87, 88, 89, 90, 91, 92, 93, 94, 95, 96, 97, 98, 99, 100, 101, 102, 103, 104, 105, 106, 107, 108] (fun z w' => ∃ bad l1 rv rq m, RulI X rb (rb + 1) ob cv (bad0 = none) V0.heap.size w' rv rq bad l1 (fun acc2 => Cae.pb (ruleLoop m acc2) (fun rs => Cae.pb elseP fun b => pr ⟨acc, rs, b⟩) l1) ∧ (bad = none → l1.length < m) ∧ Kept (fun i => i = rb ∨ i = ob) V0 w') (fun z w' => muR rb w') ?_ ?_
        · refine ⟨bad0, lc, _, [], 1000, ⟨hP0, hF0, Vc.Own.nil (enc := encRq) _ _ (fun _ => rfl) _, fun h => ⟨h, [], [], ?_, rfl, by simp, .nil⟩, hB0⟩, fun _ => by have := hP0.tl.len; omega, Kept.refl _ _⟩
          obtain ⟨cs, hX1, _⟩ := hN0 h
          exact hX1
        · rintro z w' ⟨bad, l1, rv, rq, m, ⟨hP, hF, hO1, hN, hBd⟩, hm, hk⟩
          have hzk := hk.size
          have hle1 := hP.le
          refine wpL_seqW (wpL_seqC [61, 62, 63, 64, 65, 66] (fun z wx => z 66 = .bool (okB bad && ruleStart l1) ∧ Below w'.heap.size w' wx) ?_ ?_)
          · have hrs : (okB bad && ruleStart l1) = ((okB bad && seeP [98, 114, 101, 97, 107] l1) || (okB bad && seeP [107, 101, 101, 112] l1)) := by unfold ruleStart; cases okB bad <;> rfl
            push_cast -dsimp
            refine callK_of (rsee_c hP [98, 114, 101, 97, 107]) ?_
            rintro _ wa ⟨rfl, ba⟩
            rw [hrs]
            cases hs1 : (okB bad && seeP [98, 114, 101, 97, 107] l1) with
            | true =>
              push_cast -dsimp
              exact ⟨by rw [Bool.true_or], ba⟩
            | false =>
              push_cast -dsimp
              refine callK_of (rsee_c (hP.below ba) [107, 101, 101, 112]) ?_
              rintro _ wb ⟨rfl, bb⟩
              push_cast -dsimp
              exact ba.trans (bb.mono ba.size)
          rintro z3 w9 ⟨h66, b9⟩
          have P9 := hP.below b9
          have F9 := hF.below b9 hF.lt
          have O9 := hO1.below b9
          have k9 : Kept (fun i => i = rb ∨ i = ob) V0 w9 := hk.trans (Kept.of_below b9 (X := fun i => i = rb) (fun i h1 h2 => by omega)) (fun i _ h => .inl h)
          have z9 := b9.size
          refine wpL_of ?_
          cases hs : (okB bad && ruleStart l1) with
          | false =>
            rw [hs] at h66
            push_cast -dsimp [h66]
            refine ⟨bad, l1, rv, rq, ⟨P9, F9, O9, fun h => ?_, hBd⟩, k9⟩
            subst h
            rw [okB_none, Bool.true_and] at hs
            obtain ⟨hb0, acc2, rs, hX1, hcq, hcl, hV⟩ := hN rfl
            exact ⟨hb0, acc2, rs, hX1.trans (rulX_end (hm rfl) hs), hcq, hcl, hV.imp fun a c h => ⟨h.1, h.2.1, h.2.2.1.below b9, h.2.2.2.below b9⟩⟩
          | true =>
            rw [hs] at h66
            have hbn : bad = none := by
              cases bad with
              | none => rfl
              | some e => cases hs
            subst hbn
            rw [okB_none, Bool.true_and] at hs
            obtain ⟨hb0, acc2, rs, hX1, hcq, hcl, hV⟩ := hN rfl
            have hm1 := hm rfl
            obtain ⟨m', rfl⟩ : ∃ m', m = m' + 1 := ⟨m - 1, by omega⟩
            have hVl := hV.len
            have hql : rq.length = acc2.length := by rw [hcq, List.length_map, hVl]
            obtain ⟨ra, rc, hrv⟩ := hO1.slice
            have d0 : w9.cell? ⟨ob, 1, none⟩ = some (.slice ra rq.length rc) := by rw [← hrv]; exact F9.cell rfl
            push_cast -dsimp [h66]
            refine wpL_blockW (wpL_seqV ?_)
            push_cast -dsimp [d0]
            refine ⟨fun h20 => ?_, fun h20 => ?_⟩
            · refine callK_of (rfails_c P9 4 (by decide)) ?_
              rintro _ wa ⟨rfl, Pa, ka⟩
              push_cast -dsimp
              refine ⟨_, l1, rv, rq, ⟨Pa, F9.kept ka (by omega), O9.keptX ka (fun g hg h => by have := (O9.block g hg).1; omega), fun h => (by cases h), fun e h => ?_⟩, k9.trans ka (fun i _ h => .inl h)⟩
              cases h
              exact hX1.trans (rulX_many hs (by omega))
            · have h20 : acc2.length ≠ 20 := by omega
              have hX2 := hX1.trans (rulX_step hs h20)
              obtain ⟨t1, r1, el1⟩ := P9.cons
              have hhd : Cae.hd l1 = t1 := by rw [el1]; rfl
              have hsy := says_of el1 hs
              have hgb : ∃ isB, isB = seeP [98, 114, 101, 97, 107] l1 := ⟨_, rfl⟩
              obtain ⟨isB, hisB⟩ := hgb
              rw [← hisB] at hsy
              have hrul : ruleP l1 = Cae.pb (patP 9) (fun x => Cae.pb (mustP [58]) fun _ => Cae.pb (patP 9) fun y => Cae.pb (mustP [59]) fun _ => pr ⟨t1.pos, isB, x, y⟩) r1 := by
                unfold ruleP
                rw [pb_of (p := peek) (x := Cae.hd l1) (l1 := l1) rfl, hhd, pb_of hsy.1]
              have P9' := P9
              rw [el1] at P9'
              obtain ⟨b, o, c, hBp, hc, hne, c0, c1, c2, c3⟩ := P9'.hd
              refine wpL_seqV ?_
              push_cast -dsimp
              have cla : ∀ {x y : World}, Below x.heap.size x y → (Blk x rb 52 (.slice (some ⟨b, o, none⟩) (r1.length + 1) c :: badV none) ∧ x.cell? ⟨b, o + 2, none⟩ = some (.int .i64 t1.pos)) → (Blk y rb 52 (.slice (some ⟨b, o, none⟩) (r1.length + 1) c :: badV none) ∧ y.cell? ⟨b, o + 2, none⟩ = some (.int .i64 t1.pos)) := fun hb h => ⟨h.1.below hb h.1.lt, (hb.cell (World.block_lt_of_cell? _ _ h.2)).trans h.2⟩
              refine wpL_cut [9, 73, 74, 75, 76, 77, 78, 79, 80, 81, 82] (fun z wx => ∃ kb, z 9 = .pointer (some ⟨kb, 0, none⟩) ∧ w9.heap.size ≤ kb ∧ Blk wx kb 44 [.int .i64 t1.pos, .bool isB, .pointer none, .pointer none] ∧ Below w9.heap.size w9 wx) ?_ ?_
              · refine wpL_tree (.one 0 (.one 1 (.one 2 (.one 3 (.one 4 (.one 5 (.one 6 (.one 7 (.two 8 (.one 9 (.one 10 (.one 11 .done))) 10 (.one 8 (.one 9 (.one 11 .done)))))))))))) (fun w'' => Blk w'' rb 52 (.slice (some ⟨b, o, none⟩) (r1.length + 1) c :: badV none) ∧ w''.cell? ⟨b, o + 2, none⟩ = some (.int .i64 t1.pos)) mixed (by kernel_rfl) ⟨hBp.drew, c2⟩ ?_
                have gb : ∀ w'' : World, (Blk w'' rb 52 (.slice (some ⟨b, o, none⟩) (r1.length + 1) c :: badV none) ∧ w''.cell? ⟨b, o + 2, none⟩ = some (.int .i64 t1.pos)) → w''.cell? ⟨rb, 0, none⟩ = some (.slice (some ⟨b, o, none⟩) (r1.length + 1) c) := fun w'' h => h.1.cell rfl
                have db : w9.drew.cell? ⟨rb, 0, none⟩ = some (.slice (some ⟨b, o, none⟩) (r1.length + 1) c) := gb _ ⟨hBp.drew, c2⟩
                have dc : w9.drew.cell? ⟨b, o + 2, none⟩ = some (.int .i64 t1.pos) := c2
                have Pd := P9.below (below_drewR w9)
                have zd : w9.drew.heap.size = w9.heap.size := rfl
                have hbl : b < w9.heap.size := World.block_lt_of_cell? _ _ c2
                push_cast -dsimp [db, dc, Nat.zero_mul, Nat.add_zero]
                refine ⟨fun w'' h => by rw [gb w'' h]; exact rfl, by omega, fun w'' h => by rw [h.2]; exact rfl, ?_, ?_⟩
                · refine callK_of (rsee_c Pd [98, 114, 101, 97, 107]) ?_
                  rintro _ wa ⟨rfl, ba⟩
                  rw [okB_none, Bool.true_and, ← hisB]
                  have Ka := cla ba ⟨hBp.drew, c2⟩
                  have za := ba.size
                  refine ⟨Ka, ?_⟩
                  push_cast -dsimp
                  refine allocK (z := [.int .i64 0, .bool false, .pointer none, .pointer none]) (by kernel_rfl) ?_
                  intro wb hwb
                  have zb := hwb.size
                  have Kb := cla hwb.below Ka
                  refine ⟨Kb, ?_⟩
                  push_cast -dsimp
                  refine storeAgg (xt := 44) (n := 4) (by kernel_rfl) hwb.blk rfl (by decide) (by simp; exact ⟨rfl, rfl, rfl⟩) ?_
                  intro wc hwc
                  have Kc := hwc.kept
                  refine ⟨⟨Kb.1.kept Kc (by omega), Kc.cell Kb.2 (by show ¬ b = wa.heap.size; omega)⟩, ?_⟩
                  push_cast -dsimp
                  exact ⟨_, rfl, by omega, hwc.blk, (((below_drewR w9).trans (ba.mono (by omega))).trans (hwb.below.mono (by omega))).trans (Kc.below (B := w9.heap.size) (by omega) (fun i h => by omega))⟩
                · refine allocK (z := [.int .i64 0, .bool false, .pointer none, .pointer none]) (by kernel_rfl) ?_
                  intro wb hwb
                  have zb := hwb.size
                  have Kb := cla hwb.below ⟨hBp.drew, c2⟩
                  refine ⟨Kb, ?_⟩
                  push_cast -dsimp
                  refine callK_of (rsee_c (Pd.below hwb.below) [98, 114, 101, 97, 107]) ?_
                  rintro _ wa ⟨rfl, ba⟩
                  rw [okB_none, Bool.true_and, ← hisB]
                  have Ka := cla ba Kb
                  have za := ba.size
                  refine ⟨Ka, ?_⟩
                  push_cast -dsimp
                  refine storeAgg (xt := 44) (n := 4) (by kernel_rfl) (hwb.blk.below ba (by omega)) rfl (by decide) (by simp; exact ⟨rfl, rfl, rfl⟩) ?_
                  intro wc hwc
                  have Kc := hwc.kept
                  refine ⟨⟨Ka.1.kept Kc (by omega), Kc.cell Ka.2 (by show ¬ b = w9.drew.heap.size; omega)⟩, ?_⟩
                  push_cast -dsimp
                  exact ⟨_, rfl, by omega, hwc.blk, (((below_drewR w9).trans (hwb.below.mono (by omega))).trans (ba.mono (by omega))).trans (Kc.below (B := w9.heap.size) (by omega) (fun i h => by omega))⟩
              rintro z4 wc ⟨kb, h9, hkb, Cc, bc⟩
              have Bc : Blk wc rb 52 (.slice (some ⟨b, o, none⟩) (r1.length + 1) c :: badV none) := hBp.below bc hBp.lt
              have Pc := P9.below bc
              have k9c : Kept (fun i => i = rb) w9 wc := Kept.of_below bc (fun i h1 h2 => by omega)
              have zc := bc.size
              have cc : wc.cell? ⟨rb, 0, none⟩ = some (.slice (some ⟨b, o, none⟩) (r1.length + 1) c) := Bc.cell rfl
              have hcl2 := Cc.lt
              push_cast -dsimp [h9]
              refine wpL_seqV ?_
              push_cast -dsimp [cc, slice1]
              refine ⟨by omega, ?_⟩
              refine storeK_of Bc (by simp) rfl ?_
              intro wd hwd
              rw [el1] at Pc
              have Pd2 := Pc.pop Bc hsy.2 hwd
              have Cd := Cc.kept hwd.kept (by omega)
              have zd2 := hwd.size
              have k9d := k9c.trans hwd.kept (fun i _ h => h)
              push_cast -dsimp
              refine wpL_seqV ?_
              push_cast -dsimp
              refine callK_of (rpatX Pd2 (fun _ => hrul) (fun e h => by cases h)) ?_
              rintro _ we ⟨u1, rfl, ke, bad2, l2, Pe, hn2, he2⟩
              obtain ⟨x1, hn2⟩ := pickN PatP.any hn2
              have Ce := Cd.kept ke (by omega)
              have ze := ke.size
              push_cast -dsimp
              refine storeK_of Ce (by simp) rfl ?_
              intro wf hwf
              have Cf : Blk wf kb 44 [.int .i64 t1.pos, .bool isB, .pointer u1, .pointer none] := hwf.blk
              have Pf := Pe.keptB hwf.kept (fun i h => by omega)
              have zf := hwf.size
              push_cast -dsimp
              refine wpL_seqV ?_
              push_cast -dsimp
              refine callK_of (rmustX [58] Pf (fun h => by obtain ⟨_, _, _, h⟩ := hn2 h; exact h) he2) ?_
              rintro _ wg ⟨rfl, kg, bad3, l3, Pg, hn3, he3⟩
              have Cg := Cf.kept kg (by omega)
              have zg := kg.size
              have k9g : Kept (fun i => i = rb) w9 wg := ((k9d.trans ke (fun i _ h => h)).trans hwf.kept (fun i h1 h2 => by omega)).trans kg (fun i _ h => h)
              push_cast -dsimp
              refine wpL_seqC [96, 97, 98, 99, 100] (fun z wx => ∃ bad5 l5 u, RS rb (rb + 1) wx l5 bad5 ∧ Blk wx kb 44 [.int .i64 t1.pos, .bool isB, .pointer u1, .pointer u] ∧ Kept (fun i => i = rb ∨ i = kb) wg wx ∧ (bad5 = none → ∃ x ub, u = atP ub ∧ PatV (fun i => i < wg.heap.size) wx (ptrP ub) x ∧ ruleP l1 = Cae.pb (mustP [59]) (fun _ => pr ⟨t1.pos, isB, x1, x⟩) l5) ∧ ∀ e, bad5 = some e → ruleP l1 = .error e) ?_ ?_
              · push_cast -dsimp
                refine callK_of (rok_c Pg) ?_
                rintro _ wh ⟨rfl, bh⟩
                have Ph := Pg.below bh
                have Ch := Cg.below bh Cg.lt
                have zh := bh.size
                have kh : Kept (fun i => i = rb ∨ i = kb) wg wh := Kept.of_below bh (fun i h1 h2 => by have := Pg.le; omega)
                cases bad3 with
                | some e =>
                  push_cast -dsimp
                  exact ⟨some e, l3, none, Ph, Ch, kh, fun h => (by cases h), he3⟩
                | none =>
                  push_cast -dsimp
                  refine callK_of (rpatX Ph hn3 he3) ?_
                  rintro _ wi ⟨u, rfl, ki, bad5, l5, Pi, hn5, he5⟩
                  have Ci := Ch.kept ki (by omega)
                  have zi := ki.size
                  push_cast -dsimp
                  refine storeK_of Ci (by simp) rfl ?_
                  intro wj hwj
                  have Cj : Blk wj kb 44 [.int .i64 t1.pos, .bool isB, .pointer u1, .pointer u] := hwj.blk
                  push_cast -dsimp
                  refine ⟨bad5, l5, u, Pi.keptB hwj.kept (fun i h => by omega), Cj, (kh.trans ki (fun i _ h => .inl h)).trans hwj.kept (fun i _ h => .inr h), fun h => ?_, he5⟩
                  obtain ⟨x, ub, e, hV, hX⟩ := hn5 h
                  exact ⟨x, ub, e, hV.mono hwj.kept (fun i h => by omega) (fun i h => by omega), hX⟩
              · rintro z2 wh ⟨bad5, l5, u, Ph, Ch, kh, hn5, he5⟩
                have zh := kh.size
                obtain ⟨x2, hn5⟩ := pickN PatP.any hn5
                refine wpL_seqV ?_
                push_cast -dsimp
                refine callK_of (rmustX [59] Ph (fun h => by obtain ⟨_, _, _, h⟩ := hn5 h; exact h) he5) ?_
                rintro _ wi ⟨rfl, ki, bad6, l6, Pi, hn6, he6⟩
                have Ci := Ch.kept ki (by omega)
                have zi := ki.size
                have kw : Kept (fun i => i = rb) w' wi := (((Kept.of_below b9 (X := fun i => i = rb) (fun i h1 h2 => by omega)).trans k9g (fun i _ h => h)).trans kh (fun i h1 h2 => by omega)).trans ki (fun i _ h => h)
                have Fi := hF.kept kw (by omega)
                have Oi := hO1.keptX kw (fun g hg h => by have := (hO1.block g hg).1; omega)
                have hob1 : ∀ g, rv.ownBlock = some g → V0.heap.size ≤ g ∧ g < w'.heap.size := fun g hg => hO1.block g hg
                have hVh : All2 (RulR (fun b => (b < V0.heap.size ∨ rv.ownBlock = some b) ∨ w'.heap.size ≤ b) wi) rs acc2 := hV.imp fun a c h => h.top.mono kw (fun i h => by omega) (fun i h => h)
                have dh : wi.cell? ⟨ob, 1, none⟩ = some (.slice ra rq.length rc) := by rw [← hrv]; exact Fi.cell rfl
                have dl : cellsAt wi ⟨kb, 0, none⟩ 0 4 = some [.int .i64 t1.pos, .bool isB, .pointer u1, .pointer u] := Ci.cellsAt
                push_cast -dsimp
                refine wpL_of ?_
                push_cast -dsimp [dh, dl]
                refine rowK elI_26 rfl rfl (by omega) ?_
                intro wj hwj
                have Fj := Fi.below hwj.below Fi.lt
                have Oj := Oi.new hwj
                rw [hrv] at Oj
                have Pj := Pi.below hwj.below
                have zj := hwj.size
                push_cast -dsimp
                refine appendK2 (base := V0.heap.size) [(t1.pos, isB, u1, u)] (enc := encRq) elI_26 Oj (by rfl) (fun j y hy => by simpa [encRq] using hwj.cell hy) encRq_one (by simp only [List.length_cons, List.length_nil]; omega) (by omega) ?_
                intro rv2 wk hOk hgk hne2
                rw [← hrv] at hgk hne2
                have kj : Kept (fun j => rv.ownBlock = some j) wj wk := Kept.grown hgk (fun _ h => h)
                have Fk := Fj.kept kj (fun h => by have := hob1 _ h; omega)
                have Pk := Pj.keptB kj (fun i h => by have := hob1 _ h; omega)
                have zk := kj.size
                obtain ⟨a5, c5, rfl⟩ := hOk.slice
                push_cast -dsimp
                refine storeK_of Fk (by simp) rfl ?_
                intro wl hwl
                have Fl : Blk wl ob 28 [cv, .slice a5 (rq ++ [(t1.pos, isB, u1, u)]).length c5, .bool true] := hwl.blk
                have Ol := hOk.keptX hwl.kept (fun g hg h => by have := (hOk.block g hg).1; omega)
                have Pl := Pk.keptB hwl.kept (fun i h => by omega)
                have kY : Kept (fun i => i = ob ∨ rv.ownBlock = some i) wi wl := ((Kept.new (X := fun i => i = ob ∨ rv.ownBlock = some i) hwj).trans kj (fun i _ h => .inr h)).trans hwl.kept (fun i _ h => .inl h)
                have kk : Kept (fun i => i = rb ∨ i = ob) V0 wl := (hk.trans kw (fun i _ h => .inl h)).trans kY (fun i h1 h2 => by
                  rcases h2 with h2 | h2
                  · exact .inr h2
                  · have := hob1 _ h2; omega)
                have hXk : ∀ i, (i < V0.heap.size ∨ (Value.slice a5 (rq ++ [(t1.pos, isB, u1, u)]).length c5).ownBlock = some i) → (i < V0.heap.size ∨ rv.ownBlock = some i) ∨ wi.heap.size ≤ i := fun i h => by
                  rcases h with h | h
                  · exact .inl (.inl h)
                  · rcases hne2 i h with h | h
                    · exact .inl (.inr h)
                    · exact .inr (by omega)
                push_cast -dsimp
                refine ⟨⟨bad6, l6, _, rq ++ [(t1.pos, isB, u1, u)], m', ⟨Pl, Fl, Ol, fun h => ?_, fun e h => ?_⟩, fun h => ?_, kk⟩, ?_⟩
                · have hok : ruleP l1 = .ok (⟨t1.pos, isB, x1, x2⟩, l6) := hn6 h
                  have hb5 : bad5 = none := by
                    cases hb5 : bad5 with
                    | none => rfl
                    | some e => rw [he5 e hb5] at hok; cases hok
                  have hb2 : bad2 = none := by
                    cases hb2 : bad2 with
                    | none => rfl
                    | some e => rw [he2 e hb2] at hok; cases hok
                  obtain ⟨ub, rfl, hVu, _⟩ := hn2 hb2
                  obtain ⟨vb, rfl, hVv, _⟩ := hn5 hb5
                  have hVu2 : PatV (fun i => i < wd.heap.size ∨ we.heap.size ≤ i) wi (ptrP ub) x1 := (((hVu.top.mono hwf.kept (X' := fun i => i < wd.heap.size ∨ we.heap.size ≤ i) (fun i h => by omega) (fun i h => h)).mono kg (X' := fun i => i < wd.heap.size ∨ we.heap.size ≤ i) (fun i h => by omega) (fun i h => h)).mono kh (X' := fun i => i < wd.heap.size ∨ we.heap.size ≤ i) (fun i h => by omega) (fun i h => h)).mono ki (fun i h => by omega) (fun i h => h)
                  have hVv2 := (hVv.mono ki (X' := fun i => i < wg.heap.size) (fun i h => by omega) (fun i h => h)).top
                  refine ⟨hb0, acc2 ++ [⟨t1.pos, isB, x1, x2⟩], rs ++ [(t1.pos, isB, ub, vb)], hX2.trans (pb_of hok), by rw [hcq, List.map_append]; rfl, by rw [List.length_append, List.length_singleton]; omega, (hVh.imp fun a c h => h.mono kY (fun i h => ?_) (fun i h => ?_)).snoc ⟨rfl, rfl, hVu2.mono kY (fun i h => ?_) (fun i h => ?_), hVv2.mono kY (fun i h => ?_) (fun i h => ?_)⟩⟩
                  · rcases h with h | h
                    · exact .inl (.inl (by omega))
                    · exact .inl (.inr h)
                  · rcases hXk i h with h | h
                    · exact .inl h
                    · exact .inr (by omega)
                  · rcases h with h | h
                    · exact .inl (by omega)
                    · have := hob1 _ h; exact .inl (by omega)
                  · rcases hXk i h with h | h
                    · rcases h with h | h
                      · exact .inl (by omega)
                      · have := hob1 _ h; exact .inl (by omega)
                    · exact .inr (by omega)
                  · rcases h with h | h
                    · exact .inl (by omega)
                    · have := hob1 _ h; exact .inl (by omega)
                  · rcases hXk i h with h | h
                    · rcases h with h | h
                      · exact .inl (by omega)
                      · have := hob1 _ h; exact .inl (by omega)
                    · exact .inr h
                · exact hX2.trans (pbe (he6 e h))
                · have := sh_rule _ _ _ (hn6 h)
                  omega
                · have h0 := hP.mu
                  cases hb6 : bad6 with
                  | none =>
                    subst hb6
                    have := Pl.mu
                    have := sh_rule _ _ _ (hn6 rfl)
                    omega
                  | some e =>
                    subst hb6
                    have := Pl.mu0
                    omega
      · rintro z V1 ⟨bad, l1, rv, rq, ⟨hP, hF, hO1, hN, hBd⟩, hk⟩
        have hzk := hk.size
        have hle1 := hP.le
        have hofl1 := hF.lt
        push_cast -dsimp
        have hR1 := ((R8.kept hk0 (by omega)).kept hk (by omega))
        have hE1 := ((E8.kept hk0 (by omega)).kept hk (by omega))
        have hb1 := hb8.trans ((hk0.trans hk (fun i _ h => h)).below (B := w.heap.size) hb8.size (fun i h => by omega))
        obtain ⟨acc2, hN⟩ := pickN [] (R := fun acc2 => bad0 = none ∧ ∃ rs, X = Cae.pb elseP (fun b => pr ⟨acc, acc2, b⟩) l1 ∧ rq = rs.map rQ ∧ rq.length ≤ 20 ∧ All2 (RulR (fun b => b < V0.heap.size ∨ rv.ownBlock = some b) V1) rs acc2) (fun h => by
          obtain ⟨h0, a, h⟩ := hN h
          exact ⟨a, h0, h⟩)
        refine wpL_seqC [109, 110, 111, 112, 113, 114, 115, 116, 117, 118] (fun z wx => ∃ bad l2 els, RS rb (rb + 1) wx l2 bad ∧ Blk wx ob 28 [cv, rv, .bool els] ∧ (bad = none → X = .ok (⟨acc, acc2, els⟩, l2)) ∧ (∀ e, bad = some e → X = .error e) ∧ Kept (fun i => i = rb ∨ i = ob) V1 wx) ?_ ?_
        · refine (fun h => h) ?_
          push_cast -dsimp
          refine callK_of (rtake_c hP [101, 108, 115, 101]) ?_
          rintro _ wa hT
          rcases hT with ⟨rfl, hse, rfl, t3, l3, el3, h53, P3', kt3⟩ | ⟨hse, rfl, P3', b3'⟩
          · obtain ⟨hb0, rs, hX1, _⟩ := hN rfl
            have hpop : popP l1 = .ok ((), l3) := by rw [el3]; exact popP_cons h53
            have hX3 : X = Cae.pb saysP (fun b => Cae.pb (mustP [59]) fun _ => pr ⟨acc, acc2, b⟩) l3 := by
              have hels : elseP l1 = Cae.pb saysP (fun b => Cae.pb (mustP [59]) fun _ => pr b) l3 := by
                unfold elseP pif
                rw [hse, if_pos rfl, pb_of hpop]
              have e2 : Cae.pb elseP (fun b => pr (⟨acc, acc2, b⟩ : FileP)) l1 = Cae.pb (Cae.pb saysP (fun b => Cae.pb (mustP [59]) fun _ => pr b)) (fun b => pr ⟨acc, acc2, b⟩) l3 := by
                unfold Cae.pb at hels ⊢
                rw [hels]
              rw [hX1, e2, pb_as]
              congr 1
              funext b
              exact funext fun l => pb_as _ _ _ l
            have F3' := hF.kept kt3 (by omega)
            have k3' : Kept (fun i => i = rb ∨ i = ob) V1 wa := kt3.weaken (fun i _ h => .inl h)
            push_cast -dsimp
            refine callK_of (rtake_c P3' [98, 114, 101, 97, 107]) ?_
            rintro _ wb hT
            rcases hT with ⟨_, hsb, rfl, t4, l4, el4, h54, P4', kt4⟩ | ⟨hsb, rfl, P4', b4'⟩
            · have hpop4 : popP l3 = .ok ((), l4) := by rw [el4]; exact popP_cons h54
              have hsy : saysP l3 = .ok (true, l4) := by
                unfold saysP pif
                rw [hsb, if_pos rfl, pb_of hpop4]
                rfl
              have F4' := F3'.kept kt4 (by omega)
              push_cast -dsimp
              refine callK_of (rmustX [59] P4' (fun _ => hX3.trans (pb_of hsy)) (fun e h => by cases h)) ?_
              rintro _ wc ⟨rfl, kc, bad5, l5, P5, hn5, he5⟩
              push_cast -dsimp
              exact ⟨bad5, l5, true, P5, F4'.kept kc (by omega), hn5, he5, (k3'.trans kt4 (fun i _ h => .inl h)).trans kc (fun i _ h => .inl h)⟩
            · rw [okB_none, Bool.true_and] at hsb
              have hX4 : X = Cae.pb (mustP [107, 101, 101, 112]) (fun _ => Cae.pb (mustP [59]) fun _ => pr ⟨acc, acc2, false⟩) l3 := by
                have hsy0 : saysP l3 = Cae.pb (mustP [107, 101, 101, 112]) (fun _ => pr false) l3 := by
                  unfold saysP pif
                  rw [hsb]
                  rfl
                rw [hX3]
                have e2 : Cae.pb saysP (fun b => Cae.pb (mustP [59]) fun _ => pr (⟨acc, acc2, b⟩ : FileP)) l3 = Cae.pb (Cae.pb (mustP [107, 101, 101, 112]) (fun _ => pr false)) (fun b => Cae.pb (mustP [59]) fun _ => pr ⟨acc, acc2, b⟩) l3 := pb_congr hsy0
                rw [e2, pb_as]
                rfl
              have F4' := F3'.below b4' F3'.lt
              have k4' : Kept (fun i => i = rb ∨ i = ob) V1 wb := k3'.trans (Kept.of_below b4' (X := fun i => i = rb ∨ i = ob) (fun i h1 h2 => by have := P3'.le; omega)) (fun i _ h => h)
              push_cast -dsimp
              refine callK_of (rmustX [107, 101, 101, 112] P4' (fun _ => hX4) (fun e h => by cases h)) ?_
              rintro _ wc ⟨rfl, kc, bad5, l5, P5, hn5, he5⟩
              have F5 := F4'.kept kc (by omega)
              push_cast -dsimp
              refine storeK_of F5 (by simp) rfl ?_
              intro wd hwd
              have F6 : Blk wd ob 28 [cv, rv, .bool false] := hwd.blk
              push_cast -dsimp
              refine callK_of (rmustX [59] (P5.keptB hwd.kept (fun i h => by omega)) hn5 he5) ?_
              rintro _ we ⟨rfl, ke, bad6, l6, P6, hn6, he6⟩
              push_cast -dsimp
              exact ⟨bad6, l6, false, P6, F6.kept ke (by omega), hn6, he6, ((k4'.trans kc (fun i _ h => .inl h)).trans hwd.kept (fun i _ h => .inr h)).trans ke (fun i _ h => .inl h)⟩
          · push_cast -dsimp
            refine ⟨bad, l1, true, P3', hF.below b3' hF.lt, fun h => ?_, hBd, Kept.of_below b3' (fun i h1 h2 => by omega)⟩
            subst h
            rw [okB_none, Bool.true_and] at hse
            obtain ⟨hb0, rs, hX1, _⟩ := hN rfl
            have hels : elseP l1 = .ok (true, l1) := by
              unfold elseP pif
              rw [hse]
              rfl
            rw [hX1, pb_of hels]
            rfl
        · rintro z2 V2 ⟨badx, l2, els, P2, F2, hX2, he2, k2⟩
          have hz2 := k2.size
          obtain ⟨t1, r1, el1⟩ := P2.cons
          have P2' := P2
          rw [el1] at P2'
          obtain ⟨b, o, c, hBp, hc, hne, c0, c1, c2, c3⟩ := P2'.hd
          have cb : V2.cell? ⟨rb, 0, none⟩ = some (.slice (some ⟨b, o, none⟩) (r1.length + 1) c) := hBp.cell rfl
          have hik : isKind 5 l2 = decide (t1.kind = 5) := by
            rw [el1]
            show (t1.kind == 5) = _
            by_cases h : t1.kind = 5 <;> simp [h]
          have hpE : ∀ e, X = .error e → parseR s = .error e := fun e h => by
            unfold parseR
            rw [htok]
            dsimp only
            rw [← hX, h]
          have hpO : X = .ok (⟨acc, acc2, els⟩, l2) → parseR s = if isKind 5 l2 then .ok ⟨acc, acc2, els⟩ else .error (3, (Cae.hd l2).pos) := fun h => by
            unfold parseR
            rw [htok]
            dsimp only
            rw [← hX, h]
          refine wpL_seqC [119, 120, 121, 122, 123, 124, 125, 126, 127, 128] (fun z wx => ∃ bad3, RS rb (rb + 1) wx l2 bad3 ∧ Kept (fun i => i = rb) V2 wx ∧ (bad3 = none → parseR s = .ok ⟨acc, acc2, els⟩ ∧ badx = none) ∧ ∀ e, bad3 = some e → parseR s = .error e) ?_ ?_
          · refine (fun h => h) ?_
            push_cast -dsimp [cb, c0]
            refine ⟨by omega, fun h5 => ?_, fun h5 => ?_⟩
            · refine callK_of (rfails_c P2 3 (by decide)) ?_
              rintro _ wa ⟨rfl, Pa, ka⟩
              push_cast -dsimp
              refine ⟨_, Pa, ka, fun h => (by cases h), fun e h => ?_⟩
              cases h
              cases hbx : badx with
              | some e0 => exact hpE _ (he2 _ hbx)
              | none =>
                rw [hpO (hX2 hbx), hik, decide_eq_false (fun h => h5 (by omega))]
                rfl
            · refine ⟨badx, P2, Kept.refl _ _, fun h => ⟨?_, h⟩, fun e h => hpE _ (he2 _ h)⟩
              rw [hpO (hX2 h), hik, decide_eq_true (by omega)]
              rfl
          · rintro z3 V3 ⟨bad3, P3, k3, hok, herr⟩
            have hz3 := k3.size
            have kV : Kept (fun i => i = rb ∨ i = ob) V1 V3 := k2.trans k3 (fun i _ h => .inl h)
            refine wpL_of ?_
            push_cast -dsimp
            refine callK_of (rok_c P3) ?_
            rintro _ V4 ⟨rfl, b4⟩
            have P4 := P3.below b4
            have hz4 := b4.size
            have kV4 : Kept (fun i => i = rb ∨ i = ob) V1 V4 := kV.trans (Kept.of_below b4 (X := fun i => i = rb ∨ i = ob) (fun i h1 h2 => by omega)) (fun i _ h => h)
            have R4 := hR1.kept kV4 (by omega)
            have E4 := hE1.kept kV4 (by omega)
            have F4 := (F2.kept k3 (by omega)).below b4 (F2.kept k3 (by omega)).lt
            have hb4 := hb1.trans (kV4.below (B := w.heap.size) hb1.size (fun i h => by omega))
            obtain ⟨vP, BP, _⟩ := P4.st
            cases bad3 with
            | some e =>
              obtain ⟨en, pos⟩ := e
              have gP : ∀ w'' : World, Blk w'' rb 52 (vP :: badV (some (en, pos))) → cellsAt w'' ⟨rb, 1, none⟩ 0 2 = some [.int .i64 (en : Int), .int .i64 (pos : Int)] := fun w'' h => blkSome (n := 2) h 1 rfl rfl
              have dP := gP _ BP.drew
              push_cast -dsimp
              refine wpL_draw (fun w'' => Blk w'' rb 52 (vP :: badV (some (en, pos)))) mixed (by kernel_rfl) BP.drew ?_
              push_cast -dsimp [dP]
              refine ⟨fun w'' h => by rw [gP w'' h]; exact rfl, ?_⟩
              refine storeAgg (xt := 28) (n := 3) (by kernel_rfl) R4.drew rfl (by decide) (by simp; exact ⟨rfl, rfl⟩) ?_
              intro w9 hw9
              have B9 := BP.drew.kept hw9.kept (by omega)
              refine ⟨B9, ?_⟩
              push_cast -dsimp
              refine storeAgg (xt := 31) (n := 2) (by kernel_rfl) (E4.drew.kept hw9.kept (by omega)) rfl (by decide) (by simp; exact ⟨rfl, rfl⟩) ?_
              intro wa hwa
              have R5 : Blk wa w.heap.size 28 [.slice none 0 0, .slice none 0 0, .bool false] := Blk.kept hw9.blk hwa.kept (by omega)
              have E5 : Blk wa eb 31 [.int .i64 (en : Int), .int .i64 (pos : Int)] := hwa.blk
              have dR : cellsAt wa ⟨w.heap.size, 0, none⟩ 0 3 = some [.slice none 0 0, .slice none 0 0, .bool false] := R5.cellsAt
              have dE : cellsAt wa ⟨eb, 0, none⟩ 0 2 = some [.int .i64 (en : Int), .int .i64 (pos : Int)] := E5.cellsAt
              have bz := hb4.trans ((((Kept.refl (fun i => w.heap.size ≤ i) V4).drew.trans hw9.kept (fun i _ h => by omega)).trans hwa.kept (fun i _ h => by omega)).below (B := w.heap.size) hb4.size (fun i h => h))
              refine ⟨B9.kept hwa.kept (by omega), ?_⟩
              push_cast -dsimp [dR, dE]
              exact ⟨.inr ⟨en, pos, herr _ rfl, P4.ne _ rfl, rfl⟩, bz⟩
            | none =>
              obtain ⟨hpo, rfl⟩ := hok rfl
              have hXo := hX2 rfl
              have hb0 : bad0 = none := by
                cases hb0 : bad0 with
                | none => rfl
                | some e => rw [hB0 e hb0] at hXo; cases hXo
              have hbn : bad = none := by
                cases hbn : bad with
                | none => rfl
                | some e => rw [hBd e hbn] at hXo; cases hXo
              obtain ⟨cs, _, hcq, _, hVc⟩ := hN0 hb0
              obtain ⟨_, rs, _, hrq, _, hVr⟩ := hN hbn
              have hgw := hg.below hb4
              have gF := fault_agg hgw
              have gFd : cellsAt V4.drew ⟨0, 0, none⟩ 0 2 = some [.int .i64 0, .int .i64 (-1)] := gF
              obtain ⟨ca, cc, hcv⟩ := hOc.slice
              obtain ⟨ra, rc, hrv⟩ := hO1.slice
              rw [hcv, hrv] at F4
              have gO : ∀ w'' : World, Blk w'' ob 28 [.slice ca cq.length cc, .slice ra rq.length rc, .bool els] → cellsAt w'' ⟨ob, 0, none⟩ 0 3 = some [.slice ca cq.length cc, .slice ra rq.length rc, .bool els] := fun w'' h => h.cellsAt
              have dO := gO _ F4.drew
              have hFl : 0 < w.heap.size := World.block_lt_of_cell? _ _ hg.f0
              push_cast -dsimp
              refine wpL_draw (fun w'' => Blk w'' ob 28 [.slice ca cq.length cc, .slice ra rq.length rc, .bool els] ∧ cellsAt w'' ⟨0, 0, none⟩ 0 2 = some [.int .i64 0, .int .i64 (-1)]) mixed (by kernel_rfl) ⟨F4.drew, gFd⟩ ?_
              push_cast -dsimp [dO, gFd]
              refine ⟨fun w'' h => by rw [gO w'' h.1]; exact rfl, fun w'' h => by rw [h.2]; exact rfl, ?_⟩
              refine storeAgg (xt := 28) (n := 3) (by kernel_rfl) R4.drew rfl (by decide) (by simp; exact ⟨rfl, rfl, rfl⟩) ?_
              intro w9 hw9
              have B9 := F4.drew.kept hw9.kept (by omega)
              have b9 := hb4.trans (((Kept.refl (fun i => w.heap.size ≤ i) V4).drew.trans hw9.kept (fun i _ h => by omega)).below (B := w.heap.size) hb4.size (fun i h => h))
              refine ⟨⟨B9, fault_agg (hg.below b9)⟩, ?_⟩
              push_cast -dsimp
              refine storeAgg (xt := 31) (n := 2) (by kernel_rfl) (E4.drew.kept hw9.kept (by omega)) rfl (by decide) (by simp; exact ⟨rfl, rfl⟩) ?_
              intro wa hwa
              have R5 : Blk wa w.heap.size 28 [.slice ca cq.length cc, .slice ra rq.length rc, .bool els] := Blk.kept hw9.blk hwa.kept (by omega)
              have E5 : Blk wa eb 31 [.int .i64 0, .int .i64 (-1)] := hwa.blk
              have dR : cellsAt wa ⟨w.heap.size, 0, none⟩ 0 3 = some [.slice ca cq.length cc, .slice ra rq.length rc, .bool els] := R5.cellsAt
              have dE : cellsAt wa ⟨eb, 0, none⟩ 0 2 = some [.int .i64 0, .int .i64 (-1)] := E5.cellsAt
              have ba := b9.trans (hwa.kept.below (B := w.heap.size) b9.size (fun i h => by omega))
              refine ⟨⟨B9.kept hwa.kept (by omega), fault_agg (hg.below ba)⟩, ?_⟩
              push_cast -dsimp [dR, dE]
              have kz1 : Kept (fun i => i < ob + 1) V1 wa := ((((kV4.weaken (Y := fun i => i < ob + 1) (fun i _ h => by omega))).drew.trans hw9.kept (fun i _ h => by omega))).trans hwa.kept (fun i _ h => by omega)
              have kz0 : Kept (fun i => i < ob + 1) V0 wa := (hk.weaken (Y := fun i => i < ob + 1) (fun i _ h => by omega)).trans kz1 (fun i _ h => h)
              have s1 : Sl (· < w.heap.size) 3 (En encC) wa (.slice ca cq.length cc) cs := by
                have hh := (hOc.keptX kz0 (fun g hg h => by have := (hOc.block g hg).1; omega)).sl
                rw [hcv, hcq] at hh
                rw [hcq]
                exact (Sl.coded (f := cQ) (fun _ => rfl) hh).weaken (fun i h => by omega)
              have s2 : Sl (· < w.heap.size) 4 (En encRu) wa (.slice ra rq.length rc) rs := by
                have hh := (hO1.keptX kz1 (fun g hg h => by have := (hO1.block g hg).1; omega)).sl
                rw [hrv, hrq] at hh
                rw [hrq]
                exact (Sl.coded (f := rQ) (fun _ => rfl) hh).weaken (fun i h => by omega)
              exact ⟨.inl ⟨_, _, hpo, rfl, _, _, cs, rs, rfl, s1, s2, hVc.imp fun a c h => h.mono kz0 (fun i h => .inl h) (fun i h => .inl (by omega)), hVr.imp fun a c h => h.mono kz1 (fun i h => .inl (by omega)) (fun i h => .inl (by omega))⟩, ba⟩
  · push_cast -dsimp
    refine allocK (z := [.int .i64 0, .int .i64 0]) (by kernel_rfl) ?_
    intro w4 hw4
    have z4 := hw4.size
    push_cast -dsimp
    refine storeAgg (xt := 31) (n := 2) (by kernel_rfl) hw4.blk rfl (by decide) (by simp; exact ⟨rfl, rfl⟩) ?_
    intro w5 hw5
    have F5 : Blk w5 w3.heap.size 31 [.int .i64 en, .int .i64 pos] := hw5.blk
    have z5 := hw5.size
    have b35 : Below w3.heap.size w3 w5 := hw4.below.trans (hw5.kept.below (B := w3.heap.size) (by omega) (fun i h => by omega))
    have hb5 := hb3.trans (b35.mono hb3.size)
    have hg5 := hg.below hb5
    have d5 : cellsAt w5 ⟨w3.heap.size, 0, none⟩ 0 2 = some [.int .i64 en, .int .i64 pos] := F5.cellsAt
    have g5 := fault_agg hg5
    have R5 := R3.below b35 (by omega)
    have E5 := E3.below b35 (by omega)
    have hpe : parseR s = .error (en, pos) := by unfold parseR; rw [htok]
    push_cast -dsimp
    refine wpL_seqV ?_
    push_cast -dsimp [d5, g5]
    refine ⟨fun _ => ?_, fun h => (h (fun hh => hh.2)).elim⟩
    refine wpL_draw (fun w'' => cellsAt w'' ⟨w3.heap.size, 0, none⟩ 0 2 = some [.int .i64 en, .int .i64 pos]) mixed (by kernel_rfl) d5 ?_
    have d5d : cellsAt w5.drew ⟨w3.heap.size, 0, none⟩ 0 2 = some [.int .i64 en, .int .i64 pos] := d5
    push_cast -dsimp [d5d]
    refine ⟨fun w'' h => by rw [h]; exact rfl, ?_⟩
    refine storeAgg (xt := 28) (n := 3) (by kernel_rfl) R5.drew rfl (by decide) (by simp; exact ⟨rfl, rfl⟩) ?_
    intro w9 hw9
    have F9 := F5.drew.kept hw9.kept (by omega)
    refine ⟨F9.cellsAt, ?_⟩
    push_cast -dsimp
    refine storeAgg (xt := 31) (n := 2) (by kernel_rfl) (E5.drew.kept hw9.kept (by omega)) rfl (by decide) (by simp; exact ⟨rfl, rfl⟩) ?_
    intro wa hwa
    have R6 : Blk wa w.heap.size 28 [.slice none 0 0, .slice none 0 0, .bool false] := Blk.kept hw9.blk hwa.kept (by omega)
    have E6 : Blk wa eb 31 [.int .i64 (en : Int), .int .i64 (pos : Int)] := hwa.blk
    have dR : cellsAt wa ⟨w.heap.size, 0, none⟩ 0 3 = some [.slice none 0 0, .slice none 0 0, .bool false] := R6.cellsAt
    have dE : cellsAt wa ⟨eb, 0, none⟩ 0 2 = some [.int .i64 (en : Int), .int .i64 (pos : Int)] := E6.cellsAt
    have bz := hb5.trans ((((Kept.refl (fun i => w.heap.size ≤ i) w5).drew.trans hw9.kept (fun i _ h => by omega)).trans hwa.kept (fun i _ h => by omega)).below (B := w.heap.size) hb5.size (fun i h => h))
    refine ⟨(F9.kept hwa.kept (by omega)).cellsAt, ?_⟩
    push_cast -dsimp [dR, dE]
    exact ⟨.inr ⟨en, pos, hpe, hne, rfl⟩, bz⟩
end Go.Proofs.YtphebgkbkdjjoaaGreatDoor
end
section
/- What an error is, and that two sets are the same. -/
namespace Go.Proofs.YtphebgkbkdjjoaaGreatDoor
open Go.Vc Go.Proofs Go.RowKit Cae
set_option maxRecDepth 100000
set_option linter.unusedSimpArgs false
set_option linter.unusedVariables false
attribute [local irreducible] wpL callK valK unitK runK Fun Sl Vc.Own vc vcOps opK pureK
set_option maxHeartbeats 4000000

/-- An error and what it tells. -/
def Errs (w : World) (v : Value) (n p : Int) : Prop := (v = .nilIface ∧ n = 0 ∧ p = -1) ∨ Placed w v n p
theorem Errs.below {w w' : World} {v : Value} {n p : Int} (h : Errs w v n p) (hk : Below w.heap.size w w') : Errs w' v n p := h.imp id fun h => h.below hk

theorem placeE_c (v : Value) (n p : Int) (w : World) (hE : ErrVar w) (hv : Errs w v n p) : Fun Tryz.prog 27 [v] w fun r w' => r = .tuple #[.int .i64 n, .int .i64 p] ∧ Below w.heap.size w w' := by
  rcases hv with ⟨rfl, rfl, rfl⟩ | hv
  · exact (place0_c w).mono fun r w' ⟨h, hw⟩ => ⟨h, by subst hw; exact Below.refl _ _⟩
  · exact place_c v n p w hE hv

theorem is_c (v : Value) (n p a b : Int) (w : World) (hE : ErrVar w) (hv : Errs w v n p) : Fun Tryz.prog 8 [v, .agg #[.int .i64 a, .int .i64 b]] w fun r w' => r = .bool (decide (n = a ∧ p = b)) ∧ Below w.heap.size w w' := by
  refine fun_of_vc Tryz.func8 rfl (by kernel_rfl) [4] rfl ?_
  push_cast -dsimp (maxSteps := 4000000) [Tryz.ntmps8]
  refine boxK_of ?_
  intro w1 hw1
  push_cast -dsimp
  refine callK_of (placeE_c v n p w1 ((Kept.new hw1 (X := fun _ => False)).cell hE id) (hv.below hw1.below)) ?_
  rintro _ w2 ⟨rfl, hb2⟩
  have c0 : w2.cell? ⟨w.heap.size, 0, none⟩ = some (.int .i64 a) := (hb2.cell (by have := hw1.size; show w.heap.size < _; omega)).trans (hw1.cell rfl)
  have c1 : w2.cell? ⟨w.heap.size, 1, none⟩ = some (.int .i64 b) := (hb2.cell (by have := hw1.size; show w.heap.size < _; omega)).trans (hw1.cell rfl)
  push_cast -dsimp [c0, c1]
  have hb : Below w.heap.size w w2 := hw1.below.trans (hb2.mono (by have := hw1.size; omega))
  constructor
  · intro h; subst h; exact ⟨by simp, hb⟩
  · intro h; exact ⟨by simp [h], hb⟩

theorem keptErr {w w' : World} (h : Below w.heap.size w w') (hE : ErrVar w) : ErrVar w' := (Kept.of_below h (X := fun _ => False) (fun k hk hl => by omega)).cell hE id

theorem sameSet_c (l : List Rg) (hl : l.length < 1000000000) (X X' : Nat → Prop) (v v' : Value) (w : World) (hv : Sl X 2 (En encR) w v l) (hv' : Sl X' 2 (En encR) w v' l) :
    Fun Tryz.prog 54 [v, v'] w fun r w' => r = .bool true ∧ Below w.heap.size w w' := by
  obtain ⟨a, c, rfl, hc⟩ := hv.shape
  obtain ⟨a', c', rfl, hc'⟩ := hv'.shape
  refine fun_of_vc Tryz.func54 rfl (by kernel_rfl) [4] rfl ?_
  push_cast -dsimp (maxSteps := 4000000) [Tryz.ntmps54]
  refine wpL_loop [4, 5, 11, 12, 13, 14, 15, 16, 17, 18, 19, 20, 21, 22, 23, 24, 25] (fun z wx => ∃ (i : Nat), z 5 = .int .i64 i ∧ i ≤ l.length ∧ Below w.heap.size w wx) (fun z _ => l.length - (intOf (z 5)).toNat) ?_ ?_
  · exact ⟨0, rfl, Nat.zero_le _, Below.refl _ _⟩
  · intro z wx hI
    obtain ⟨i, h5, hi, hb⟩ := hI
    push_cast -dsimp [h5]
    refine ⟨fun hlt => ?_, fun hge => ?_⟩
    · obtain ⟨x, hx, hxm, hd, ht⟩ := lt_get (l := l) (i := i) (by omega)
      obtain ⟨b, o, rfl, hX, hcell⟩ := (hv.below hb).get hx
      obtain ⟨b', o', rfl, hX', hcell'⟩ := (hv'.below hb).get hx
      refine wpL_draw (fun w' => ∀ a, w'.cell? a = wx.cell? a) mixed (by kernel_rfl) (fun _ => rfl) ?_
      have g0 : ∀ w'' : World, (∀ a, w''.cell? a = wx.cell? a) → cellsAt w'' ⟨b, o + i * 2, none⟩ 0 2 = some (encR x) := fun w'' hC => cellsAt_of (encR x) 0 (fun j u hu => by rw [hC]; simpa using hcell j u hu)
      have g0' : ∀ w'' : World, (∀ a, w''.cell? a = wx.cell? a) → cellsAt w'' ⟨b', o' + i * 2, none⟩ 0 2 = some (encR x) := fun w'' hC => cellsAt_of (encR x) 0 (fun j u hu => by rw [hC]; simpa using hcell' j u hu)
      have d0 := g0 wx.drew (fun _ => rfl)
      have d0' := g0' wx.drew (fun _ => rfl)
      unfold encR at d0 d0'
      push_cast -dsimp [d0, d0']
      refine ⟨⟨by omega, by omega⟩, fun w'' hC => by rw [g0 w'' hC]; exact rfl, ⟨by omega, by omega⟩, fun w'' hC => by rw [g0' w'' hC]; exact rfl, ?_⟩
      exact ⟨⟨by omega, by omega⟩, ⟨i + 1, rfl, by omega, hb.drew⟩, by rw [h5]; simp only [intOf]; omega⟩
    · exact hb
end Go.Proofs.YtphebgkbkdjjoaaGreatDoor
end
section
set_option linter.unusedSimpArgs false
set_option linter.unusedVariables false
namespace Cae
/-- Numbers that can be written: times; sets that can be written. -/
def KindOk : KindP → Prop
  | .lit _ s => setRight (-2) s = true ∧ s.length < 10000000
  | .ref _ _ => True
  | .not _ k => KindOk k
  | .bin c _ k r => KindOk k ∧ KindOk r ∧ (c = 3 ∨ c = 4 ∨ c = 5)
mutual
def PatOk : PatP → Prop
  | .one k => KindOk k
  | .any => True
  | .edge => True
  | .cat l => PatsOk l
  | .alt l => PatsOk l
  | .many x lo hi => PatOk x ∧ 0 ≤ lo ∧ lo < 100 ∧ hi < 100 ∧ (hi < 0 ∨ lo ≤ hi)
def PatsOk : List PatP → Prop
  | [] => True
  | x :: l => PatOk x ∧ PatsOk l
end
end Cae
namespace Cae
theorem texts_map (l : List PatP) (n : Nat) : patTexts l n = l.map (patText · n) := by
  induction l with
  | nil => rfl
  | cons x l ih => rw [patTexts, ih]; rfl
theorem lens_mem : ∀ {l : List (List UInt8)} {x : List UInt8}, x ∈ l → x.length ≤ Go.Lib.lens l
  | y :: l, x, h => by
    simp only [Go.Lib.lens, List.map_cons, List.sum_cons]
    rcases List.mem_cons.1 h with rfl | h
    · omega
    · have := lens_mem h
      simp only [Go.Lib.lens] at this
      omega
theorem join_bounds (l : List (List UInt8)) (sep : List UInt8) (hs : 1 ≤ sep.length) : Go.Lib.lens l ≤ (Go.Lib.join l sep).length ∧ l.length ≤ (Go.Lib.join l sep).length + 1 := by
  cases l with
  | nil => simp [Go.Lib.lens]
  | cons x l =>
    rw [Go.Lib.join_cons, List.length_append, Go.Lib.joinTail_length]
    have : 1 * l.length ≤ sep.length * l.length := Nat.mul_le_mul_right _ hs
    simp only [Go.Lib.lens, List.map_cons, List.sum_cons, List.length_cons]
    omega
theorem pt_two (x : PatP) : (patText x 2).length ≤ (patText x 1).length + 2 := by
  cases x with
  | cat l =>
    have h1 := (inPar_len (decide (1 < 2)) (Go.Lib.join (patTexts l 2) [32])).2
    have h2 := (inPar_len (decide (1 < 1)) (Go.Lib.join (patTexts l 2) [32])).1
    simp only [patText]
    omega
  | alt l =>
    have h1 := (inPar_len (decide (0 < 2)) (Go.Lib.join (patTexts l 1) [32, 124, 32])).2
    have h2 := (inPar_len (decide (0 < 1)) (Go.Lib.join (patTexts l 1) [32, 124, 32])).1
    simp only [patText]
    omega
  | _ => simp [patText]
theorem pn_in_cat {l : List PatP} : (Go.Lib.join (patTexts l 2) [32]).length + 5 = pn (.cat l) ∧ l.length ≤ pn (.cat l) ∧ ∀ x ∈ l, pn x ≤ pn (.cat l) := by
  have h0 := join_bounds (patTexts l 2) [32] (by decide)
  have h1 : (Go.Lib.join (patTexts l 2) [32]).length + 5 = pn (.cat l) := by simp [pn, patText, inPar]
  refine ⟨h1, ?_, fun x hx => ?_⟩
  · rw [texts_map, List.length_map] at h0
    rw [texts_map] at h1
    omega
  · have : (patText x 2).length ≤ Go.Lib.lens (patTexts l 2) := lens_mem (by rw [texts_map]; exact List.mem_map.2 ⟨x, hx, rfl⟩)
    have h2 : pn x = (patText x 2).length + 3 := rfl
    omega
theorem pn_in_alt {l : List PatP} : (Go.Lib.join (patTexts l 1) [32, 124, 32]).length + 5 = pn (.alt l) ∧ l.length ≤ pn (.alt l) ∧ ∀ x ∈ l, pn x ≤ pn (.alt l) := by
  have h0 := join_bounds (patTexts l 1) [32, 124, 32] (by decide)
  have h1 : (Go.Lib.join (patTexts l 1) [32, 124, 32]).length + 5 = pn (.alt l) := by simp [pn, patText, inPar]
  refine ⟨h1, ?_, fun x hx => ?_⟩
  · rw [texts_map, List.length_map] at h0
    rw [texts_map] at h1
    omega
  · have : (patText x 1).length ≤ Go.Lib.lens (patTexts l 1) := lens_mem (by rw [texts_map]; exact List.mem_map.2 ⟨x, hx, rfl⟩)
    have h2 : pn x = (patText x 2).length + 3 := rfl
    have := pt_two x
    omega
end Cae
namespace Cae
theorem All2.at {α β : Type} {R : α → β → Prop} {l : List α} {m : List β} (h : All2 R l m) : ∀ {i : Nat} {y : β}, m[i]? = some y → ∃ x, l[i]? = some x ∧ R x y := by
  induction h with
  | nil => intro i y hy; simp at hy
  | cons h1 _ ih =>
    intro i y hy
    cases i with
    | zero => cases hy; exact ⟨_, rfl, h1⟩
    | succ i =>
      obtain ⟨x, hx, hr⟩ := ih (i := i) (y := y) (by simpa using hy)
      exact ⟨x, by simpa using hx, hr⟩
theorem flatS_mem {α : Type} (f : α → List UInt8) {l : List α} {x : α} (h : x ∈ l) : (f x).length ≤ (l.flatMap f).length := by
  induction l with
  | nil => cases h
  | cons y l ih =>
    simp only [List.flatMap_cons, List.length_append]
    rcases List.mem_cons.1 h with rfl | h
    · omega
    · have := ih h; omega
theorem flatS_take {α : Type} (f : α → List UInt8) (l : List α) (i : Nat) : ((l.take i).flatMap f).length ≤ (l.flatMap f).length := by
  have : l.flatMap f = (l.take i).flatMap f ++ (l.drop i).flatMap f := by rw [← List.flatMap_append, List.take_append_drop]
  rw [this, List.length_append]
  omega
theorem pt_zero (x : PatP) : (patText x 2).length ≤ (patText x 0).length + 2 := by
  cases x with
  | cat l =>
    have h1 := (inPar_len (decide (1 < 2)) (Go.Lib.join (patTexts l 2) [32])).2
    have h2 := (inPar_len (decide (1 < 0)) (Go.Lib.join (patTexts l 2) [32])).1
    simp only [patText]
    omega
  | alt l =>
    have h1 := (inPar_len (decide (0 < 2)) (Go.Lib.join (patTexts l 1) [32, 124, 32])).2
    have h2 := (inPar_len (decide (0 < 0)) (Go.Lib.join (patTexts l 1) [32, 124, 32])).1
    simp only [patText]
    omega
  | _ => simp [patText]
theorem rt_len (r : RuleP) : (patText r.before 0).length + (patText r.after 0).length ≤ (ruleText r).length ∧ (ruleText r).length ≤ (patText r.before 0).length + (patText r.after 0).length + 20 := by
  unfold ruleText
  split <;> split <;> split <;> simp [*] <;> omega
def FileOk (f : FileP) : Prop := (∀ c ∈ f.classes, KindOk c.kind) ∧ ∀ r ∈ f.rules, PatOk r.before ∧ PatOk r.after
theorem pn_in_many {x : PatP} {lo hi : Int} : pn x ≤ pn (.many x lo hi) := by
  simp only [pn, patText, List.length_append]
  omega
end Cae
end
section
/- Two values of one file are the same. -/
namespace Go.Vc
section
variable {P : Program} {t : Fr} {w : World} {C : World → Prop} {N : Fr → World → Prop}
theorem mix_app (ops : List Oper) (a : Oper) (l m : List Oper) (p) : vcMix P ops C N (List.append (a :: l) m) t w p = vcMix P ops C N (a :: List.append l m) t w .mk := (rfl)
theorem mix_app0 (ops m : List Oper) (p) : vcMix P ops C N (List.append [] m) t w p = vcMix P ops C N m t w .mk := (rfl)
theorem slo_zero (a : Oper) (l m : List Oper) : slotOf (List.append (a :: l) m) 0 = a.dst := (rfl)
theorem slo_succ (a : Oper) (l m : List Oper) (k : Nat) : slotOf (List.append (a :: l) m) (k + 1) = slotOf (List.append l m) k := (rfl)
theorem slo_nil (m : List Oper) (k : Nat) : slotOf (List.append [] m) k = slotOf m k := (rfl)
attribute [push_cast] mix_app mix_app0 slo_zero slo_succ slo_nil
end
end Go.Vc
namespace Go.Proofs.YtphebgkbkdjjoaaGreatDoor
open Go.Vc Go.Proofs Go.RowKit Cae
set_option maxRecDepth 100000
set_option linter.unusedSimpArgs false
set_option linter.unusedVariables false
attribute [local irreducible] wpL callK valK unitK runK Fun Sl Vc.Own vc vcOps opK pureK
set_option maxHeartbeats 40000000
theorem Sl.nil0 {α : Type} {X : Nat → Prop} {k : Nat} {R : List Value → α → Prop} {w : World} : Sl X k R w (.slice none 0 0) ([] : List α) := by
  unfold Sl
  exact ⟨none, 0, rfl, Nat.le_refl _, fun i x h => by simp at h⟩
def SameR (f : FuncId) (v v' : Value) (w : World) : Prop := Fun Tryz.prog f [v, v'] w fun r w' => r = .bool true ∧ Below w.heap.size w w'
theorem sameNil_c (w : World) : SameR 28 (.pointer none) (.pointer none) w := by
  unfold SameR
  refine fun_of_vc Tryz.func28 rfl (by kernel_rfl) [4] rfl ?_
  push_cast -dsimp (maxSteps := 4000000) [Tryz.ntmps28]
  exact Below.refl _ _
theorem sameK_c {b b' : Nat} {code pos : Int} {name : List UInt8} {s : List Rg} {sv sv' l l' r r' : Value} {X X' : Nat → Prop} {w : World} (hs : s.length < 1000000000)
    (hB : Blk w b 101 [.int .i64 code, .int .i64 pos, sv, str name, l, r]) (hB' : Blk w b' 101 [.int .i64 code, .int .i64 pos, sv', str name, l', r'])
    (hv : Sl X 2 (En encR) w sv s) (hv' : Sl X' 2 (En encR) w sv' s)
    (hl : ∀ w', Below w.heap.size w w' → SameR 28 l l' w') (hr : ∀ w', Below w.heap.size w w' → SameR 28 r r' w') :
    SameR 28 (.pointer (some ⟨b, 0, none⟩)) (.pointer (some ⟨b', 0, none⟩)) w := by
  unfold SameR
  refine fun_of_vc Tryz.func28 rfl (by kernel_rfl) [4] rfl ?_
  push_cast -dsimp (maxSteps := 4000000) [Tryz.ntmps28]
  refine wpL_draw (fun w' => Blk w' b 101 [.int .i64 code, .int .i64 pos, sv, str name, l, r] ∧ Blk w' b' 101 [.int .i64 code, .int .i64 pos, sv', str name, l', r']) mixed (by kernel_rfl) ⟨hB.drew, hB'.drew⟩ ?_
  have gl : ∀ (o : Nat) (u : Value) (w'' : World), (Blk w'' b 101 [.int .i64 code, .int .i64 pos, sv, str name, l, r] ∧ Blk w'' b' 101 [.int .i64 code, .int .i64 pos, sv', str name, l', r']) → [Value.int .i64 code, .int .i64 pos, sv, str name, l, r][o]? = some u → w''.cell? ⟨b, o, none⟩ = some u := fun o u w'' h e => h.1.cell e
  have gr : ∀ (o : Nat) (u : Value) (w'' : World), (Blk w'' b 101 [.int .i64 code, .int .i64 pos, sv, str name, l, r] ∧ Blk w'' b' 101 [.int .i64 code, .int .i64 pos, sv', str name, l', r']) → [Value.int .i64 code, .int .i64 pos, sv', str name, l', r'][o]? = some u → w''.cell? ⟨b', o, none⟩ = some u := fun o u w'' h e => h.2.cell e
  have hD : Blk w.drew b 101 [.int .i64 code, .int .i64 pos, sv, str name, l, r] ∧ Blk w.drew b' 101 [.int .i64 code, .int .i64 pos, sv', str name, l', r'] := ⟨hB.drew, hB'.drew⟩
  have d0 := gl 0 _ _ hD rfl
  have d1 := gl 1 _ _ hD rfl
  have d2 := gl 2 _ _ hD rfl
  have d3 := gl 3 _ _ hD rfl
  have e0 := gr 0 _ _ hD rfl
  have e1 := gr 1 _ _ hD rfl
  have e2 := gr 2 _ _ hD rfl
  have e3 := gr 3 _ _ hD rfl
  have fl : ∀ (o : Nat) (u : Value), [Value.int .i64 code, .int .i64 pos, sv, str name, l, r][o]? = some u → ∀ w'' : World, (Blk w'' b 101 [.int .i64 code, .int .i64 pos, sv, str name, l, r] ∧ Blk w'' b' 101 [.int .i64 code, .int .i64 pos, sv', str name, l', r']) → optK (w''.cell? ⟨b, o, none⟩) (fun x => x = u) .mk := fun o u e w'' h => by rw [gl o u w'' h e]; exact rfl
  have fr : ∀ (o : Nat) (u : Value), [Value.int .i64 code, .int .i64 pos, sv', str name, l', r'][o]? = some u → ∀ w'' : World, (Blk w'' b 101 [.int .i64 code, .int .i64 pos, sv, str name, l, r] ∧ Blk w'' b' 101 [.int .i64 code, .int .i64 pos, sv', str name, l', r']) → optK (w''.cell? ⟨b', o, none⟩) (fun x => x = u) .mk := fun o u e w'' h => by rw [gr o u w'' h e]; exact rfl
  have bl : ∀ {x y : World}, Below x.heap.size x y → (Blk x b 101 [.int .i64 code, .int .i64 pos, sv, str name, l, r] ∧ Blk x b' 101 [.int .i64 code, .int .i64 pos, sv', str name, l', r']) → (Blk y b 101 [.int .i64 code, .int .i64 pos, sv, str name, l, r] ∧ Blk y b' 101 [.int .i64 code, .int .i64 pos, sv', str name, l', r']) := fun hb h => ⟨h.1.below hb h.1.lt, h.2.below hb h.2.lt⟩
  have bd := below_drewR w
  push_cast -dsimp [d0, d1, d2, d3, e0, e1, e2, e3]
  refine ⟨fl 0 _ rfl, fr 0 _ rfl, fl 1 _ rfl, fr 1 _ rfl, fl 3 _ rfl, fr 3 _ rfl, fl 2 _ rfl, fr 2 _ rfl, ?_⟩
  refine callK_of (sameSet_c s hs _ _ _ _ w.drew (hv.below bd) (hv'.below bd)) ?_
  rintro _ w1 ⟨rfl, b1⟩
  have K1 := bl b1 hD
  have bw1 := bd.trans b1
  have d4 := gl 4 _ _ K1 rfl
  have e4 := gr 4 _ _ K1 rfl
  refine ⟨K1, ?_⟩
  push_cast -dsimp [d4, e4]
  refine ⟨fl 4 _ rfl, fr 4 _ rfl, ?_⟩
  refine callK_of (hl w1 bw1) ?_
  rintro _ w2 ⟨rfl, b2⟩
  have K2 := bl b2 K1
  have bw2 := bw1.trans (b2.mono bw1.size)
  have d5 := gl 5 _ _ K2 rfl
  have e5 := gr 5 _ _ K2 rfl
  refine ⟨K2, ?_⟩
  push_cast -dsimp [d5, e5]
  refine ⟨fl 5 _ rfl, fr 5 _ rfl, ?_⟩
  refine callK_of (hr w2 bw2) ?_
  rintro _ w3 ⟨rfl, b3⟩
  refine ⟨bl b3 K2, ?_⟩
  push_cast -dsimp
  exact bw2.trans (b3.mono bw2.size)
theorem sameKind_c : ∀ (k : KindP), KindOk k → ∀ (X X' : Nat → Prop) (v v' : Value) (w : World), KindV X w v k → KindV X' w v' k → SameR 28 v v' w
  | .lit pos s, ho, X, X', v, v', w, h, h' => by
    simp only [KindOk] at ho
    obtain ⟨b, sv, rfl, _, hB, hs, _⟩ := h
    obtain ⟨b', sv', rfl, _, hB', hs', _⟩ := h'
    exact sameK_c (by omega) hB hB' hs hs' (fun w' _ => sameNil_c w') (fun w' _ => sameNil_c w')
  | .ref pos n, ho, X, X', v, v', w, h, h' => by
    obtain ⟨b, rfl, _, hB⟩ := h
    obtain ⟨b', rfl, _, hB'⟩ := h'
    exact sameK_c (s := []) (X := X) (X' := X) (by simp) hB hB' Sl.nil0 Sl.nil0 (fun w' _ => sameNil_c w') (fun w' _ => sameNil_c w')
  | .not pos k, ho, X, X', v, v', w, h, h' => by
    simp only [KindOk] at ho
    obtain ⟨b, u, rfl, _, hB, hk⟩ := h
    obtain ⟨b', u', rfl, _, hB', hk'⟩ := h'
    exact sameK_c (s := []) (X := X) (X' := X) (by simp) hB hB' Sl.nil0 Sl.nil0 (fun w' hb => sameKind_c k ho X X' _ _ w' (hk.below hb) (hk'.below hb)) (fun w' _ => sameNil_c w')
  | .bin c pos k r, ho, X, X', v, v', w, h, h' => by
    simp only [KindOk] at ho
    obtain ⟨b, u, x, rfl, _, hB, hk, hr⟩ := h
    obtain ⟨b', u', x', rfl, _, hB', hk', hr'⟩ := h'
    exact sameK_c (s := []) (X := X) (X' := X) (by simp) hB hB' Sl.nil0 Sl.nil0 (fun w' hb => sameKind_c k ho.1 X X' _ _ w' (hk.below hb) (hk'.below hb)) (fun w' hb => sameKind_c r ho.2.1 X X' _ _ w' (hr.below hb) (hr'.below hb))
theorem sameP_c {b b' : Nat} {code lo hi : Int} {kv kv' sv sv' : Value} {vs vs' : List Nat} {X X' : Nat → Prop} {w : World} (hl : vs'.length = vs.length) (hs : vs.length < 1000000000)
    (hB : Blk w b 83 [.int .i64 code, kv, sv, .int .i64 lo, .int .i64 hi]) (hB' : Blk w b' 83 [.int .i64 code, kv', sv', .int .i64 lo, .int .i64 hi])
    (hv : Sl X 1 (En encP) w sv vs) (hv' : Sl X' 1 (En encP) w sv' vs')
    (hk : ∀ w', Below w.heap.size w w' → SameR 28 kv kv' w') (hp : ∀ (i x x' : Nat), vs[i]? = some x → vs'[i]? = some x' → ∀ w', Below w.heap.size w w' → SameR 29 (ptrP x) (ptrP x') w') :
    SameR 29 (.pointer (some ⟨b, 0, none⟩)) (.pointer (some ⟨b', 0, none⟩)) w := by
  obtain ⟨a, c, rfl, hc⟩ := hv.shape
  obtain ⟨a', c', rfl, hc'⟩ := hv'.shape
  unfold SameR
  have hgC : ∃ C : World → Prop, C = fun w'' => Blk w'' b 83 [.int .i64 code, kv, .slice a vs.length c, .int .i64 lo, .int .i64 hi] ∧ Blk w'' b' 83 [.int .i64 code, kv', .slice a' vs'.length c', .int .i64 lo, .int .i64 hi] := ⟨_, rfl⟩
  obtain ⟨C, hC⟩ := hgC
  have gl : ∀ (o : Nat) (u : Value) (w'' : World), C w'' → [Value.int .i64 code, kv, .slice a vs.length c, .int .i64 lo, .int .i64 hi][o]? = some u → w''.cell? ⟨b, o, none⟩ = some u := fun o u w'' h e => by rw [hC] at h; exact h.1.cell e
  have gr : ∀ (o : Nat) (u : Value) (w'' : World), C w'' → [Value.int .i64 code, kv', .slice a' vs'.length c', .int .i64 lo, .int .i64 hi][o]? = some u → w''.cell? ⟨b', o, none⟩ = some u := fun o u w'' h e => by rw [hC] at h; exact h.2.cell e
  have fl : ∀ (o : Nat) (u : Value), [Value.int .i64 code, kv, .slice a vs.length c, .int .i64 lo, .int .i64 hi][o]? = some u → ∀ w'' : World, C w'' → optK (w''.cell? ⟨b, o, none⟩) (fun x => x = u) .mk := fun o u e w'' h => by rw [gl o u w'' h e]; exact rfl
  have fr : ∀ (o : Nat) (u : Value), [Value.int .i64 code, kv', .slice a' vs'.length c', .int .i64 lo, .int .i64 hi][o]? = some u → ∀ w'' : World, C w'' → optK (w''.cell? ⟨b', o, none⟩) (fun x => x = u) .mk := fun o u e w'' h => by rw [gr o u w'' h e]; exact rfl
  have bl : ∀ {x y : World}, Below x.heap.size x y → C x → C y := fun hb h => by rw [hC] at h ⊢; exact ⟨h.1.below hb h.1.lt, h.2.below hb h.2.lt⟩
  have hD0 : C w := by rw [hC]; exact ⟨hB, hB'⟩
  have bd := below_drewR w
  have hD := bl bd hD0
  refine fun_of_vc Tryz.func29 rfl (by kernel_rfl) [4] rfl ?_
  push_cast -dsimp (maxSteps := 4000000) [Tryz.ntmps29]
  refine wpL_draw C mixed (by kernel_rfl) hD ?_
  have d0 := gl 0 _ _ hD rfl
  have d1 := gl 1 _ _ hD rfl
  have d2 := gl 2 _ _ hD rfl
  have d3 := gl 3 _ _ hD rfl
  have d4 := gl 4 _ _ hD rfl
  have e0 := gr 0 _ _ hD rfl
  have e1 := gr 1 _ _ hD rfl
  have e2 := gr 2 _ _ hD rfl
  have e3 := gr 3 _ _ hD rfl
  have e4 := gr 4 _ _ hD rfl
  rw [hl] at e2
  have fr2 := fr 2 _ rfl
  rw [hl] at fr2
  push_cast -dsimp [d0, d1, d2, d3, d4, e0, e1, e2, e3, e4]
  refine ⟨fl 0 _ rfl, fr 0 _ rfl, fl 3 _ rfl, fr 3 _ rfl, fl 4 _ rfl, fr 4 _ rfl, fl 2 _ rfl, fr2, fl 1 _ rfl, fr 1 _ rfl, ?_⟩
  refine callK_of (hk w.drew bd) ?_
  rintro _ w1 ⟨rfl, b1⟩
  have K1 := bl b1 hD
  have bw1 := bd.trans b1
  refine ⟨K1, ?_⟩
  push_cast -dsimp
  refine wpL_loop [4, 5, 74, 75, 76, 77, 78, 79, 80, 81, 82, 83, 84, 85, 86, 87, 88, 89, 90, 91, 92, 93, 94, 95, 96, 97, 98] (fun z wx => ∃ i : Nat, z 5 = .int .i64 i ∧ i ≤ vs.length ∧ C wx ∧ Below w.heap.size w wx) (fun z _ => vs.length - (intOf (z 5)).toNat) ?_ ?_
  · exact ⟨0, rfl, Nat.zero_le _, K1, bw1⟩
  rintro z wx ⟨i, h5, hi, hCx, hb⟩
  have x2 := gl 2 _ _ hCx rfl
  push_cast -dsimp [h5, x2]
  refine ⟨fun hlt => ?_, fun hge => ?_⟩
  · have hx : vs[i]? = some vs[i] := List.getElem?_eq_getElem (by omega)
    have hx' : vs'[i]? = some vs'[i] := List.getElem?_eq_getElem (by omega)
    have hp1 := hp i _ _ hx hx'
    obtain ⟨g, o, rfl, _, hcell⟩ := (hv.below hb).get hx
    obtain ⟨g', o', rfl, _, hcell'⟩ := (hv'.below hb).get hx'
    have k0 : wx.cell? ⟨g, o + i, none⟩ = some (ptrP vs[i]) := by have := hcell 0 _ rfl; simpa using this
    have k0' : wx.cell? ⟨g', o' + i, none⟩ = some (ptrP vs'[i]) := by have := hcell' 0 _ rfl; simpa using this
    refine wpL_draw (fun w'' => C w'' ∧ w''.cell? ⟨g, o + i, none⟩ = some (ptrP vs[i]) ∧ w''.cell? ⟨g', o' + i, none⟩ = some (ptrP vs'[i])) mixed (by kernel_rfl) ⟨bl (below_drewR wx) hCx, k0, k0'⟩ ?_
    have hCd := bl (below_drewR wx) hCx
    have y2 := gl 2 _ _ hCd rfl
    have y2' := gr 2 _ _ hCd rfl
    have kd : wx.drew.cell? ⟨g, o + i, none⟩ = some (ptrP vs[i]) := k0
    have kd' : wx.drew.cell? ⟨g', o' + i, none⟩ = some (ptrP vs'[i]) := k0'
    push_cast -dsimp [h5, y2, y2', kd, kd', Nat.mul_one]
    refine ⟨fun w'' h => fl 2 _ rfl w'' h.1, ⟨by omega, by omega⟩, fun w'' h => by rw [h.2.1]; exact rfl, fun w'' h => fr 2 _ rfl w'' h.1, ⟨by omega, by omega⟩, fun w'' h => by rw [h.2.2]; exact rfl, ?_⟩
    refine callK_of (hp1 wx.drew hb.drew) ?_
    rintro _ w2 ⟨rfl, b2⟩
    have bw2 := hb.drew.trans (b2.mono hb.size)
    refine ⟨⟨bl b2 hCd, (b2.cell (World.block_lt_of_cell? _ _ kd)).trans kd, (b2.cell (World.block_lt_of_cell? _ _ kd')).trans kd'⟩, ?_⟩
    push_cast -dsimp [h5]
    exact ⟨⟨by omega, by omega⟩, ⟨i + 1, rfl, by omega, bl b2 hCd, bw2⟩, by simp only [intOf, h5]; omega⟩
  · exact hb
theorem PatsV.at {X : Nat → Prop} {w : World} : ∀ {vs : List Nat} {l : List PatP}, PatsV X w vs l → ∀ {i x : Nat}, vs[i]? = some x → ∃ y, l[i]? = some y ∧ PatV X w (ptrP x) y
  | [], [], _, i, x, hx => by simp at hx
  | v :: vs, y :: l, h, 0, x, hx => by
    simp only [PatsV] at h
    cases hx
    exact ⟨y, rfl, h.1⟩
  | v :: vs, y :: l, h, i + 1, x, hx => by
    simp only [PatsV] at h
    exact PatsV.at h.2 (by simpa using hx)
mutual
theorem samePattern_c : ∀ (x : PatP), PatOk x → pn x ≤ 100000000 → ∀ (X X' : Nat → Prop) (v v' : Value) (w : World), PatV X w v x → PatV X' w v' x → SameR 29 v v' w
  | .one k, ho, hn, X, X', v, v', w, h, h' => by
    simp only [PatOk] at ho
    simp only [PatV] at h h'
    obtain ⟨b, u, rfl, _, hB, hk⟩ := h
    obtain ⟨b', u', rfl, _, hB', hk'⟩ := h'
    exact sameP_c (vs := []) (vs' := []) (X := X) (X' := X) rfl (by simp) hB hB' Sl.nil0 Sl.nil0 (fun w' hb => sameKind_c k ho X X' _ _ w' (hk.below hb) (hk'.below hb)) (fun i x x' h => by simp at h)
  | .any, ho, hn, X, X', v, v', w, h, h' => by
    simp only [PatV] at h h'
    obtain ⟨b, rfl, _, hB⟩ := h
    obtain ⟨b', rfl, _, hB'⟩ := h'
    exact sameP_c (vs := []) (vs' := []) (X := X) (X' := X) rfl (by simp) hB hB' Sl.nil0 Sl.nil0 (fun w' _ => sameNil_c w') (fun i x x' h => by simp at h)
  | .edge, ho, hn, X, X', v, v', w, h, h' => by
    simp only [PatV] at h h'
    obtain ⟨b, rfl, _, hB⟩ := h
    obtain ⟨b', rfl, _, hB'⟩ := h'
    exact sameP_c (vs := []) (vs' := []) (X := X) (X' := X) rfl (by simp) hB hB' Sl.nil0 Sl.nil0 (fun w' _ => sameNil_c w') (fun i x x' h => by simp at h)
  | .cat l, ho, hn, X, X', v, v', w, h, h' => by
    simp only [PatOk] at ho
    simp only [PatV] at h h'
    obtain ⟨b, sv, vs, rfl, _, hB, hs, hl⟩ := h
    obtain ⟨b', sv', vs', rfl, _, hB', hs', hl'⟩ := h'
    have h0 := pn_in_cat (l := l)
    exact sameP_c (by rw [PatsV.len hl, PatsV.len hl']) (by rw [PatsV.len hl]; omega) hB hB' hs hs' (fun w' _ => sameNil_c w') (fun i x x' hx hx' w' hb => samePats_c l ho (fun y hy => by have := h0.2.2 y hy; omega) X X' vs vs' w hl hl' i x x' hx hx' w' hb)
  | .alt l, ho, hn, X, X', v, v', w, h, h' => by
    simp only [PatOk] at ho
    simp only [PatV] at h h'
    obtain ⟨b, sv, vs, rfl, _, hB, hs, hl⟩ := h
    obtain ⟨b', sv', vs', rfl, _, hB', hs', hl'⟩ := h'
    have h0 := pn_in_alt (l := l)
    exact sameP_c (by rw [PatsV.len hl, PatsV.len hl']) (by rw [PatsV.len hl]; omega) hB hB' hs hs' (fun w' _ => sameNil_c w') (fun i x x' hx hx' w' hb => samePats_c l ho (fun y hy => by have := h0.2.2 y hy; omega) X X' vs vs' w hl hl' i x x' hx hx' w' hb)
  | .many y lo hi, ho, hn, X, X', v, v', w, h, h' => by
    simp only [PatOk] at ho
    simp only [PatV] at h h'
    obtain ⟨b, sv, u, rfl, _, hB, hs, hu⟩ := h
    obtain ⟨b', sv', u', rfl, _, hB', hs', hu'⟩ := h'
    have h0 := pn_in_many (x := y) (lo := lo) (hi := hi)
    exact sameP_c (vs := [u]) (vs' := [u']) rfl (by simp) hB hB' hs hs' (fun w' _ => sameNil_c w') (fun i x x' hx hx' w' hb => by
      cases i with
      | zero =>
        cases hx
        cases hx'
        exact samePattern_c y ho.1 (by omega) X X' _ _ w' (hu.below hb) (hu'.below hb)
      | succ i => simp at hx)
theorem samePats_c : ∀ (l : List PatP), PatsOk l → (∀ y ∈ l, pn y ≤ 100000000) → ∀ (X X' : Nat → Prop) (vs vs' : List Nat) (w : World), PatsV X w vs l → PatsV X' w vs' l → ∀ (i x x' : Nat), vs[i]? = some x → vs'[i]? = some x' → ∀ w', Below w.heap.size w w' → SameR 29 (ptrP x) (ptrP x') w'
  | [], ho, hn, X, X', vs, vs', w, h, h', i, x, x', hx, hx', w', hb => by
    have := PatsV.len h
    have : vs = [] := List.length_eq_zero_iff.1 (by simpa using this)
    subst this
    simp at hx
  | y :: l, ho, hn, X, X', v :: vs, v' :: vs', w, h, h', 0, x, x', hx, hx', w', hb => by
    simp only [PatsOk] at ho
    simp only [PatsV] at h h'
    cases hx
    cases hx'
    exact samePattern_c y ho.1 (hn y (by simp)) X X' _ _ w' (h.1.below hb) (h'.1.below hb)
  | y :: l, ho, hn, X, X', v :: vs, v' :: vs', w, h, h', i + 1, x, x', hx, hx', w', hb => by
    simp only [PatsOk] at ho
    simp only [PatsV] at h h'
    exact samePats_c l ho.2 (fun z hz => hn z (by simp [hz])) X X' vs vs' w h.2 h'.2 i x x' (by simpa using hx) (by simpa using hx') w' hb
end
end Go.Proofs.YtphebgkbkdjjoaaGreatDoor
end
section
/- Two values of one file are the same: files. -/
namespace Go.Proofs.YtphebgkbkdjjoaaGreatDoor
open Go.Vc Go.Proofs Go.RowKit Cae
set_option maxRecDepth 100000
set_option linter.unusedSimpArgs false
set_option linter.unusedVariables false
attribute [local irreducible] wpL callK valK unitK runK Fun Sl Vc.Own vc vcOps opK pureK
set_option maxHeartbeats 40000000
theorem cellsAt_below {w w' : World} (hb : Below w.heap.size w w') : ∀ {n : Nat} {a : Addr} {i : Nat} {l : List Value}, cellsAt w a i n = some l → cellsAt w' a i n = some l
  | 0, a, i, l, h => h
  | n + 1, a, i, l, h => by
    unfold cellsAt at h ⊢
    cases hc : w.cell? (a.add i) with
    | none => rw [hc] at h; cases h
    | some v =>
      rw [hc] at h
      rw [(hb.cell (World.block_lt_of_cell? _ _ hc)).trans hc]
      cases hr : cellsAt w a (i + 1) n with
      | none => rw [hr] at h; cases h
      | some vs =>
        rw [hr] at h
        rw [cellsAt_below hb hr]
        exact h
theorem sameFile_c (f : FileP) (ho : FileOk f) (hn : ∀ r ∈ f.rules, pn r.before ≤ 100000000 ∧ pn r.after ≤ 100000000) (hc : f.classes.length ≤ 20) (hr : f.rules.length ≤ 20) (X X' : Nat → Prop) (v v' : Value) (w : World) (hv : FileV X w v f) (hv' : FileV X' w v' f) :
    SameR 9 v v' w := by
  obtain ⟨cv, rv, cs, rs, rfl, S1, S2, A1, A2⟩ := hv
  obtain ⟨cv', rv', cs', rs', rfl, S1', S2', A1', A2'⟩ := hv'
  obtain ⟨ca, cc, rfl, hcc⟩ := S1.shape
  obtain ⟨ra, rc, rfl, hrc⟩ := S2.shape
  obtain ⟨ca', cc', rfl, hcc'⟩ := S1'.shape
  obtain ⟨ra', rc', rfl, hrc'⟩ := S2'.shape
  have l1 := A1.len
  have l2 := A2.len
  have l1' := A1'.len
  have l2' := A2'.len
  have q1 : cs'.length = cs.length := by omega
  have q2 : rs'.length = rs.length := by omega
  unfold SameR
  rw [q1, q2]
  refine fun_of_wL Tryz.func9 rfl (by kernel_rfl) [4] rfl ?_
  push_cast -dsimp (maxSteps := 4000000) [Tryz.ntmps9]
  refine wpL_seqV ?_
  push_cast -dsimp
  refine boxK_of ?_
  intro w1 hw1
  have z1 := hw1.size
  have F1 : Blk w1 w.heap.size 28 [.slice ca cs.length cc, .slice ra rs.length rc, .bool f.els] := hw1.blk
  push_cast -dsimp
  refine boxK_of ?_
  intro w2 hw2
  have z2 := hw2.size
  have hgb : ∃ gb, gb = w1.heap.size := ⟨_, rfl⟩
  obtain ⟨gb, hgb⟩ := hgb
  have G2 : Blk w2 gb 28 [.slice ca' cs.length cc', .slice ra' rs.length rc', .bool f.els] := by rw [hgb]; exact hw2.blk
  have F2 := F1.below hw2.below F1.lt
  have b2 := hw1.below.trans (hw2.below.mono (by omega))
  rw [← hgb]
  have hgC : ∃ C : World → Prop, C = fun w'' => Blk w'' w.heap.size 28 [.slice ca cs.length cc, .slice ra rs.length rc, .bool f.els] ∧ Blk w'' gb 28 [.slice ca' cs.length cc', .slice ra' rs.length rc', .bool f.els] := ⟨_, rfl⟩
  obtain ⟨C, hC⟩ := hgC
  have gl : ∀ (o : Nat) (u : Value) (w'' : World), C w'' → [Value.slice ca cs.length cc, .slice ra rs.length rc, .bool f.els][o]? = some u → w''.cell? ⟨w.heap.size, o, none⟩ = some u := fun o u w'' h e => by rw [hC] at h; exact h.1.cell e
  have gr : ∀ (o : Nat) (u : Value) (w'' : World), C w'' → [Value.slice ca' cs.length cc', .slice ra' rs.length rc', .bool f.els][o]? = some u → w''.cell? ⟨gb, o, none⟩ = some u := fun o u w'' h e => by rw [hC] at h; exact h.2.cell e
  have bl : ∀ {x y : World}, Below x.heap.size x y → C x → C y := fun hb h => by rw [hC] at h ⊢; exact ⟨h.1.below hb h.1.lt, h.2.below hb h.2.lt⟩
  have hD : C w2 := by rw [hC]; exact ⟨F2, G2⟩
  have d0 := gl 0 _ _ hD rfl
  have d1 := gl 1 _ _ hD rfl
  have d2 := gl 2 _ _ hD rfl
  have e0 := gr 0 _ _ hD rfl
  have e1 := gr 1 _ _ hD rfl
  have e2 := gr 2 _ _ hD rfl
  push_cast -dsimp
  refine wpL_seqV ?_
  push_cast -dsimp [d0, d1, d2, e0, e1, e2, beq_self_eq_true, Bool.not_true]
  refine wpL_seqW (wpL_seqV ?_)
  push_cast -dsimp
  refine wpL_blockW ?_
  refine wpL_cutB [4, 5, 6, 7, 34, 35, 36, 37, 38, 39, 40, 41, 42, 43, 44, 45, 46, 47, 48, 49, 50, 51, 52, 53, 54, 55, 56, 57, 58, 59, 60, 61, 62, 63, 64, 65, 66, 67, 68, 69, 70] (fun z wx => C wx ∧ Below w.heap.size w wx) ?_ ?_
  · refine wpL_loopW [4, 5, 6, 7, 34, 35, 36, 37, 38, 39, 40, 41, 42, 43, 44, 45, 46, 47, 48, 49, 50, 51, 52, 53, 54, 55, 56, 57, 58, 59, 60, 61, 62, 63, 64, 65, 66, 67, 68, 69, 70] (fun z wx => ∃ i : Nat, z 5 = .int .i64 i ∧ i ≤ cs.length ∧ C wx ∧ Below w.heap.size w wx) (fun z _ => cs.length - (intOf (z 5)).toNat) ?_ ?_
    · exact ⟨0, rfl, Nat.zero_le _, hD, b2⟩
    rintro z wx ⟨i, h5, hi, hCx, hb⟩
    have x0 := gl 0 _ _ hCx rfl
    refine wpL_seqV ?_
    push_cast -dsimp [h5, x0]
    refine ⟨fun hlt => ?_, fun hge => ⟨hCx, hb⟩⟩
    have hy : f.classes[i]? = some f.classes[i] := List.getElem?_eq_getElem (by omega)
    have hgy : ∃ y, y = f.classes[i] := ⟨_, rfl⟩
    obtain ⟨y, hgy⟩ := hgy
    rw [← hgy] at hy
    have hKo := ho.1 y (List.mem_of_getElem? hy)
    obtain ⟨⟨n1, p1, u1⟩, hx, hn1, hp1, hV1⟩ := A1.at hy
    obtain ⟨⟨n2, p2, u2⟩, hx', hn2, hp2, hV2⟩ := A1'.at hy
    dsimp only at hn1 hp1 hV1 hn2 hp2 hV2
    obtain ⟨g, o, rfl, _, hcell⟩ := (S1.below hb).get hx
    obtain ⟨g', o', rfl, _, hcell'⟩ := (S1'.below hb).get hx'
    rw [hn1, hp1] at hcell
    rw [hn2, hp2] at hcell'
    have D1 : cellsAt wx ⟨g, o + i * 3, none⟩ 0 3 = some [str y.name, .int .i64 y.pos, ptrP u1] := cellsAt_of (encC (y.name, y.pos, u1)) 0 (fun j u hu => by simpa using hcell j u hu)
    have D2 : cellsAt wx ⟨g', o' + i * 3, none⟩ 0 3 = some [str y.name, .int .i64 y.pos, ptrP u2] := cellsAt_of (encC (y.name, y.pos, u2)) 0 (fun j u hu => by simpa using hcell' j u hu)
    have hCl : ∀ {x z : World}, Below x.heap.size x z → (C x ∧ cellsAt x ⟨g, o + i * 3, none⟩ 0 3 = some [str y.name, .int .i64 y.pos, ptrP u1] ∧ cellsAt x ⟨g', o' + i * 3, none⟩ 0 3 = some [str y.name, .int .i64 y.pos, ptrP u2]) → (C z ∧ cellsAt z ⟨g, o + i * 3, none⟩ 0 3 = some [str y.name, .int .i64 y.pos, ptrP u1] ∧ cellsAt z ⟨g', o' + i * 3, none⟩ 0 3 = some [str y.name, .int .i64 y.pos, ptrP u2]) := fun hb h => ⟨bl hb h.1, cellsAt_below hb h.2.1, cellsAt_below hb h.2.2⟩
    have hK0 := hCl (below_drewR wx) ⟨hCx, D1, D2⟩
    refine wpL_seqW (wpL_blockW (wpL_seqV ?_))
    push_cast -dsimp
    refine wpL_cut [6, 7, 41, 42, 43, 44, 45, 46, 47, 48, 49, 50] (fun z wy => ∃ p q : Nat, z 6 = .pointer (some ⟨p, 0, none⟩) ∧ z 7 = .pointer (some ⟨q, 0, none⟩) ∧ Blk wy p 58 [str y.name, .int .i64 y.pos, ptrP u1] ∧ Blk wy q 58 [str y.name, .int .i64 y.pos, ptrP u2] ∧ Below wx.heap.size wx wy) ?_ ?_
    · refine wpL_tree (.one 0 (.one 1 (.one 2 (.one 3 (.one 4 (.one 5 (.one 6 (.one 7 (.one 8 (.one 9 (.two 10 (.one 11 (.one 12 (.one 13 .done))) 11 (.one 10 (.one 12 (.one 13 .done)))))))))))))) (fun w'' => C w'' ∧ cellsAt w'' ⟨g, o + i * 3, none⟩ 0 3 = some [str y.name, .int .i64 y.pos, ptrP u1] ∧ cellsAt w'' ⟨g', o' + i * 3, none⟩ 0 3 = some [str y.name, .int .i64 y.pos, ptrP u2]) mixed (by kernel_rfl) hK0 ?_
      have y0 := gl 0 _ _ hK0.1 rfl
      have y1 := gr 0 _ _ hK0.1 rfl
      have y2 := hK0.2.1
      have y3 := hK0.2.2
      push_cast -dsimp [h5, y0, y1, y2, y3]
      refine ⟨fun w'' h => by rw [gl 0 _ _ h.1 rfl]; exact rfl, ⟨by omega, by omega⟩, fun w'' h => by rw [h.2.1]; exact rfl, fun w'' h => by rw [gr 0 _ _ h.1 rfl]; exact rfl, ⟨by omega, by omega⟩, fun w'' h => by rw [h.2.2]; exact rfl, ?_, ?_⟩
      ·
        -- 58 its type, 3 how many cells, [str [], .int .i64 0, .pointer none] what it is at first, y y what is stored, A1 A2 where the blocks are
        refine allocK (z := [str [], .int .i64 0, .pointer none]) (by kernel_rfl) ?_
        intro wa hwa
        have za := hwa.size
        have ba := (below_drewR wx).trans (hwa.below.mono (Nat.le_refl _))
        refine ⟨hCl ba ⟨hCx, D1, D2⟩, ?_⟩
        push_cast -dsimp
        refine allocK (z := [str [], .int .i64 0, .pointer none]) (by kernel_rfl) ?_
        intro wb hwb
        have zb := hwb.size
        have bb := ba.trans (hwb.below.mono ba.size)
        have A1 := hwa.blk.below hwb.below hwa.blk.lt
        have A2 := hwb.blk
        refine ⟨hCl bb ⟨hCx, D1, D2⟩, ?_⟩
        push_cast -dsimp
        refine storeAgg (xt := 58) (n := 3) (by kernel_rfl) A1 rfl (by decide) (by simp [ptrP]; exact ⟨rfl, rfl, rfl⟩) ?_
        intro wc hwc
        have bc := bb.trans (hwc.kept.below (B := wx.heap.size) bb.size (fun i h => by have : wx.drew.heap.size = wx.heap.size := rfl; omega))
        refine ⟨hCl bc ⟨hCx, D1, D2⟩, ?_⟩
        push_cast -dsimp
        have A3 := Blk.kept A2 hwc.kept (by omega)
        refine storeAgg (xt := 58) (n := 3) (by kernel_rfl) A3 rfl (by decide) (by simp [ptrP]; exact ⟨rfl, rfl, rfl⟩) ?_
        intro wd hwd
        have bd := bc.trans (hwd.kept.below (B := wx.heap.size) bc.size (fun i h => by have : wx.drew.heap.size = wx.heap.size := rfl; omega))
        refine ⟨hCl bd ⟨hCx, D1, D2⟩, ?_⟩
        push_cast -dsimp
        exact ⟨_, _, rfl, rfl, Blk.kept hwc.blk hwd.kept (by omega), hwd.blk, bd⟩
      ·
        -- 58 its type, 3 how many cells, [str [], .int .i64 0, .pointer none] what it is at first, y y what is stored, A2 A1 where the blocks are
        refine allocK (z := [str [], .int .i64 0, .pointer none]) (by kernel_rfl) ?_
        intro wa hwa
        have za := hwa.size
        have ba := (below_drewR wx).trans (hwa.below.mono (Nat.le_refl _))
        refine ⟨hCl ba ⟨hCx, D1, D2⟩, ?_⟩
        push_cast -dsimp
        refine allocK (z := [str [], .int .i64 0, .pointer none]) (by kernel_rfl) ?_
        intro wb hwb
        have zb := hwb.size
        have bb := ba.trans (hwb.below.mono ba.size)
        have A1 := hwa.blk.below hwb.below hwa.blk.lt
        have A2 := hwb.blk
        refine ⟨hCl bb ⟨hCx, D1, D2⟩, ?_⟩
        push_cast -dsimp
        refine storeAgg (xt := 58) (n := 3) (by kernel_rfl) A2 rfl (by decide) (by simp [ptrP]; exact ⟨rfl, rfl, rfl⟩) ?_
        intro wc hwc
        have bc := bb.trans (hwc.kept.below (B := wx.heap.size) bb.size (fun i h => by have : wx.drew.heap.size = wx.heap.size := rfl; omega))
        refine ⟨hCl bc ⟨hCx, D1, D2⟩, ?_⟩
        push_cast -dsimp
        have A3 := Blk.kept A1 hwc.kept (by omega)
        refine storeAgg (xt := 58) (n := 3) (by kernel_rfl) A3 rfl (by decide) (by simp [ptrP]; exact ⟨rfl, rfl, rfl⟩) ?_
        intro wd hwd
        have bd := bc.trans (hwd.kept.below (B := wx.heap.size) bc.size (fun i h => by have : wx.drew.heap.size = wx.heap.size := rfl; omega))
        refine ⟨hCl bd ⟨hCx, D1, D2⟩, ?_⟩
        push_cast -dsimp
        exact ⟨_, _, rfl, rfl, Blk.kept hwc.blk hwd.kept (by omega), hwd.blk, bd⟩
    · rintro z2 wy ⟨p, q, h6, h7, Bp, Bq, by1⟩
      have p0 : wy.cell? ⟨p, 0, none⟩ = some (str y.name) := Bp.cell rfl
      have p1 : wy.cell? ⟨p, 1, none⟩ = some (.int .i64 y.pos) := Bp.cell rfl
      have p2 : wy.cell? ⟨p, 2, none⟩ = some (ptrP u1) := Bp.cell rfl
      have q0 : wy.cell? ⟨q, 0, none⟩ = some (str y.name) := Bq.cell rfl
      have q1 : wy.cell? ⟨q, 1, none⟩ = some (.int .i64 y.pos) := Bq.cell rfl
      have q2 : wy.cell? ⟨q, 2, none⟩ = some (ptrP u2) := Bq.cell rfl
      have bw := hb.trans (by1.mono hb.size)
      push_cast -dsimp [h6, h7]
      refine wpL_of ?_
      push_cast -dsimp [p0, p1, p2, q0, q1, q2]
      refine callK_of (sameKind_c y.kind hKo X X' _ _ wy (hV1.below bw) (hV2.below bw)) ?_
      rintro _ wz ⟨rfl, bz⟩
      push_cast -dsimp [h5]
      refine wpL_of ?_
      push_cast -dsimp [h5]
      exact ⟨⟨by omega, by omega⟩, ⟨i + 1, rfl, by omega, bl bz (bl by1 hCx), bw.trans (bz.mono bw.size)⟩, by simp only [intOf, h5]; omega⟩
  · rintro z V0 ⟨hD3, b3⟩
    push_cast -dsimp
    refine wpL_seqW (wpL_seqV ?_)
    push_cast -dsimp
    refine wpL_blockW ?_
    refine wpL_cutB [4, 8, 9, 10, 71, 72, 73, 74, 75, 76, 77, 78, 79, 80, 81, 82, 83, 84, 85, 86, 87, 88, 89, 90, 91, 92, 93, 94, 95, 96, 97, 98, 99, 100, 101, 102, 103, 104, 105, 106, 107, 108, 109, 110, 111, 112, 113, 114, 115] (fun z wx => Below w.heap.size w wx) ?_ ?_
    · refine wpL_loopW [4, 8, 9, 10, 71, 72, 73, 74, 75, 76, 77, 78, 79, 80, 81, 82, 83, 84, 85, 86, 87, 88, 89, 90, 91, 92, 93, 94, 95, 96, 97, 98, 99, 100, 101, 102, 103, 104, 105, 106, 107, 108, 109, 110, 111, 112, 113, 114, 115] (fun z wx => ∃ i : Nat, z 8 = .int .i64 i ∧ i ≤ rs.length ∧ C wx ∧ Below w.heap.size w wx) (fun z _ => rs.length - (intOf (z 8)).toNat) ?_ ?_
      · exact ⟨0, rfl, Nat.zero_le _, hD3, b3⟩
      rintro z wx ⟨i, h5, hi, hCx, hb⟩
      have x0 := gl 1 _ _ hCx rfl
      refine wpL_seqV ?_
      push_cast -dsimp [h5, x0]
      refine ⟨fun hlt => ?_, fun hge => hb⟩
      have hy : f.rules[i]? = some f.rules[i] := List.getElem?_eq_getElem (by omega)
      have hgy : ∃ y, y = f.rules[i] := ⟨_, rfl⟩
      obtain ⟨y, hgy⟩ := hgy
      rw [← hgy] at hy
      have hKo := ho.2 y (List.mem_of_getElem? hy)
      have hKn := hn y (List.mem_of_getElem? hy)
      obtain ⟨⟨n1, p1, u1, v1⟩, hx, hn1, hp1, hV1, hU1⟩ := A2.at hy
      obtain ⟨⟨n2, p2, u2, v2⟩, hx', hn2, hp2, hV2, hU2⟩ := A2'.at hy
      dsimp only at hn1 hp1 hV1 hU1 hn2 hp2 hV2 hU2
      obtain ⟨g, o, rfl, _, hcell⟩ := (S2.below hb).get hx
      obtain ⟨g', o', rfl, _, hcell'⟩ := (S2'.below hb).get hx'
      rw [hn1, hp1] at hcell
      rw [hn2, hp2] at hcell'
      have D1 : cellsAt wx ⟨g, o + i * 4, none⟩ 0 4 = some [.int .i64 y.pos, .bool y.brk, ptrP u1, ptrP v1] := cellsAt_of (encRu (y.pos, y.brk, u1, v1)) 0 (fun j u hu => by simpa using hcell j u hu)
      have D2 : cellsAt wx ⟨g', o' + i * 4, none⟩ 0 4 = some [.int .i64 y.pos, .bool y.brk, ptrP u2, ptrP v2] := cellsAt_of (encRu (y.pos, y.brk, u2, v2)) 0 (fun j u hu => by simpa using hcell' j u hu)
      have hCl : ∀ {x z : World}, Below x.heap.size x z → (C x ∧ cellsAt x ⟨g, o + i * 4, none⟩ 0 4 = some [.int .i64 y.pos, .bool y.brk, ptrP u1, ptrP v1] ∧ cellsAt x ⟨g', o' + i * 4, none⟩ 0 4 = some [.int .i64 y.pos, .bool y.brk, ptrP u2, ptrP v2]) → (C z ∧ cellsAt z ⟨g, o + i * 4, none⟩ 0 4 = some [.int .i64 y.pos, .bool y.brk, ptrP u1, ptrP v1] ∧ cellsAt z ⟨g', o' + i * 4, none⟩ 0 4 = some [.int .i64 y.pos, .bool y.brk, ptrP u2, ptrP v2]) := fun hb h => ⟨bl hb h.1, cellsAt_below hb h.2.1, cellsAt_below hb h.2.2⟩
      have hK0 := hCl (below_drewR wx) ⟨hCx, D1, D2⟩
      refine wpL_seqW (wpL_blockW (wpL_seqV ?_))
      push_cast -dsimp
      refine wpL_cut [9, 10, 78, 79, 80, 81, 82, 83, 84, 85, 86, 87] (fun z wy => ∃ p q : Nat, z 9 = .pointer (some ⟨p, 0, none⟩) ∧ z 10 = .pointer (some ⟨q, 0, none⟩) ∧ Blk wy p 44 [.int .i64 y.pos, .bool y.brk, ptrP u1, ptrP v1] ∧ Blk wy q 44 [.int .i64 y.pos, .bool y.brk, ptrP u2, ptrP v2] ∧ Below wx.heap.size wx wy) ?_ ?_
      · refine wpL_tree (.one 0 (.one 1 (.one 2 (.one 3 (.one 4 (.one 5 (.one 6 (.one 7 (.one 8 (.one 9 (.two 10 (.one 11 (.one 12 (.one 13 .done))) 11 (.one 10 (.one 12 (.one 13 .done)))))))))))))) (fun w'' => C w'' ∧ cellsAt w'' ⟨g, o + i * 4, none⟩ 0 4 = some [.int .i64 y.pos, .bool y.brk, ptrP u1, ptrP v1] ∧ cellsAt w'' ⟨g', o' + i * 4, none⟩ 0 4 = some [.int .i64 y.pos, .bool y.brk, ptrP u2, ptrP v2]) mixed (by kernel_rfl) hK0 ?_
        have y0 := gl 1 _ _ hK0.1 rfl
        have y1 := gr 1 _ _ hK0.1 rfl
        have y2 := hK0.2.1
        have y3 := hK0.2.2
        push_cast -dsimp [h5, y0, y1, y2, y3]
        refine ⟨fun w'' h => by rw [gl 1 _ _ h.1 rfl]; exact rfl, ⟨by omega, by omega⟩, fun w'' h => by rw [h.2.1]; exact rfl, fun w'' h => by rw [gr 1 _ _ h.1 rfl]; exact rfl, ⟨by omega, by omega⟩, fun w'' h => by rw [h.2.2]; exact rfl, ?_, ?_⟩
        ·
          -- 44 its type, 4 how many cells, [.int .i64 0, .bool false, .pointer none, .pointer none] what it is at first, y y what is stored, A1 A2 where the blocks are
          refine allocK (z := [.int .i64 0, .bool false, .pointer none, .pointer none]) (by kernel_rfl) ?_
          intro wa hwa
          have za := hwa.size
          have ba := (below_drewR wx).trans (hwa.below.mono (Nat.le_refl _))
          refine ⟨hCl ba ⟨hCx, D1, D2⟩, ?_⟩
          push_cast -dsimp
          refine allocK (z := [.int .i64 0, .bool false, .pointer none, .pointer none]) (by kernel_rfl) ?_
          intro wb hwb
          have zb := hwb.size
          have bb := ba.trans (hwb.below.mono ba.size)
          have A1 := hwa.blk.below hwb.below hwa.blk.lt
          have A2 := hwb.blk
          refine ⟨hCl bb ⟨hCx, D1, D2⟩, ?_⟩
          push_cast -dsimp
          refine storeAgg (xt := 44) (n := 4) (by kernel_rfl) A1 rfl (by decide) (by simp [ptrP]; exact ⟨rfl, rfl, rfl, rfl⟩) ?_
          intro wc hwc
          have bc := bb.trans (hwc.kept.below (B := wx.heap.size) bb.size (fun i h => by have : wx.drew.heap.size = wx.heap.size := rfl; omega))
          refine ⟨hCl bc ⟨hCx, D1, D2⟩, ?_⟩
          push_cast -dsimp
          have A3 := Blk.kept A2 hwc.kept (by omega)
          refine storeAgg (xt := 44) (n := 4) (by kernel_rfl) A3 rfl (by decide) (by simp [ptrP]; exact ⟨rfl, rfl, rfl, rfl⟩) ?_
          intro wd hwd
          have bd := bc.trans (hwd.kept.below (B := wx.heap.size) bc.size (fun i h => by have : wx.drew.heap.size = wx.heap.size := rfl; omega))
          refine ⟨hCl bd ⟨hCx, D1, D2⟩, ?_⟩
          push_cast -dsimp
          exact ⟨_, _, rfl, rfl, Blk.kept hwc.blk hwd.kept (by omega), hwd.blk, bd⟩
        ·
          -- 44 its type, 4 how many cells, [.int .i64 0, .bool false, .pointer none, .pointer none] what it is at first, y y what is stored, A2 A1 where the blocks are
          refine allocK (z := [.int .i64 0, .bool false, .pointer none, .pointer none]) (by kernel_rfl) ?_
          intro wa hwa
          have za := hwa.size
          have ba := (below_drewR wx).trans (hwa.below.mono (Nat.le_refl _))
          refine ⟨hCl ba ⟨hCx, D1, D2⟩, ?_⟩
          push_cast -dsimp
          refine allocK (z := [.int .i64 0, .bool false, .pointer none, .pointer none]) (by kernel_rfl) ?_
          intro wb hwb
          have zb := hwb.size
          have bb := ba.trans (hwb.below.mono ba.size)
          have A1 := hwa.blk.below hwb.below hwa.blk.lt
          have A2 := hwb.blk
          refine ⟨hCl bb ⟨hCx, D1, D2⟩, ?_⟩
          push_cast -dsimp
          refine storeAgg (xt := 44) (n := 4) (by kernel_rfl) A2 rfl (by decide) (by simp [ptrP]; exact ⟨rfl, rfl, rfl, rfl⟩) ?_
          intro wc hwc
          have bc := bb.trans (hwc.kept.below (B := wx.heap.size) bb.size (fun i h => by have : wx.drew.heap.size = wx.heap.size := rfl; omega))
          refine ⟨hCl bc ⟨hCx, D1, D2⟩, ?_⟩
          push_cast -dsimp
          have A3 := Blk.kept A1 hwc.kept (by omega)
          refine storeAgg (xt := 44) (n := 4) (by kernel_rfl) A3 rfl (by decide) (by simp [ptrP]; exact ⟨rfl, rfl, rfl, rfl⟩) ?_
          intro wd hwd
          have bd := bc.trans (hwd.kept.below (B := wx.heap.size) bc.size (fun i h => by have : wx.drew.heap.size = wx.heap.size := rfl; omega))
          refine ⟨hCl bd ⟨hCx, D1, D2⟩, ?_⟩
          push_cast -dsimp
          exact ⟨_, _, rfl, rfl, Blk.kept hwc.blk hwd.kept (by omega), hwd.blk, bd⟩
      · rintro z2 wy ⟨p, q, h6, h7, Bp, Bq, by1⟩
        have p0 : wy.cell? ⟨p, 0, none⟩ = some (.int .i64 y.pos) := Bp.cell rfl
        have p1 : wy.cell? ⟨p, 1, none⟩ = some (.bool y.brk) := Bp.cell rfl
        have p2 : wy.cell? ⟨p, 2, none⟩ = some (ptrP u1) := Bp.cell rfl
        have q0 : wy.cell? ⟨q, 0, none⟩ = some (.int .i64 y.pos) := Bq.cell rfl
        have q1 : wy.cell? ⟨q, 1, none⟩ = some (.bool y.brk) := Bq.cell rfl
        have q2 : wy.cell? ⟨q, 2, none⟩ = some (ptrP u2) := Bq.cell rfl
        have bw := hb.trans (by1.mono hb.size)
        push_cast -dsimp [h6, h7]
        refine wpL_of ?_
        push_cast -dsimp [p0, p1, p2, q0, q1, q2, beq_self_eq_true, Bool.not_true]
        refine callK_of (samePattern_c y.before hKo.1 hKn.1 X X' _ _ wy (hV1.below bw) (hV2.below bw)) ?_
        rintro _ wz ⟨rfl, bz⟩
        have bwz := bw.trans (bz.mono bw.size)
        have p3 : wz.cell? ⟨p, 3, none⟩ = some (ptrP v1) := (Bp.below bz Bp.lt).cell rfl
        have q3 : wz.cell? ⟨q, 3, none⟩ = some (ptrP v2) := (Bq.below bz Bq.lt).cell rfl
        push_cast -dsimp [p3, q3]
        refine callK_of (samePattern_c y.after hKo.2 hKn.2 X X' _ _ wz (hU1.below bwz) (hU2.below bwz)) ?_
        rintro _ wv ⟨rfl, bv⟩
        push_cast -dsimp
        refine wpL_of ?_
        push_cast -dsimp [h5]
        exact ⟨⟨by omega, by omega⟩, ⟨i + 1, rfl, by omega, bl bv (bl bz (bl by1 hCx)), bwz.trans (bv.mono bwz.size)⟩, by simp only [intOf, h5]; omega⟩
    · rintro z2 V1 b4
      push_cast -dsimp
      refine wpL_of ?_
      push_cast -dsimp
      exact b4
end Go.Proofs.YtphebgkbkdjjoaaGreatDoor
end
section
set_option linter.unusedSimpArgs false
set_option linter.unusedVariables false
namespace Cae

/-! What was read can be written. -/
def TB (l : List Cae.Tok) : Prop := ∀ t ∈ l, t.text.length ≤ 1000000
def Iv {α : Type} (I : α → Prop) (p : Pa α) : Prop := ∀ l x l', TB l → p l = .ok (x, l') → I x ∧ TB l'
section
variable {α β : Type} {I : α → Prop} {J : β → Prop} {p : Pa α} {q : α → Pa β}
theorem Iv.pr {x : α} (h : I x) : Iv I (pr x) := fun l y l' hl e => by cases e; exact ⟨h, hl⟩
theorem Iv.fail {e : Nat} : Iv I (pfail e) := fun l y l' _ h => by cases h
theorem Iv.pb (h : Iv I p) (k : ∀ x, I x → Iv J (q x)) : Iv J (pb p q) := fun l y l' hl e => by
  obtain ⟨x, l1, e1, e2⟩ := pb_ok e
  obtain ⟨h1, h2⟩ := h l x l1 hl e1
  exact k x h1 l1 y l' h2 e2
theorem Iv.pif {cc : List Cae.Tok → Bool} {p1 p2 : Pa α} (h1 : Iv I p1) (h2 : Iv I p2) : Iv I (pif cc p1 p2) := fun l x l' hl e => by
  unfold Cae.pif at e
  split at e
  · exact h1 l x l' hl e
  · exact h2 l x l' hl e
theorem Iv.ite {c : Prop} [Decidable c] {p1 p2 : Pa α} (h1 : c → Iv I p1) (h2 : ¬ c → Iv I p2) : Iv I (if c then p1 else p2) := by
  by_cases h : c
  · rw [if_pos h]; exact h1 h
  · rw [if_neg h]; exact h2 h
end
def Tv {α : Type} (_ : α) : Prop := True
theorem Iv.peek : Iv (fun t => t.text.length ≤ 1000000) peek := fun l x l' hl e => by
  cases e
  refine ⟨?_, hl⟩
  cases l with
  | nil => simp [hd]
  | cons t r => exact hl t (List.mem_cons_self ..)
theorem Iv.pop : Iv Tv popP := fun l x l' hl e => by
  obtain ⟨t, rfl, _⟩ := pop_ok e
  exact ⟨trivial, fun y hy => hl y (List.mem_cons_of_mem _ hy)⟩
theorem iv_must (s : List UInt8) : Iv Tv (mustP s) := Iv.pif Iv.pop Iv.fail
theorem iv_name : Iv Tv nameP := Iv.pif (Iv.pif Iv.fail (Iv.pb Iv.peek fun t _ => Iv.pb Iv.pop fun _ _ => Iv.pr trivial)) Iv.fail
theorem iv_bin : Iv (fun c => c = 0 ∨ c = 3 ∨ c = 4 ∨ c = 5) binP :=
  Iv.pif (Iv.pb Iv.pop fun _ _ => Iv.pr (by simp)) (Iv.pif (Iv.pb Iv.pop fun _ _ => Iv.pr (by simp)) (Iv.pif (Iv.pb Iv.pop fun _ _ => Iv.pr (by simp)) (Iv.pr (by simp))))
theorem iv_kindLoop {one : Pa KindP} (h : Iv KindOk one) (pos : Nat) : ∀ (n : Nat) (k : KindP), KindOk k → Iv KindOk (kindLoop one pos n k)
  | 0, k, _ => Iv.fail
  | n + 1, k, hk => Iv.pb iv_bin fun c hc => Iv.ite (fun _ => Iv.pr hk) fun hc0 => Iv.pb h fun r hr => iv_kindLoop h pos n _ ⟨hk, hr, by rcases hc with hc | hc; exact absurd hc hc0; exact hc⟩
theorem iv_kindW {one : Pa KindP} (h : Iv KindOk one) : Iv KindOk (kindW one) := Iv.pb Iv.peek fun t _ => Iv.pb h fun k hk => iv_kindLoop h _ _ _ hk
theorem iv_lit : Iv KindOk litP := Iv.pb Iv.peek fun t ht => by
  cases hs : setP t.text with
  | none => exact Iv.fail
  | some s =>
    refine Iv.pb Iv.pop fun _ _ => Iv.pr ?_
    have h1 := setP_ok hs
    refine ⟨h1.1, ?_⟩
    have h2 : printP s = t.text := h1.2
    have h3 := (join_bounds (s.map rgP) [32] (by decide)).2
    have h4 : (printP s).length = (Go.Lib.join (s.map rgP) [32]).length + 2 := by simp [printP]
    rw [h2] at h4
    rw [List.length_map] at h3
    omega
theorem iv_one : ∀ d, Iv KindOk (oneP d)
  | 0 => Iv.fail
  | d + 1 => Iv.pif iv_lit (Iv.pif (Iv.pb Iv.peek fun t _ => Iv.pb Iv.pop fun _ _ => Iv.pb (iv_one d) fun k hk => Iv.pr hk)
      (Iv.pif (Iv.pb Iv.pop fun _ _ => Iv.pb (iv_kindW (iv_one d)) fun k hk => Iv.pb (iv_must _) fun _ _ => Iv.pr hk)
        (Iv.pb Iv.peek fun t _ => Iv.pb iv_name fun n _ => Iv.pr trivial)))
theorem iv_times : Iv (fun n => n ≤ 12) timesP := Iv.pif (Iv.pb Iv.peek fun t _ => Iv.ite (fun _ => Iv.fail) fun h => Iv.pb Iv.pop fun _ _ => Iv.pr (by omega)) Iv.fail
def RgOk (q : Int × Int) : Prop := 0 ≤ q.1 ∧ q.1 < 100 ∧ q.2 < 100 ∧ (q.2 < 0 ∨ q.1 ≤ q.2)
theorem iv_braces : Iv RgOk bracesP := Iv.pb iv_times fun lo hlo => Iv.pif (Iv.pb Iv.pop fun _ _ => Iv.pif
    (Iv.pb iv_times fun hi hhi => Iv.ite (fun _ => Iv.fail) fun hh => Iv.pb (iv_must _) fun _ _ => Iv.pr ⟨by show 0 ≤ (lo : Int); omega, by show (lo : Int) < 100; omega, by show (hi : Int) < 100; omega, .inr (by show (lo : Int) ≤ hi; omega)⟩)
    (Iv.pb (iv_must _) fun _ _ => Iv.pr ⟨by show 0 ≤ (lo : Int); omega, by show (lo : Int) < 100; omega, by show (-1 : Int) < 100; omega, .inl (by show (-1 : Int) < 0; omega)⟩))
  (Iv.pb (iv_must _) fun _ _ => Iv.pr ⟨by show 0 ≤ (lo : Int); omega, by show (lo : Int) < 100; omega, by show (lo : Int) < 100; omega, .inr (Int.le_refl _)⟩)
theorem iv_suffix : Iv (fun o => ∀ q, o = some q → RgOk q) suffixP := by
  have h : ∀ r : Int × Int, RgOk r → Iv (fun o => ∀ q, o = some q → RgOk q) (pb popP fun _ => pr (some r)) := fun r hr => Iv.pb Iv.pop fun _ _ => Iv.pr (by intro q e; cases e; exact hr)
  refine Iv.pif (h _ (by unfold RgOk; decide)) (Iv.pif (h _ (by unfold RgOk; decide)) (Iv.pif (h _ (by unfold RgOk; decide)) (Iv.pif ?_ (Iv.pr (by intro q e; cases e)))))
  exact Iv.pb Iv.pop fun _ _ => Iv.pb iv_braces fun r hr => Iv.pr (by intro q e; cases e; exact hr)
theorem iv_againLoop (d : Nat) : ∀ (n c : Nat) (x : PatP), PatOk x → Iv PatOk (againLoop d n c x)
  | 0, _, _, _ => Iv.fail
  | n + 1, c, x, hx => Iv.pb iv_suffix fun r hr => by
      cases r with
      | none => exact Iv.pr hx
      | some q =>
        have hq := hr q rfl
        refine Iv.ite (fun _ => Iv.fail) fun _ => iv_againLoop d n (c + 1) _ ?_
        simp only [PatOk]
        exact ⟨hx, hq.1, hq.2.1, hq.2.2⟩
theorem iv_againW {d : Nat} {unit : Pa PatP} (h : Iv PatOk unit) : Iv PatOk (againW d unit) := Iv.pb h fun x hx => iv_againLoop d _ _ _ hx
theorem patsOk_snoc : ∀ {l : List PatP} {x : PatP}, PatsOk l → PatOk x → PatsOk (l ++ [x])
  | [], x, _, h => by simp only [List.nil_append, PatsOk]; exact ⟨h, trivial⟩
  | y :: l, x, hl, h => by
    simp only [PatsOk, List.cons_append] at hl ⊢
    exact ⟨hl.1, patsOk_snoc hl.2 h⟩
theorem patsOk_nil : PatsOk [] := by simp only [PatsOk]
theorem iv_rowLoop {again : Pa PatP} (h : Iv PatOk again) : ∀ (n : Nat) (a : List PatP), PatsOk a → Iv PatsOk (rowLoop again n a)
  | 0, _, _ => Iv.fail
  | n + 1, a, ha => Iv.pif (Iv.pb h fun x hx => iv_rowLoop h n _ (patsOk_snoc ha hx)) (Iv.pr ha)
theorem rowOf_ok {l : List PatP} (h : PatsOk l) : PatOk (rowOf l) := by
  match l with
  | [] => simp only [rowOf, PatOk]; exact h
  | [x] => simp only [PatsOk] at h; exact h.1
  | x :: y :: l => simp only [rowOf, PatOk]; exact h
theorem altOf_ok {l : List PatP} (h : PatsOk l) : PatOk (altOf l) := by
  match l with
  | [] => simp only [altOf, PatOk]; exact h
  | [x] => simp only [PatsOk] at h; exact h.1
  | x :: y :: l => simp only [altOf, PatOk]; exact h
theorem iv_rowW {again : Pa PatP} (h : Iv PatOk again) : Iv PatOk (rowW again) := Iv.pb (iv_rowLoop h _ _ patsOk_nil) fun ps hps => Iv.pr (rowOf_ok hps)
theorem iv_altLoop {row : Pa PatP} (h : Iv PatOk row) : ∀ (n : Nat) (a : List PatP), PatsOk a → Iv PatsOk (altLoop row n a)
  | 0, _, _ => Iv.fail
  | n + 1, a, ha => Iv.pif (Iv.pb Iv.pop fun _ _ => Iv.pb h fun x hx => iv_altLoop h n _ (patsOk_snoc ha hx)) (Iv.pr ha)
theorem iv_altW {row : Pa PatP} (h : Iv PatOk row) : Iv PatOk (altW row) := Iv.pb h fun x hx => Iv.pb (iv_altLoop h _ _ (patsOk_snoc patsOk_nil hx)) fun ps hps => Iv.pr (altOf_ok hps)
theorem iv_patW {d : Nat} {unit : Pa PatP} (h : Iv PatOk unit) : Iv PatOk (patW d unit) := Iv.ite (fun _ => Iv.fail) fun _ => iv_altW (iv_rowW (iv_againW h))
theorem iv_unit : ∀ d, Iv PatOk (unitP d)
  | 0 => Iv.fail
  | d + 1 => Iv.pif (Iv.pb Iv.pop fun _ _ => Iv.pr (by simp only [PatOk])) (Iv.pif (Iv.pb Iv.pop fun _ _ => Iv.pr (by simp only [PatOk]))
      (Iv.pif (Iv.pb Iv.pop fun _ _ => Iv.pb (iv_patW (iv_unit d)) fun x hx => Iv.pb (iv_must _) fun _ _ => Iv.pr hx)
        (Iv.pif (Iv.pb (iv_one (d + 1)) fun k hk => Iv.pr (by simp only [PatOk]; exact hk)) Iv.fail)))
theorem iv_pat (d : Nat) : Iv PatOk (patP d) := iv_patW (iv_unit d)
theorem iv_says : Iv Tv saysP := Iv.pif (Iv.pb Iv.pop fun _ _ => Iv.pr trivial) (Iv.pb (iv_must _) fun _ _ => Iv.pr trivial)
theorem iv_rule : Iv (fun r => PatOk r.before ∧ PatOk r.after) ruleP := Iv.pb Iv.peek fun t _ => Iv.pb iv_says fun b _ => Iv.pb (iv_pat 9) fun x hx => Iv.pb (iv_must _) fun _ _ => Iv.pb (iv_pat 9) fun y hy => Iv.pb (iv_must _) fun _ _ => Iv.pr ⟨hx, hy⟩
theorem iv_class : Iv (fun c => KindOk c.kind) classP := Iv.pb Iv.peek fun t _ => Iv.pb (iv_must _) fun _ _ => Iv.pb iv_name fun n _ => Iv.pb (iv_must _) fun _ _ => Iv.pb (iv_kindW (iv_one 9)) fun k hk => Iv.pb (iv_must _) fun _ _ => Iv.pr hk
theorem iv_ruleLoop : ∀ (n : Nat) (acc : List RuleP), acc.length ≤ 20 ∧ (∀ r ∈ acc, PatOk r.before ∧ PatOk r.after) → Iv (fun l => l.length ≤ 20 ∧ ∀ r ∈ l, PatOk r.before ∧ PatOk r.after) (ruleLoop n acc)
  | 0, _, _ => Iv.fail
  | n + 1, acc, ha => Iv.pif (Iv.ite (fun _ => Iv.fail) fun h => Iv.pb iv_rule fun r hr => iv_ruleLoop n _ ⟨by have := ha.1; rw [List.length_append, List.length_singleton]; omega, fun x hx => by
      rcases List.mem_append.1 hx with hx | hx
      · exact ha.2 x hx
      · rw [List.mem_singleton.1 hx]; exact hr⟩) (Iv.pr ha)
theorem iv_classLoop : ∀ (n : Nat) (acc : List ClassP), acc.length ≤ 20 ∧ (∀ c ∈ acc, KindOk c.kind) → Iv (fun l => l.length ≤ 20 ∧ ∀ c ∈ l, KindOk c.kind) (classLoop n acc)
  | 0, _, _ => Iv.fail
  | n + 1, acc, ha => Iv.pif (Iv.ite (fun _ => Iv.fail) fun h => Iv.pb iv_class fun r hr => iv_classLoop n _ ⟨by have := ha.1; rw [List.length_append, List.length_singleton]; omega, fun x hx => by
      rcases List.mem_append.1 hx with hx | hx
      · exact ha.2 x hx
      · rw [List.mem_singleton.1 hx]; exact hr⟩) (Iv.pr ha)
theorem iv_file : Iv (fun f => FileOk f ∧ f.classes.length ≤ 20 ∧ f.rules.length ≤ 20) fileP := Iv.pb (iv_classLoop _ _ ⟨by simp, by simp⟩) fun cs hcs => Iv.pb (iv_ruleLoop _ _ ⟨by simp, by simp⟩) fun rs hrs =>
  Iv.pb (I := Tv) (fun l x l' hl e => ⟨trivial, (show Iv Tv elseP from Iv.pif (Iv.pb Iv.pop fun _ _ => Iv.pb iv_says fun _ _ => Iv.pb (iv_must _) fun _ _ => Iv.pr trivial) (Iv.pr trivial)) l x l' hl e |>.2⟩) fun b _ => Iv.pr ⟨⟨hcs.2, hrs.2⟩, hcs.1, hrs.1⟩
end Cae
namespace Go.Proofs.YtphebgkbkdjjoaaGreatDoor
open Go.Vc Go.Proofs Go.RowKit Cae
set_option maxRecDepth 100000
set_option linter.unusedSimpArgs false
set_option linter.unusedVariables false
attribute [local irreducible] wpL callK valK unitK runK Fun Sl Vc.Own vc vcOps opK pureK
theorem parse_ok {s : List UInt8} {f : FileP} (hs : s.length ≤ 1000000) (h : parseR s = .ok f) : FileOk f ∧ f.classes.length ≤ 20 ∧ f.rules.length ≤ 20 := by
  unfold parseR at h
  split at h
  · cases h
  · rename_i l hl
    have htl := tl_of hs hl
    split at h
    · cases h
    · rename_i f' l' hf
      split at h
      · cases h
        exact (iv_file _ _ _ htl.txt hf).1
      · cases h
end Go.Proofs.YtphebgkbkdjjoaaGreatDoor
end
section
namespace Go.Proofs.YtphebgkbkdjjoaaGreatDoor
open Go.Vc Go.Proofs Go.RowKit Cae
set_option maxRecDepth 100000
set_option linter.unusedSimpArgs false
set_option linter.unusedVariables false
attribute [local irreducible] wpL callK valK unitK runK Fun Sl Vc.Own vc vcOps opK pureK
set_option maxHeartbeats 4000000
theorem below_drew (w : World) : Below w.heap.size w w.drew := ((Kept.refl (fun _ => False) w).drew).below (Nat.le_refl _) (fun _ h => h.elim)
theorem KindV.drew {X : Nat → Prop} {w : World} {k : KindP} {v : Value} (h : KindV X w v k) : KindV X w.drew v k :=
  h.mono (X := X) ((Kept.refl (fun _ => False) w).drew) (fun _ h => h.elim) (fun _ h => h)
theorem PatV.drew {X : Nat → Prop} {w : World} {x : PatP} {v : Value} (h : PatV X w v x) : PatV X w.drew v x :=
  h.mono (X := X) ((Kept.refl (fun _ => False) w).drew) (fun _ h => h.elim) (fun _ h => h)
theorem PatsV.nth {X : Nat → Prop} {w : World} : ∀ {l : List PatP} {vs : List Nat} {i : Nat} {x : PatP}, PatsV X w vs l → l[i]? = some x → ∃ u, vs[i]? = some u ∧ PatV X w (ptrP u) x
  | [], _, i, x, _, hx => by simp at hx
  | _ :: _, [], _, _, h, _ => by simp only [PatsV] at h
  | y :: l, v :: vs, 0, x, h, hx => by
    simp only [PatsV] at h
    cases hx
    exact ⟨v, rfl, h.1⟩
  | y :: l, v :: vs, i + 1, x, h, hx => by
    simp only [PatsV] at h
    exact PatsV.nth (i := i) h.2 (by simpa using hx)
theorem patsOk_mem : ∀ {l : List PatP} {x : PatP}, PatsOk l → x ∈ l → PatOk x
  | y :: l, x, h, hx => by
    simp only [PatsOk] at h
    rcases List.mem_cons.1 hx with rfl | hx
    · exact h.1
    · exact patsOk_mem h.2 hx
theorem FileV.below {X : Nat → Prop} {w w' : World} {v : Value} {f : FileP} (h : FileV X w v f) (hb : Below w.heap.size w w') : FileV X w' v f := by
  obtain ⟨cv, rv, cs, rs, rfl, S1, S2, A1, A2⟩ := h
  exact ⟨cv, rv, cs, rs, rfl, S1.below hb, S2.below hb, A1.imp fun a c h => ⟨h.1, h.2.1, h.2.2.below hb⟩, A2.imp fun a c h => ⟨h.1, h.2.1, h.2.2.1.below hb, h.2.2.2.below hb⟩⟩
end Go.Proofs.YtphebgkbkdjjoaaGreatDoor
end
section
/- What both parsers answer. -/
namespace Cae
def fileOf (s : List UInt8) : FileP := match parseR s with
  | .ok f => f
  | .error _ => ⟨[], [], false⟩
def faultOf (s : List UInt8) : Int × Int := match parseR s with
  | .ok _ => (0, -1)
  | .error (e, p) => ((e : Int), (p : Int))
theorem pn_textS {f : FileP} {r : RuleP} (hr : r ∈ f.rules) : pn r.before ≤ (fileText f).length + 5 ∧ pn r.after ≤ (fileText f).length + 5 := by
  have h1 := flatS_mem ruleText hr
  have h2 := rt_len r
  have h3 : (f.rules.flatMap ruleText).length ≤ (fileText f).length := by simp only [fileText, List.length_append]; omega
  have h4 := pt_zero r.before
  have h5 := pt_zero r.after
  have hp1 : pn r.before = (patText r.before 2).length + 3 := rfl
  have hp2 : pn r.after = (patText r.after 2).length + 3 := rfl
  omega
end Cae
namespace Go.Proofs.YtphebgkbkdjjoaaGreatDoor
open Go.Vc Go.Proofs Go.RowKit Cae
set_option maxRecDepth 100000
set_option linter.unusedSimpArgs false
set_option linter.unusedVariables false
attribute [local irreducible] wpL callK valK unitK runK Fun Sl Vc.Own vc vcOps opK pureK
set_option maxHeartbeats 40000000
theorem fileOf_ok (s : List UInt8) (hs : s.length ≤ 1000000) : FileOk (fileOf s) ∧ (fileOf s).classes.length ≤ 20 ∧ (fileOf s).rules.length ≤ 20 ∧ ∀ r ∈ (fileOf s).rules, pn r.before ≤ 100000000 ∧ pn r.after ≤ 100000000 := by
  unfold fileOf
  cases h : parseR s with
  | error e =>
    dsimp only
    exact ⟨⟨fun c hc => (by cases hc), fun r hr => (by cases hr)⟩, Nat.zero_le _, Nat.zero_le _, fun r hr => by cases hr⟩
  | ok f =>
    dsimp only
    have h1 := parse_ok hs h
    have h2 := text_len h
    exact ⟨h1.1, h1.2.1, h1.2.2, fun r hr => by have := pn_textS hr; omega⟩
/-- A file that was read, and what is said of it. -/
def ReadV (w w' : World) (s : List UInt8) (v : Value) : Prop := ∃ cv rv, (∃ a k c, cv = .slice a k c) ∧ (∃ a k c, rv = .slice a k c) ∧ v = .agg #[cv, rv, .bool (fileOf s).els] ∧ FileV (· < w.heap.size) w' v (fileOf s)
theorem readV_of {w w' : World} {s : List UInt8} {v : Value} (h : FileV (· < w.heap.size) w' v (fileOf s)) : ReadV w w' s v := by
  obtain ⟨cv, rv, cs, rs, rfl, S1, S2, A1, A2⟩ := h
  obtain ⟨ca, cc, hc, _⟩ := S1.shape
  obtain ⟨ra, rc, hr, _⟩ := S2.shape
  exact ⟨cv, rv, ⟨_, _, _, hc⟩, ⟨_, _, _, hr⟩, rfl, cv, rv, cs, rs, rfl, S1, S2, A1, A2⟩
theorem fileV_none (X : Nat → Prop) (w : World) : FileV X w (.agg #[.slice none 0 0, .slice none 0 0, .bool false]) ⟨[], [], false⟩ := ⟨_, _, [], [], rfl, Sl.nil0, Sl.nil0, .nil, .nil⟩
theorem refRead {w w' : World} {s : List UInt8} {r : Value} (h : RParsR w s r w') : ∃ v, r = .tuple #[v, .agg #[.int .i64 (faultOf s).1, .int .i64 (faultOf s).2]] ∧ ReadV w w' s v := by
  rcases h with ⟨f, v, hp, rfl, hv⟩ | ⟨e, p, hp, _, rfl⟩
  · have hf : fileOf s = f := by unfold fileOf; rw [hp]
    have hq : faultOf s = (0, -1) := by unfold faultOf; rw [hp]
    rw [hq]
    exact ⟨v, rfl, readV_of (by rw [hf]; exact hv)⟩
  · have hf : fileOf s = ⟨[], [], false⟩ := by unfold fileOf; rw [hp]
    have hq : faultOf s = ((e : Int), (p : Int)) := by unfold faultOf; rw [hp]
    rw [hq]
    exact ⟨_, rfl, readV_of (by rw [hf]; exact fileV_none _ _)⟩
theorem ruleRead {w w' : World} {s : List UInt8} {r : Value} (h : ParsR w s r w') : ∃ v ev, r = .tuple #[v, ev] ∧ ReadV w w' s v ∧ Errs w' ev (faultOf s).1 (faultOf s).2 := by
  rcases h with ⟨f, v, hp, rfl, hv⟩ | ⟨e, p, b, hp, rfl, _, hB⟩
  · have hf : fileOf s = f := by unfold fileOf; rw [hp]
    have hq : faultOf s = (0, -1) := by unfold faultOf; rw [hp]
    rw [hq]
    exact ⟨v, _, rfl, readV_of (by rw [hf]; exact hv), .inl ⟨rfl, rfl, rfl⟩⟩
  · have hf : fileOf s = ⟨[], [], false⟩ := by unfold fileOf; rw [hp]
    have hq : faultOf s = ((e : Int), (p : Int)) := by unfold faultOf; rw [hp]
    rw [hq]
    exact ⟨_, _, rfl, readV_of (by rw [hf]; exact fileV_none _ _), .inr (.at_ b _ _ (hB.cell rfl) (hB.cell rfl))⟩
end Go.Proofs.YtphebgkbkdjjoaaGreatDoor
end
section
namespace Cae
theorem decP_dec : ∀ n, n < 100 → Go.Lib.decDigits n = decP n := by decide +kernel
end Cae
namespace Go.Proofs.YtphebgkbkdjjoaaGreatDoor
open Go.Vc Go.Proofs Go.RowKit Cae
set_option maxRecDepth 100000
set_option linter.unusedSimpArgs false
set_option linter.unusedVariables false
attribute [local irreducible] wpL callK valK unitK runK Fun Sl Vc.Own vc vcOps opK pureK
set_option maxHeartbeats 4000000
def itoaR_ren : Go.Shelf.Ren := ⟨fun | 171 => 33 | 243 => 58 | 246 => 76 | 283 => 97 | 284 => 98 | 285 => 99 | 286 => 100 | 129 => 129 | 317 => 128 | 318 => 130 | 319 => 131 | 320 => 132 | 337 => 149 | 338 => 150 | n => n, fun | 3 => 3 | 9 => 9 | 2 => 2 | 4 => 4 | 171 => 149 | 0 => 0 | 53 => 150 | 37 => 88 | 5 => 5 | 173 => 153 | 212 => 192 | 51 => 155 | 20 => 20 | 213 => 193 | 46 => 22 | 232 => 231 | 233 => 232 | n => n, fun | 17 => 4 | 18 => 8 | 19 => 9 | n => n⟩
theorem itoaR : Go.Proofs.Lays.n171 Tryz.prog itoaR_ren := {
  mixed := by kernel_rfl
  f129 := Tryz.func129.trans (congrArg some (by kernel_rfl))
  f171 := Tryz.func33.trans (congrArg some (by kernel_rfl))
  f243 := Tryz.func58.trans (congrArg some (by kernel_rfl))
  f246 := Tryz.func76.trans (congrArg some (by kernel_rfl))
  f283 := Tryz.func97.trans (congrArg some (by kernel_rfl))
  f284 := Tryz.func98.trans (congrArg some (by kernel_rfl))
  f285 := Tryz.func99.trans (congrArg some (by kernel_rfl))
  f286 := Tryz.func100.trans (congrArg some (by kernel_rfl))
  f317 := Tryz.func128.trans (congrArg some (by kernel_rfl))
  f318 := Tryz.func130.trans (congrArg some (by kernel_rfl))
  f319 := Tryz.func131.trans (congrArg some (by kernel_rfl))
  f320 := Tryz.func132.trans (congrArg some (by kernel_rfl))
  f337 := Tryz.func149.trans (congrArg some (by kernel_rfl))
  f338 := Tryz.func150.trans (congrArg some (by kernel_rfl))
  t0 := Tryz.underlying0
  a0 := Tryz.isAgg0
  z0 := Tryz.sizeOf0
  v0 := Tryz.zeroValue0
  t2 := Tryz.underlying2
  a2 := Tryz.isAgg2
  z2 := Tryz.sizeOf2
  v2 := Tryz.zeroValue2
  t3 := Tryz.underlying3
  a3 := Tryz.isAgg3
  z3 := Tryz.sizeOf3
  v3 := Tryz.zeroValue3
  t4 := Tryz.underlying4
  a4 := Tryz.isAgg4
  z4 := Tryz.sizeOf4
  v4 := Tryz.zeroValue4
  t5 := Tryz.underlying5
  a5 := Tryz.isAgg5
  z5 := Tryz.sizeOf5
  v5 := Tryz.zeroValue5
  t9 := Tryz.underlying9
  a9 := Tryz.isAgg9
  z9 := Tryz.sizeOf9
  v9 := Tryz.zeroValue9
  t20 := Tryz.underlying20
  a20 := Tryz.isAgg20
  z20 := Tryz.sizeOf20
  v20 := Tryz.zeroValue20
  t37 := Tryz.underlying88
  a37 := Tryz.isAgg88
  z37 := Tryz.sizeOf88
  v37 := Tryz.zeroValue88
  t46 := Tryz.underlying22
  a46 := Tryz.isAgg22
  z46 := Tryz.sizeOf22
  v46 := Tryz.zeroValue22
  t51 := Tryz.underlying155
  a51 := Tryz.isAgg155
  z51 := Tryz.sizeOf155
  v51 := Tryz.zeroValue155
  t53 := Tryz.underlying150
  a53 := Tryz.isAgg150
  z53 := Tryz.sizeOf150
  v53 := Tryz.zeroValue150
  t171 := Tryz.underlying149
  a171 := Tryz.isAgg149
  z171 := Tryz.sizeOf149
  v171 := Tryz.zeroValue149
  t173 := Tryz.underlying153
  a173 := Tryz.isAgg153
  z173 := Tryz.sizeOf153
  v173 := Tryz.zeroValue153
  t212 := Tryz.underlying192
  a212 := Tryz.isAgg192
  z212 := Tryz.sizeOf192
  v212 := Tryz.zeroValue192
  t213 := Tryz.underlying193
  a213 := Tryz.isAgg193
  z213 := Tryz.sizeOf193
  t232 := Tryz.underlying231
  a232 := Tryz.isAgg231
  z232 := Tryz.sizeOf231
  v232 := Tryz.zeroValue231
  t233 := Tryz.underlying232
  a233 := Tryz.isAgg232
  z233 := Tryz.sizeOf232
  v233 := Tryz.zeroValue232
  g17 := by kernel_rfl
  g18 := by kernel_rfl
  g19 := by kernel_rfl }

theorem itoa_c (n : Int) (h0 : 0 ≤ n) (h1 : n < 100) (w : World) : Fun Tryz.prog 33 [.int .i64 n] w fun r w' => r = str (decP n.toNat) ∧ w' = w := by
  refine fun_of_calls Tryz.func33 (by kernel_rfl) (by kernel_rfl) ?_
  have := Any.strconv_Itoa_small itoaR n.toNat (by omega) w
  rw [Int.toNat_of_nonneg h0] at this
  refine Calls.mono this ?_
  rintro e w' ⟨rfl, rfl⟩
  refine ⟨_, rfl, ?_, rfl⟩
  rw [decP_dec _ (by omega)]
  rfl
theorem timesT_c (lo hi : Int) (h0 : 0 ≤ lo) (h1 : lo < 100) (h2 : hi < 100) (w : World) : Fun Tryz.prog 56 [.int .i64 lo, .int .i64 hi] w fun r w' => r = str (timesText lo hi) ∧ w' = w := by
  have l1 := decP_len lo.toNat
  have l2 := decP_len hi.toNat
  have l3 := decP_len 0
  have hdef : timesText lo hi = if lo = 0 ∧ hi < 0 then [42] else if lo = 1 ∧ hi < 0 then [43] else if lo = 0 ∧ hi = 1 then [63]
    else if hi < 0 then 123 :: (decP lo.toNat ++ [44, 125])
    else if hi = lo then 123 :: (decP lo.toNat ++ [125])
    else 123 :: (decP lo.toNat ++ 44 :: (decP hi.toNat ++ [125])) := rfl
  have ll1 : ([123] ++ decP lo.toNat).length < 10 := by rw [List.length_append]; simp; omega
  refine fun_of_vc Tryz.func56 rfl (by kernel_rfl) [4] rfl ?_
  push_cast -dsimp (maxSteps := 4000000) [Tryz.ntmps56]
  by_cases a0 : lo = 0
  · subst a0
    by_cases a1 : hi < 0
    · simp only [eq_true a1, not_true_eq_false, false_implies, true_implies, and_true]
      exact congrArg str (by rw [hdef, if_pos ⟨rfl, a1⟩])
    · by_cases a2 : hi = 1
      · subst a2
        simp only [Int.reduceLT, Int.reduceEq, not_false_eq_true, not_true_eq_false, false_implies, true_implies, and_true, true_and]
        rfl
      · have e1 : ¬ ((0 : Int) = 1) := by decide
        simp only [eq_false a1, eq_false a2, eq_false e1, not_false_eq_true, not_true_eq_false, false_implies, true_implies, and_true, true_and]
        by_cases a3 : hi = 0
        · simp only [eq_true a3, not_false_eq_true, not_true_eq_false, false_implies, true_implies, and_true, true_and]
          refine callK_of (itoa_c _ (by omega) (by omega) w) ?_
          rintro _ _ ⟨rfl, rfl⟩
          push_cast -dsimp
          refine ⟨by omega, by simp only [List.length_append, List.length_singleton]; omega, congrArg str ?_⟩
          rw [hdef, if_neg (by omega), if_neg (by omega), if_neg (by omega), if_neg (by omega), if_pos a3]
          rfl
        · simp only [eq_false a3, not_false_eq_true, not_true_eq_false, false_implies, true_implies, and_true, true_and]
          refine callK_of (itoa_c _ (by omega) (by omega) w) ?_
          rintro _ _ ⟨rfl, rfl⟩
          push_cast -dsimp
          refine ⟨by omega, by simp only [List.length_append, List.length_singleton]; omega, ?_⟩
          refine callK_of (itoa_c hi (by omega) (by omega) _) ?_
          rintro _ _ ⟨rfl, rfl⟩
          push_cast -dsimp
          simp only [List.length_append, List.length_singleton]
          refine ⟨by omega, by omega, congrArg str ?_⟩
          rw [hdef, if_neg (by omega), if_neg (by omega), if_neg (by omega), if_neg (by omega), if_neg a3]
          simp
  · by_cases a1 : hi < 0
    · by_cases a2 : lo = 1
      · simp only [eq_false a0, eq_true a1, eq_true a2, not_false_eq_true, not_true_eq_false, false_implies, true_implies, and_true, true_and]
        exact congrArg str (by rw [hdef, if_neg (by omega), if_pos ⟨a2, a1⟩])
      · simp only [eq_false a0, eq_true a1, eq_false a2, not_false_eq_true, not_true_eq_false, false_implies, true_implies, and_true, true_and]
        refine callK_of (itoa_c lo h0 h1 w) ?_
        rintro _ _ ⟨rfl, rfl⟩
        push_cast -dsimp
        refine ⟨by omega, by simp only [List.length_append, List.length_singleton]; omega, congrArg str ?_⟩
        rw [hdef, if_neg (by omega), if_neg (by omega), if_neg (by omega), if_pos a1]
        rfl
    · have e2 : (lo = 1 → (hi < 0 → False)) := by omega
      by_cases a2 : lo = 1
      · simp only [eq_false a0, eq_false a1, eq_true a2, not_false_eq_true, not_true_eq_false, false_implies, true_implies, and_true, true_and]
        by_cases a3 : hi = lo
        · simp only [eq_true a3, not_false_eq_true, not_true_eq_false, false_implies, true_implies, and_true, true_and]
          refine callK_of (itoa_c _ (by omega) (by omega) w) ?_
          rintro _ _ ⟨rfl, rfl⟩
          push_cast -dsimp
          refine ⟨by omega, by simp only [List.length_append, List.length_singleton]; omega, congrArg str ?_⟩
          rw [hdef, if_neg (by omega), if_neg (by omega), if_neg (by omega), if_neg (by omega), if_pos a3]
          rfl
        · simp only [eq_false a3, not_false_eq_true, not_true_eq_false, false_implies, true_implies, and_true, true_and]
          refine callK_of (itoa_c _ (by omega) (by omega) w) ?_
          rintro _ _ ⟨rfl, rfl⟩
          push_cast -dsimp
          refine ⟨by omega, by simp only [List.length_append, List.length_singleton]; omega, ?_⟩
          refine callK_of (itoa_c hi (by omega) (by omega) _) ?_
          rintro _ _ ⟨rfl, rfl⟩
          push_cast -dsimp
          simp only [List.length_append, List.length_singleton]
          refine ⟨by omega, by omega, congrArg str ?_⟩
          rw [hdef, if_neg (by omega), if_neg (by omega), if_neg (by omega), if_neg (by omega), if_neg a3]
          simp
      · simp only [eq_false a0, eq_false a1, eq_false a2, not_false_eq_true, not_true_eq_false, false_implies, true_implies, and_true, true_and]
        by_cases a3 : hi = lo
        · simp only [eq_true a3, not_false_eq_true, not_true_eq_false, false_implies, true_implies, and_true, true_and]
          refine callK_of (itoa_c _ (by omega) (by omega) w) ?_
          rintro _ _ ⟨rfl, rfl⟩
          push_cast -dsimp
          refine ⟨by omega, by simp only [List.length_append, List.length_singleton]; omega, congrArg str ?_⟩
          rw [hdef, if_neg (by omega), if_neg (by omega), if_neg (by omega), if_neg (by omega), if_pos a3]
          rfl
        · simp only [eq_false a3, not_false_eq_true, not_true_eq_false, false_implies, true_implies, and_true, true_and]
          refine callK_of (itoa_c _ (by omega) (by omega) w) ?_
          rintro _ _ ⟨rfl, rfl⟩
          push_cast -dsimp
          refine ⟨by omega, by simp only [List.length_append, List.length_singleton]; omega, ?_⟩
          refine callK_of (itoa_c hi (by omega) (by omega) _) ?_
          rintro _ _ ⟨rfl, rfl⟩
          push_cast -dsimp
          simp only [List.length_append, List.length_singleton]
          refine ⟨by omega, by omega, congrArg str ?_⟩
          rw [hdef, if_neg (by omega), if_neg (by omega), if_neg (by omega), if_neg (by omega), if_neg a3]
          simp
end Go.Proofs.YtphebgkbkdjjoaaGreatDoor
end
section
namespace Go.Proofs.YtphebgkbkdjjoaaGreatDoor
open Go.Vc Go.Proofs Go.RowKit Cae
set_option maxRecDepth 100000
set_option linter.unusedSimpArgs false
set_option linter.unusedVariables false
attribute [local irreducible] wpL callK valK unitK runK Fun Sl Vc.Own vc vcOps opK pureK
set_option maxHeartbeats 4000000
theorem kt_len : ∀ k : KindP, (kindText k false).length ≤ (kindText k true).length ∧ (kindText k true).length ≤ (kindText k false).length + 2
  | .lit _ s => by simp [kindText]
  | .ref _ n => by simp [kindText]
  | .not _ k => by simp [kindText]
  | .bin c _ k r => by
    have := kt_len k
    have := kt_len r
    simp [kindText]
    omega
theorem kindText_c : ∀ (k : KindP), KindOk k → ∀ (alone : Bool), (kindText k true).length ≤ 1000000000 → ∀ (X : Nat → Prop) (v : Value) (w : World), KindV X w v k → Db w →
    Fun Tryz.prog 35 [v, .bool alone] w fun r w' => r = str (kindText k alone) ∧ Below w.heap.size w w' := by
  intro k
  induction k with
  | lit pos s =>
    rintro hok alone hlen X v w ⟨b, sv, rfl, hb, hB, hs, _⟩ hd
    have d0 : w.cell? ⟨b, 0, none⟩ = some (.int .i64 1) := hB.cell rfl
    have d2 : w.cell? ⟨b, 2, none⟩ = some sv := hB.cell rfl
    obtain ⟨_, _, rfl, _⟩ := hs.shape
    (refine fun_of_vc Tryz.func35 rfl (by kernel_rfl) [4] rfl ?_; push_cast -dsimp (maxSteps := 4000000) [Tryz.ntmps35])
    push_cast -dsimp [d0, d2]
    refine callK_of (print_c s hok.2 (wr_right (a := -2) (by omega) hok.1) X _ w hs hd) ?_
    rintro _ w2 ⟨rfl, hb2⟩
    push_cast -dsimp
    exact ⟨rfl, hb2⟩
  | ref pos n =>
    rintro hok alone hlen X v w ⟨b, rfl, hb, hB⟩ hd
    have d0 : w.cell? ⟨b, 0, none⟩ = some (.int .i64 2) := hB.cell rfl
    have d3 : w.cell? ⟨b, 3, none⟩ = some (str n) := hB.cell rfl
    (refine fun_of_vc Tryz.func35 rfl (by kernel_rfl) [4] rfl ?_; push_cast -dsimp (maxSteps := 4000000) [Tryz.ntmps35])
    push_cast -dsimp [d0, d3]
    exact ⟨rfl, Below.refl _ _⟩
  | not pos k ih =>
    rintro hok alone hlen X v w ⟨b, u, rfl, hb, hB, h1⟩ hd
    obtain ⟨b1, rfl, hb1⟩ := h1.ptr
    have d0 : w.cell? ⟨b, 0, none⟩ = some (.int .i64 6) := hB.cell rfl
    have d4 : w.cell? ⟨b, 4, none⟩ = some (.pointer (some ⟨b1, 0, none⟩)) := hB.cell rfl
    have hl : (kindText k true).length + 1 = (kindText (.not pos k) true).length := by simp [kindText]
    (refine fun_of_vc Tryz.func35 rfl (by kernel_rfl) [4] rfl ?_; push_cast -dsimp (maxSteps := 4000000) [Tryz.ntmps35])
    push_cast -dsimp [d0, d4]
    refine callK_of (ih hok true (by omega) X _ w h1 hd) ?_
    rintro _ w2 ⟨rfl, hb2⟩
    push_cast -dsimp
    exact ⟨by omega, rfl, hb2⟩
  | bin c pos k r ih1 ih2 =>
    rintro hok alone hlen X v w ⟨b, u, x, rfl, hb, hB, h1, h2⟩ hd
    obtain ⟨b1, rfl, hb1⟩ := h1.ptr
    obtain ⟨b2, rfl, hb2⟩ := h2.ptr
    have d0 : w.cell? ⟨b, 0, none⟩ = some (.int .i64 c) := hB.cell rfl
    have k1 := kt_len k
    have k2 := kt_len r
    have hl : (kindText (.bin c pos k r) true).length = (kindText k false).length + (kindText r true).length + 5 := by
      rcases hok.2.2 with rfl | rfl | rfl <;> simp [kindText] <;> omega
    rcases hok.2.2 with rfl | rfl | rfl
    · have d0 : w.cell? ⟨b, 0, none⟩ = some (.int .i64 3) := hB.cell rfl
      (refine fun_of_vc Tryz.func35 rfl (by kernel_rfl) [4] rfl ?_; push_cast -dsimp (maxSteps := 4000000) [Tryz.ntmps35])
      push_cast -dsimp [d0]
      refine wpL_draw (fun w' => Below w.drew.heap.size w.drew w') mixed (by kernel_rfl) (Below.refl _ _) ?_
      have Bd := hB.drew
      have d4 : w.drew.cell? ⟨b, 4, none⟩ = some (.pointer (some ⟨b1, 0, none⟩)) := Bd.cell rfl
      have d5 : w.drew.cell? ⟨b, 5, none⟩ = some (.pointer (some ⟨b2, 0, none⟩)) := Bd.cell rfl
      push_cast -dsimp [d4, d5]
      refine ⟨fun w'' h => by rw [show w''.cell? ⟨b, 4, none⟩ = some (.pointer (some ⟨b1, 0, none⟩)) from (Bd.below h Bd.lt).cell rfl]; exact rfl, ?_⟩
      refine callK_of (ih1 hok.1 false (by omega) X _ w.drew (h1.drew) hd) ?_
      rintro _ w2 ⟨rfl, hb2⟩
      refine ⟨hb2, ?_⟩
      have B2 := Bd.below hb2 Bd.lt
      have d52 : w2.cell? ⟨b, 5, none⟩ = some (.pointer (some ⟨b2, 0, none⟩)) := B2.cell rfl
      push_cast -dsimp [d52]
      refine ⟨by omega, fun w'' h => by rw [show w''.cell? ⟨b, 5, none⟩ = some (.pointer (some ⟨b2, 0, none⟩)) from (Bd.below h Bd.lt).cell rfl]; exact rfl, ?_⟩
      refine callK_of (ih2 hok.2.1 true (by omega) X _ w2 ((h2.drew).below hb2) (hd.below (w := w.drew) hb2 hd.lt)) ?_
      rintro _ w3 ⟨rfl, hb3⟩
      have hb23 := hb2.trans (hb3.mono hb2.size)
      refine ⟨hb23, ?_⟩
      have hbw : Below w.heap.size w w3 := (below_drew w).trans hb23
      cases alone with
      | true =>
        push_cast -dsimp
        simp only [List.length_append, List.length_cons, List.length_nil]
        exact ⟨by omega, by omega, by omega, congrArg str (by simp [kindText]), hbw⟩
      | false =>
        push_cast -dsimp
        simp only [List.length_append, List.length_cons, List.length_nil]
        exact ⟨by omega, congrArg str (by simp [kindText]), hbw⟩
    · have d0 : w.cell? ⟨b, 0, none⟩ = some (.int .i64 4) := hB.cell rfl
      (refine fun_of_vc Tryz.func35 rfl (by kernel_rfl) [4] rfl ?_; push_cast -dsimp (maxSteps := 4000000) [Tryz.ntmps35])
      push_cast -dsimp [d0]
      refine wpL_draw (fun w' => Below w.drew.heap.size w.drew w') mixed (by kernel_rfl) (Below.refl _ _) ?_
      have Bd := hB.drew
      have d4 : w.drew.cell? ⟨b, 4, none⟩ = some (.pointer (some ⟨b1, 0, none⟩)) := Bd.cell rfl
      have d5 : w.drew.cell? ⟨b, 5, none⟩ = some (.pointer (some ⟨b2, 0, none⟩)) := Bd.cell rfl
      push_cast -dsimp [d4, d5]
      refine ⟨fun w'' h => by rw [show w''.cell? ⟨b, 4, none⟩ = some (.pointer (some ⟨b1, 0, none⟩)) from (Bd.below h Bd.lt).cell rfl]; exact rfl, ?_⟩
      refine callK_of (ih1 hok.1 false (by omega) X _ w.drew (h1.drew) hd) ?_
      rintro _ w2 ⟨rfl, hb2⟩
      refine ⟨hb2, ?_⟩
      have B2 := Bd.below hb2 Bd.lt
      have d52 : w2.cell? ⟨b, 5, none⟩ = some (.pointer (some ⟨b2, 0, none⟩)) := B2.cell rfl
      push_cast -dsimp [d52]
      refine ⟨by omega, fun w'' h => by rw [show w''.cell? ⟨b, 5, none⟩ = some (.pointer (some ⟨b2, 0, none⟩)) from (Bd.below h Bd.lt).cell rfl]; exact rfl, ?_⟩
      refine callK_of (ih2 hok.2.1 true (by omega) X _ w2 ((h2.drew).below hb2) (hd.below (w := w.drew) hb2 hd.lt)) ?_
      rintro _ w3 ⟨rfl, hb3⟩
      have hb23 := hb2.trans (hb3.mono hb2.size)
      refine ⟨hb23, ?_⟩
      have hbw : Below w.heap.size w w3 := (below_drew w).trans hb23
      cases alone with
      | true =>
        push_cast -dsimp
        simp only [List.length_append, List.length_cons, List.length_nil]
        exact ⟨by omega, by omega, by omega, congrArg str (by simp [kindText]), hbw⟩
      | false =>
        push_cast -dsimp
        simp only [List.length_append, List.length_cons, List.length_nil]
        exact ⟨by omega, congrArg str (by simp [kindText]), hbw⟩
    · have d0 : w.cell? ⟨b, 0, none⟩ = some (.int .i64 5) := hB.cell rfl
      (refine fun_of_vc Tryz.func35 rfl (by kernel_rfl) [4] rfl ?_; push_cast -dsimp (maxSteps := 4000000) [Tryz.ntmps35])
      push_cast -dsimp [d0]
      refine wpL_draw (fun w' => Below w.drew.heap.size w.drew w') mixed (by kernel_rfl) (Below.refl _ _) ?_
      have Bd := hB.drew
      have d4 : w.drew.cell? ⟨b, 4, none⟩ = some (.pointer (some ⟨b1, 0, none⟩)) := Bd.cell rfl
      have d5 : w.drew.cell? ⟨b, 5, none⟩ = some (.pointer (some ⟨b2, 0, none⟩)) := Bd.cell rfl
      push_cast -dsimp [d4, d5]
      refine ⟨fun w'' h => by rw [show w''.cell? ⟨b, 4, none⟩ = some (.pointer (some ⟨b1, 0, none⟩)) from (Bd.below h Bd.lt).cell rfl]; exact rfl, ?_⟩
      refine callK_of (ih1 hok.1 false (by omega) X _ w.drew (h1.drew) hd) ?_
      rintro _ w2 ⟨rfl, hb2⟩
      refine ⟨hb2, ?_⟩
      have B2 := Bd.below hb2 Bd.lt
      have d52 : w2.cell? ⟨b, 5, none⟩ = some (.pointer (some ⟨b2, 0, none⟩)) := B2.cell rfl
      push_cast -dsimp [d52]
      refine ⟨by omega, fun w'' h => by rw [show w''.cell? ⟨b, 5, none⟩ = some (.pointer (some ⟨b2, 0, none⟩)) from (Bd.below h Bd.lt).cell rfl]; exact rfl, ?_⟩
      refine callK_of (ih2 hok.2.1 true (by omega) X _ w2 ((h2.drew).below hb2) (hd.below (w := w.drew) hb2 hd.lt)) ?_
      rintro _ w3 ⟨rfl, hb3⟩
      have hb23 := hb2.trans (hb3.mono hb2.size)
      refine ⟨hb23, ?_⟩
      have hbw : Below w.heap.size w w3 := (below_drew w).trans hb23
      cases alone with
      | true =>
        push_cast -dsimp
        simp only [List.length_append, List.length_cons, List.length_nil]
        exact ⟨by omega, by omega, by omega, congrArg str (by simp [kindText]), hbw⟩
      | false =>
        push_cast -dsimp
        simp only [List.length_append, List.length_cons, List.length_nil]
        exact ⟨by omega, congrArg str (by simp [kindText]), hbw⟩
end Go.Proofs.YtphebgkbkdjjoaaGreatDoor
end
