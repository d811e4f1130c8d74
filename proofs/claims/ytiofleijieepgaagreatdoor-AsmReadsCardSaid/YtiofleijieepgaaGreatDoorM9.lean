/- Texts of this claim, merged: At8, Vt, At9. -/
import Derived.Test.YtiofleijieepgaaGreatDoorM8
import Derived.Test.YtiofleijieepgaaGreatDoorM7
import Derived.Test.YtiofleijieepgaaGreatDoorM6
section
namespace Go.Proofs.YtiofleijieepgaaGreatDoor
open Go.Vc Go.Proofs Go.RowKit Cae
set_option maxRecDepth 100000
set_option linter.unusedSimpArgs false
set_option linter.unusedVariables false
attribute [local irreducible] wpL callK valK unitK runK Fun Sl Vc.Own vc vcOps opK pureK
set_option maxHeartbeats 4000000
/-- Code that is being read: in a block cb, its rows the call's own (from B on); sets of it lie in none of these, nor in X. -/
structure Cd (B cb : Nat) (X : Nat → Prop) (w : World) (c : CodeP) : Prop where
  st : ∃ sv iv us, Blk w cb 43 [sv, iv] ∧ Vc.Own B 102 1 encSV w sv us ∧ Vc.Own B 89 3 encIn w iv c.ins ∧ us.length = c.sets.length ∧
    sv.ownBlock ≠ some cb ∧ iv.ownBlock ≠ some cb ∧ (∀ g, sv.ownBlock = some g → iv.ownBlock ≠ some g) ∧
    ∀ (i : Nat) (u : SV) (s : List Rg), us[i]? = some u → c.sets[i]? = some s → Sl (fun b => X b ∨ b = cb ∨ sv.ownBlock = some b ∨ iv.ownBlock = some b) 2 (En encR) w u.v s
  lt : cb < B
  le : B ≤ w.heap.size
  few : ∀ s ∈ c.sets, setRight (-2) s = true
theorem cut_len (c : UInt8) (s : List UInt8) : (cutP c s).1.length ≤ s.length ∧ (cutP c s).2.1.length ≤ s.length := by
  have h := cut_back c s
  cases hf : (cutP c s).2.2 with
  | true =>
    rw [hf] at h
    have := congrArg List.length h.1
    simp only [if_true, List.length_append, List.length_cons] at this
    omega
  | false =>
    rw [hf] at h
    have h1 := congrArg List.length h.1
    rw [h.2 rfl]
    simp at h1 ⊢
    omega
theorem sliceArrAll {P : Program} {xt : TypeId} {n s : Nat} {e : TypeId} {E : Option (TypeId × Nat)} {a : Addr} {L : VP} {o : Oper} {t : Fr} {w : World} {K : VK} {Q : EP} {p} (hu : P.underlying xt = some (.array n e)) (hn : P.arrayLen xt = n) (he : P.elem xt = e)
    (hs : (sizeOf e).run P w = .ok s w) (ho : execOp (ev t) o = (do pure (.value (← Instr.sliceAt xt (.pointer (some a)) none none none)))) (hj : 0 < n)
    (k : K (.slice (some a) n n) w) : sliceK (P.underlying xt) E (.pointer (some a)) none none none L (runK P o t w K Q .mk) p := by
  rw [hu]
  show runK P o t w K Q .mk
  refine runK_val ho (valK_of ?_ k)
  rw [run_sliceAt_array_all w xt a (by rw [hu, hn, he]), he, hs]
  rw [hn]
  unfold slicedAt
  show Result.ok (Value.slice (some (if n = 0 then a else a.add (0 * s))) (n - 0) (n - 0)) w = _
  rw [if_neg (by omega), Nat.zero_mul, Nat.sub_zero]
  rfl
theorem Cd.below {B cb : Nat} {X : Nat → Prop} {w w' : World} {c : CodeP} (h : Cd B cb X w c) (hb : Below w.heap.size w w') : Cd B cb X w' c := by
  obtain ⟨sv, iv, us, hB, hO1, hO2, hul, hs1, hs2, hs3, hus⟩ := h.st
  exact ⟨⟨sv, iv, us, hB.below hb hB.lt, hO1.below hb, hO2.below hb, hul, hs1, hs2, hs3, fun i u s h1 h2 => (hus i u s h1 h2).below hb⟩, h.lt, Nat.le_trans h.le hb.size, h.few⟩
theorem inst_c (B cb : Nat) (X : Nat → Prop) (c : CodeP) (s : List UInt8) (hs : s.length ≤ 1000000) (hsz : c.sets.length ≤ 1000000) (hin : c.ins.length ≤ 1000000) (w : World) (h : Cd B cb X w c) (hX : ∀ b, X b → b < B) (hd : Db w) (he : SErrs w) (hp : Pw w) (hn : Nms w) (hg : 14 ≤ B) :
    Fun Tryz.prog 60 [.pointer (some ⟨cb, 0, none⟩), str s] w fun r w' => r = .bool (instA c s).isSome ∧ (∀ c', instA c s = some c' → Cd B cb X w' c') ∧ (∃ c', Cd B cb X w' c') ∧ Kept (fun i => i = cb ∨ B ≤ i) w w' := by
  obtain ⟨sv, iv, us, hB, hO1, hO2, hul, hs1, hs2, hs3, hus⟩ := h.st
  obtain ⟨sa, sc, rfl⟩ := hO1.slice
  obtain ⟨ia, ic, rfl⟩ := hO2.slice
  have hle := h.le
  refine fun_of_vc Tryz.func60 rfl (by kernel_rfl) [4] rfl ?_
  push_cast -dsimp (maxSteps := 4000000) [Tryz.ntmps60]
  refine callK_of (cut_c s 32 (by omega) w) ?_
  rintro _ w1 ⟨rfl, hb1⟩
  have z1 := hb1.size
  have hn1 := hn.below (hb1.mono hle) hg
  push_cast -dsimp
  refine sliceArrAll (n := 6) (s := 1) (e := 9) (by kernel_rfl) (by kernel_rfl) (by kernel_rfl) (by rfl) rfl (by omega) ?_
  push_cast -dsimp
  refine callK_of (opIdx_c (cutP 32 s).1 w1 hn1) ?_
  rintro _ w1' ⟨rfl, hw1e⟩
  obtain rfl : w1 = w1' := hw1e.symm
  push_cast -dsimp
  refine allocK (z := [.int .i64 0, .int .i64 0, .int .i64 0]) (by kernel_rfl) ?_
  intro w2 hw2
  have z2 := hw2.size
  push_cast -dsimp
  refine storeAgg (n := 3) (by kernel_rfl) hw2.blk rfl (by simp) (by simp; exact ⟨rfl, rfl⟩) ?_
  intro w3 hw3
  have z3 := hw3.size
  have B3 : Blk w3 w1.heap.size 89 [.int .i64 (opOf (cutP 32 s).1), .int .i64 0, .int .i64 0] := hw3.blk
  have hb3 : Below w1.heap.size w1 w3 := hw2.below.trans (hw3.kept.below (B := w1.heap.size) (by omega) (fun i h => by omega))
  have hbw3 := hb1.trans (hb3.mono z1)
  have d30 : w3.cell? ⟨w1.heap.size, 0, none⟩ = some (.int .i64 (opOf (cutP 32 s).1)) := B3.cell rfl
  push_cast -dsimp [d30]
  have ho : opOf (cutP 32 s).1 = 0 ∨ opOf (cutP 32 s).1 = -1 ∨ (opOf (cutP 32 s).1 = 1 ∧ (cutP 32 s).1 = [116, 97, 107, 101]) ∨ (opOf (cutP 32 s).1 = 2 ∧ (cutP 32 s).1 = [115, 112, 108, 105, 116]) ∨ (opOf (cutP 32 s).1 = 3 ∧ (cutP 32 s).1 = [106, 117, 109, 112]) ∨ (opOf (cutP 32 s).1 = 4 ∧ (cutP 32 s).1 = [101, 110, 100]) ∨ (opOf (cutP 32 s).1 = 5 ∧ (cutP 32 s).1 = [121, 101, 115]) := by
    unfold opOf
    repeat' split
    all_goals simp_all
  have k3 : Kept (fun i => i = cb ∨ B ≤ i) w w3 := Kept.of_below hbw3 (fun i h1 h2 => by omega)
  refine ⟨fun hno => ?_, fun hyes => ?_⟩
  · have hn0 : instA c s = none := by
      unfold instA
      dsimp only
      rcases ho with h | h | ⟨h, _⟩ | ⟨h, _⟩ | ⟨h, _⟩ | ⟨h, _⟩ | ⟨h, _⟩ <;> (try omega)
      · unfold opOf at h
        repeat' split at h
        all_goals first | omega | skip
        all_goals simp_all
      · unfold opOf at h
        repeat' split at h
        all_goals first | omega | skip
        all_goals simp_all
    exact ⟨by rw [hn0]; rfl, fun c' h' => (by rw [hn0] at h'; cases h'), ⟨_, h.below hbw3⟩, k3⟩
  have hyes' := Classical.not_not.1 hyes
  rcases ho with h0 | h0 | ⟨h0, hnm⟩ | ⟨h0, hnm⟩ | ⟨h0, hnm⟩ | ⟨h0, hnm⟩ | ⟨h0, hnm⟩
  · omega
  · omega
  · rw [h0] at B3
    have e21 : ¬ ((1 : Int) = 2) := by decide
    rw [h0]
    refine ⟨fun _ => ?_, fun h => absurd rfl h⟩
    have hIA := instA_take (c := c) hnm
    refine callK_of (parse_c (cutP 32 s).2.1 (by have := (cut_len 32 s).2; omega) w3 (hd.kept' (hbw3.mono hle) hg) (he.below hbw3)) ?_
    rintro r w4 ⟨hP, hb4⟩
    have z4 := hb4.size
    have B4 := B3.below hb4 (by omega)
    have hbw4 := hbw3.trans (hb4.mono (by omega))
    rcases hP with ⟨v, t, rfl, hO, hPr⟩ | ⟨hno, rfl⟩
    · have hsp := setP_of hPr
      have hIA : instA c s = some ⟨if idxS t c.sets < c.sets.length then c.sets else c.sets ++ [t], c.ins ++ [⟨1, idxS t c.sets, 0⟩]⟩ := by rw [hIA, hsp]
      have htl := right_len (setP_right hsp)
      push_cast -dsimp
      refine allocK (z := [.slice none 0 0]) (by kernel_rfl) ?_
      intro w5 hw5
      have z5 := hw5.size
      obtain ⟨va, vc, rfl⟩ := hO.slice
      push_cast -dsimp
      refine storeK_of hw5.blk (by simp) rfl ?_
      intro w6 hw6
      have z6 := hw6.size
      have hb56 : Below w4.heap.size w4 w6 := hw5.below.trans (hw6.kept.below (by omega) (fun _ h => by omega))
      have hbw6 := hbw4.trans (hb56.mono (by omega))
      have B6 := B4.below hb56 (by omega)
      have hB6 := hB.below hbw6 hB.lt
      have b60 : w6.cell? ⟨cb, 0, none⟩ = some (.slice sa us.length sc) := hB6.cell rfl
      push_cast -dsimp [b60]
      have hSV : SetsV (fun _ => False) w6 (.slice sa us.length sc) c.sets := SetsV.of_values hul ((hO1.below hbw6).sl.weaken (fun _ h => h.elim)) (fun i u s h1 h2 => ((hus i u s h1 h2).below hbw6).weaken (fun _ h => h.elim))
      have hu6 : Sl (fun _ => False) 2 (En encR) w6 (.slice va t.length vc) t := (hO.below hb56).sl.weaken (fun _ h => h.elim)
      have S6 : Blk w6 w4.heap.size 102 [.slice va t.length vc] := hw6.blk
      have c60 : w6.cell? ⟨w4.heap.size, 0, none⟩ = some (.slice va t.length vc) := S6.cell rfl
      refine callK_of (setIdx_c t (by omega) c.sets (by omega) (fun x hx => by have := right_len (h.few x hx); omega) (fun _ => False) (fun _ => False) (.slice sa us.length sc) (.slice va t.length vc) w4.heap.size w6 hSV hu6 c60) ?_
      rintro _ w7 ⟨rfl, hb7⟩
      have z7 := hb7.size
      have hbw7 := hbw6.trans (hb7.mono (by omega))
      have B7 := B6.below hb7 (by omega)
      have S7 := S6.below hb7 (by omega)
      by_cases hix : idxS t c.sets < c.sets.length
      · rw [if_pos hix]
        rw [if_pos hix] at hIA
        push_cast -dsimp
        refine storeK_of B7 (by simp) rfl ?_
        intro w8 hw8
        have z8 := hw8.size
        have B8 : Blk w8 w1.heap.size 89 [.int .i64 1, .int .i64 (idxS t c.sets : Nat), .int .i64 0] := hw8.blk
        have b81 : w8.cell? ⟨w1.heap.size, 1, none⟩ = some (.int .i64 (idxS t c.sets : Nat)) := B8.cell rfl
        have hbw8 := hbw7.trans (hw8.kept.below (B := w.heap.size) (by omega) (fun i h => by omega))
        have k8 : Kept (fun i => i = cb ∨ B ≤ i) w w8 := Kept.of_below hbw8 (fun i h1 h2 => by omega)
        push_cast -dsimp [b81]
        refine ⟨fun h0 => by omega, fun _ => ?_⟩
        have hB9 := hB.below hbw8 hB.lt
        have hul9 := hul
        have hfew9 := h.few
        have hO19 := hO1.below hbw8
        have hO29 := hO2.below hbw8
        have hus9 := fun (i : Nat) (u : SV) (s : List Rg) h1 h2 => (hus i u s h1 h2).below hbw8
        -- w8: the world; (.slice sa us.length sc): the sets' slice; B8: Blk of the instruction at it; (⟨1, (idxS t c.sets : Nat), 0⟩ : I3): the instruction; k8: Kept from w; c.sets: the sets; hB9, hO19, hO29, hus9: the code's parts at w8, its instructions those at entry
        have z9 := k8.size
        have B9d := hB9.drew
        have T9d := B8.drew
        refine wpL_last (fun w' => Blk w' cb 43 [(.slice sa us.length sc), .slice ia c.ins.length ic] ∧ Blk w' w1.heap.size 89 [.int .i64 (⟨1, (idxS t c.sets : Nat), 0⟩ : I3).op, .int .i64 (⟨1, (idxS t c.sets : Nat), 0⟩ : I3).a, .int .i64 (⟨1, (idxS t c.sets : Nat), 0⟩ : I3).b]) mixed (by kernel_rfl) (by simp) ⟨B9d, T9d⟩ ?_
        have f1 : (w8).drew.cell? ⟨cb, 1, none⟩ = some (.slice ia c.ins.length ic) := B9d.cell rfl
        have f2 : cellsAt (w8).drew ⟨w1.heap.size, 0, none⟩ 0 3 = some [.int .i64 (⟨1, (idxS t c.sets : Nat), 0⟩ : I3).op, .int .i64 (⟨1, (idxS t c.sets : Nat), 0⟩ : I3).a, .int .i64 (⟨1, (idxS t c.sets : Nat), 0⟩ : I3).b] := T9d.cellsAt
        push_cast -dsimp [f1, f2]
        refine ⟨fun w'' h => by rw [h.1.cell (o := 1) rfl]; exact rfl, fun w'' h => by rw [show cellsAt w'' ⟨w1.heap.size, 0, none⟩ 0 3 = some [.int .i64 (⟨1, (idxS t c.sets : Nat), 0⟩ : I3).op, .int .i64 (⟨1, (idxS t c.sets : Nat), 0⟩ : I3).a, .int .i64 (⟨1, (idxS t c.sets : Nat), 0⟩ : I3).b] from h.2.cellsAt]; exact rfl, ?_⟩
        refine rowK elI_41 rfl rfl (by omega) ?_
        intro wa hwa
        have za : wa.heap.size = (w8).heap.size + 1 := hwa.size
        have Ba := B9d.below hwa.below B9d.lt
        have Ta := T9d.below hwa.below T9d.lt
        refine ⟨⟨Ba, Ta⟩, ?_⟩
        have hO2d : Vc.Own B 89 3 encIn (w8).drew (.slice ia c.ins.length ic) c.ins := hO29.keptX ((Kept.refl (fun _ => False) (w8)).drew) (fun _ _ h => h)
        have hOa := hO2d.new hwa
        push_cast -dsimp
        refine appendK2 (base := B) [(⟨1, (idxS t c.sets : Nat), 0⟩ : I3)] (enc := encIn) elI_41 hOa (by rfl) (fun j u hu => by simpa [encIn] using hwa.cell hu) (by simp [encIn, Value.oneCell']) (by simp only [List.length_cons, List.length_nil]; omega) (by show B ≤ wa.heap.size; omega) ?_
        intro vb wb hob hgb hnb
        have hiv : ∀ g, (Value.slice ia c.ins.length ic).ownBlock = some g → B ≤ g ∧ g < w.heap.size := fun g hg => hO2.block g hg
        have kb : Kept (fun j => (Value.slice ia c.ins.length ic).ownBlock = some j) (w8).drew wb := (Kept.new hwa).trans (Kept.grown hgb (fun _ h => h)) (fun _ _ h => h)
        have Bb := B9d.kept kb (fun h => hs2 h)
        have Tb := T9d.kept kb (fun h => by have := hiv _ h; omega)
        refine ⟨⟨Bb, Tb⟩, ?_⟩
        obtain ⟨ib, icb, rfl⟩ := hob.slice
        push_cast -dsimp
        refine storeK_of Bb (by simp) rfl ?_
        intro wc hwc
        have zc := hwc.size
        have kd9 : Kept (fun _ => False) (w8) (w8).drew := (Kept.refl _ _).drew
        have kc : Kept (fun j => (Value.slice ia c.ins.length ic).ownBlock = some j ∨ j = cb) (w8) wc := ((kd9.weaken (fun _ _ h => h.elim)).trans kb (fun _ _ h => .inl h)).trans hwc.kept (fun _ _ h => .inr h)
        have hO2c := hob.keptX hwc.kept (fun g hg hh => by have := (hob.block g hg).1; have := h.lt; omega)
        have hO1c := hO19.keptX kc (fun g hg hh => by
          rcases hh with hh | hh
          · exact ownNe hO19 hO29 (by decide) g hg hh
          · have := (hO19.block g hg).1; have := h.lt; omega)
        have kw : Kept (fun i => i = cb ∨ B ≤ i) w wc := k8.trans (kc.weaken (fun i _ hi => by
          rcases hi with hi | hi
          · exact .inr (hiv i hi).1
          · exact .inl hi)) (fun _ _ h => h)
        have Ct : Cd B cb X wc ⟨c.sets, c.ins ++ [(⟨1, (idxS t c.sets : Nat), 0⟩ : I3)]⟩ := by
          refine ⟨⟨_, _, _, hwc.blk, hO1c, hO2c, hul9, fun hh => by have := (hO1c.block _ hh).1; have := h.lt; omega, fun hh => by have := (hO2c.block _ hh).1; have := h.lt; omega, ownNe hO1c hO2c (by decide), fun i u t h1 h2 => ?_⟩, h.lt, by have := kw.size; omega, hfew9⟩
          refine (hus9 i u t h1 h2).moved (fun _ => by simp [encR]) kc (fun i hi => by
            rcases hi with hi | hi
            · exact .inr (.inr (.inr hi))
            · exact .inr (.inl hi)) (fun b hb => ?_)
          rcases hb with hb | hb | hb | hb
          · exact .inl (.inl hb)
          · exact .inl (.inr (.inl hb))
          · exact .inl (.inr (.inr (.inl hb)))
          · rcases hnb b hb with hh | hh
            · exact .inl (.inr (.inr (.inr hh)))
            · exact .inr (by omega)
        push_cast -dsimp
        rw [hIA]
        refine ⟨rfl, fun c' h' => ?_, ⟨_, Ct⟩, kw⟩
        cases h'
        exact Ct
      · rw [if_neg hix]
        rw [if_neg hix] at hIA
        have hil : idxS t c.sets = c.sets.length := by have := idxS_le t c.sets; omega
        push_cast -dsimp
        refine storeK_of B7 (by simp) rfl ?_
        intro w8 hw8
        have z8 := hw8.size
        have B8 : Blk w8 w1.heap.size 89 [.int .i64 1, .int .i64 (-1), .int .i64 0] := hw8.blk
        have b81 : w8.cell? ⟨w1.heap.size, 1, none⟩ = some (.int .i64 (-1)) := B8.cell rfl
        have hb78 : Below w.heap.size w7 w8 := hw8.kept.below (B := w.heap.size) (by omega) (fun i h => by omega)
        have hbw8 := hbw7.trans hb78
        have S8 := S7.kept hw8.kept (by omega)
        have hB8 := hB.below hbw8 hB.lt
        push_cast -dsimp [b81]
        have kd8 : Kept (fun _ => False) w8 w8.drew := (Kept.refl _ _).drew
        refine wpL_last (fun w' => Blk w' cb 43 [.slice sa us.length sc, .slice ia c.ins.length ic] ∧ Blk w' w4.heap.size 102 [.slice va t.length vc]) mixed (by kernel_rfl) (by simp) ⟨hB8.drew, S8.drew⟩ ?_
        have f1 : w8.drew.cell? ⟨cb, 0, none⟩ = some (.slice sa us.length sc) := hB8.drew.cell rfl
        have f2 : w8.drew.cell? ⟨w4.heap.size, 0, none⟩ = some (.slice va t.length vc) := S8.drew.cell rfl
        push_cast -dsimp [f1, f2]
        refine ⟨fun w'' h => by rw [h.1.cell (o := 0) rfl]; exact rfl, fun w'' h => by rw [h.2.cell (o := 0) rfl]; exact rfl, ?_⟩
        refine rowK elI_40 rfl rfl (by omega) ?_
        intro wa hwa
        have za : wa.heap.size = w8.heap.size + 1 := hwa.size
        have Ba := hB8.drew.below hwa.below hB8.lt
        have Sa := S8.drew.below hwa.below S8.lt
        refine ⟨⟨Ba, Sa⟩, ?_⟩
        have hbwd : Below w.heap.size w w8.drew := hbw8.drew
        have hO1a := (hO1.below hbwd).new hwa
        push_cast -dsimp
        refine appendK2 (base := B) [(⟨va, t.length, vc⟩ : SV)] (enc := encSV) elI_40 hO1a (by rfl) (fun j u hu => by simpa [encSV, SV.v] using hwa.cell hu) (by simp [encSV, SV.v, Value.oneCell']) (by simp only [List.length_cons, List.length_nil]; omega) (by show B ≤ wa.heap.size; omega) ?_
        intro vb wb hob hgb hnb
        have hsv : ∀ g, (Value.slice sa us.length sc).ownBlock = some g → B ≤ g ∧ g < w.heap.size := fun g hg => hO1.block g hg
        have kb : Kept (fun j => (Value.slice sa us.length sc).ownBlock = some j) w8.drew wb := (Kept.new hwa).trans (Kept.grown hgb (fun _ h => h)) (fun _ _ h => h)
        have Bb := hB8.drew.kept kb (fun h => hs1 h)
        have Sb := S8.drew.kept kb (fun h => by have := hsv _ h; omega)
        refine ⟨⟨Bb, Sb⟩, ?_⟩
        have zb : w8.heap.size + 1 ≤ wb.heap.size := by have := hgb.size; omega
        obtain ⟨ib, icb, rfl⟩ := hob.slice
        push_cast -dsimp
        refine storeK_of Bb (by simp) rfl ?_
        intro wc hwc
        have zc := hwc.size
        have Bc : Blk wc cb 43 [.slice ib (us ++ [(⟨va, t.length, vc⟩ : SV)]).length icb, .slice ia c.ins.length ic] := hwc.blk
        have c0 : wc.cell? ⟨cb, 0, none⟩ = some (.slice ib (us ++ [(⟨va, t.length, vc⟩ : SV)]).length icb) := Bc.cell rfl
        have kc : Kept (fun j => (Value.slice sa us.length sc).ownBlock = some j ∨ j = cb) w8 wc := ((kd8.weaken (fun _ _ h => h.elim)).trans kb (fun _ _ h => .inl h)).trans hwc.kept (fun _ _ h => .inr h)
        have Tc := B8.kept kc (fun hh => by
          rcases hh with hh | hh
          · have := hsv _ hh; omega
          · have := h.lt; omega)
        have hlu : (us ++ [(⟨va, t.length, vc⟩ : SV)]).length = c.sets.length + 1 := by simp [hul]
        push_cast -dsimp [c0]
        refine ⟨by rw [hlu]; omega, ?_⟩
        refine storeK_of Tc (by simp) rfl ?_
        intro wd hwd
        have zd := hwd.size
        have hil2 : (((us ++ [(⟨va, t.length, vc⟩ : SV)]).length : Nat) : Int) - 1 = (idxS t c.sets : Nat) := by rw [hlu, hil]; omega
        have Bd : Blk wd w1.heap.size 89 [.int .i64 1, .int .i64 (idxS t c.sets : Nat), .int .i64 0] := by
          rw [← hil2]
          exact hwd.blk
        have kd : Kept (fun j => (Value.slice sa us.length sc).ownBlock = some j ∨ j = cb ∨ j = w1.heap.size) w8 wd := (kc.weaken (fun j _ hj => by
          rcases hj with hj | hj
          · exact .inl hj
          · exact .inr (.inl hj))).trans hwd.kept (fun _ _ h => .inr (.inr h))
        have kwd : Kept (fun i => i = cb ∨ B ≤ i) w wd := (Kept.of_below hbw8 (X := fun i => i = cb ∨ B ≤ i) (fun i h1 h2 => by omega)).trans kd (fun i _ hi => by
          rcases hi with hi | hi | hi
          · exact .inr (hsv i hi).1
          · exact .inl hi
          · exact .inr (by omega))
        have hB9 : Blk wd cb 43 [.slice ib (us ++ [(⟨va, t.length, vc⟩ : SV)]).length icb, .slice ia c.ins.length ic] := Bc.kept hwd.kept (by have := h.lt; omega)
        have hul9 : (us ++ [(⟨va, t.length, vc⟩ : SV)]).length = (c.sets ++ [t]).length := by rw [hlu]; simp
        have hfew9 : ∀ x ∈ c.sets ++ [t], setRight (-2) x = true := fun x hx => by
          rw [List.mem_append, List.mem_singleton] at hx
          rcases hx with hx | rfl
          · exact h.few x hx
          · exact setP_right hsp
        have hO19 : Vc.Own B 102 1 encSV wd (.slice ib (us ++ [(⟨va, t.length, vc⟩ : SV)]).length icb) (us ++ [(⟨va, t.length, vc⟩ : SV)]) := (hob.keptX hwc.kept (fun g hg hh => by have := (hob.block g hg).1; have := h.lt; omega)).keptX hwd.kept (fun g hg hh => by
          rcases hnb g hg with h1 | h1
          · have := hsv g h1; omega
          · have : wa.heap.size ≤ g := h1
            omega)
        have hO29 : Vc.Own B 89 3 encIn wd (.slice ia c.ins.length ic) c.ins := (hO2.below hbw8).keptX kd (fun g hg hh => by
          have hg2 := hO2.block g hg
          rcases hh with hh | hh | hh
          · exact hs3 g hh hg
          · have := h.lt; omega
          · omega)
        have hmem : ∀ b, (X b ∨ b = cb ∨ (Value.slice ib (us ++ [(⟨va, t.length, vc⟩ : SV)]).length icb).ownBlock = some b ∨ (Value.slice ia c.ins.length ic).ownBlock = some b) → (X b ∨ b = cb ∨ (Value.slice sa us.length sc).ownBlock = some b ∨ (Value.slice ia c.ins.length ic).ownBlock = some b) ∨ w8.heap.size ≤ b := fun b hb => by
          rcases hb with hb | hb | hb | hb
          · exact .inl (.inl hb)
          · exact .inl (.inr (.inl hb))
          · rcases hnb b hb with h1 | h1
            · exact .inl (.inr (.inr (.inl h1)))
            · have : wa.heap.size ≤ b := h1
              exact .inr (by omega)
          · exact .inl (.inr (.inr (.inr hb)))
        have hus9 : ∀ (i : Nat) (u : SV) (x : List Rg), (us ++ [(⟨va, t.length, vc⟩ : SV)])[i]? = some u → (c.sets ++ [t])[i]? = some x → Sl (fun b => X b ∨ b = cb ∨ (Value.slice ib (us ++ [(⟨va, t.length, vc⟩ : SV)]).length icb).ownBlock = some b ∨ (Value.slice ia c.ins.length ic).ownBlock = some b) 2 (En encR) wd u.v x := fun i u x h1 h2 => by
          have hlt : i < (us ++ [(⟨va, t.length, vc⟩ : SV)]).length := (List.getElem?_eq_some_iff.1 h1).1
          by_cases hi : i < us.length
          · rw [List.getElem?_append_left hi] at h1
            rw [List.getElem?_append_left (by omega)] at h2
            have h4 := Sl.fresh (enc := encR) (h := hus i u x h1 h2) (X' := fun b => (X b ∨ b = cb ∨ (Value.slice sa us.length sc).ownBlock = some b ∨ (Value.slice ia c.ins.length ic).ownBlock = some b) ∨ w.heap.size ≤ b) (fun _ => by simp [encR]) (fun b hb => hb)
            exact ((h4.below hbw8).kept kd (fun i hi => by
              rcases hi with hi | hi | hi
              · exact .inl (.inr (.inr (.inl hi)))
              · exact .inl (.inr (.inl hi))
              · exact .inr (by omega))).weaken (fun b hb => by
                rcases hmem b hb with h5 | h5
                · exact .inl h5
                · exact .inr (by omega))
          · have e : i = us.length := by have : i < us.length + 1 := by rw [List.length_append] at hlt; simpa using hlt
                                         omega
            subst e
            rw [List.getElem?_append_right (Nat.le_refl _), Nat.sub_self] at h1
            rw [hul, List.getElem?_append_right (Nat.le_refl _), Nat.sub_self] at h2
            simp at h1 h2
            subst h1; subst h2
            have hOg : ∀ g, (Value.slice va t.length vc).ownBlock = some g → w3.heap.size ≤ g ∧ g < w4.heap.size := fun g hg => hO.block g hg
            have h3 := ((((hO.below hb56).below hb7).keptX hw8.kept (fun g hg hh => by have := hOg g hg; omega)).slOwn)
            refine (h3.kept kd (fun i hi hh => ?_)).weaken (fun b hb hh => ?_)
            · have := hOg i hh
              rcases hi with hi | hi | hi
              · have := hsv i hi; omega
              · have := h.lt; omega
              · omega
            · have := hOg b hh
              rcases hmem b hb with h5 | h5
              · rcases h5 with h5 | h5 | h5 | h5
                · have := hX b h5; omega
                · have := h.lt; omega
                · have := hsv b h5; omega
                · have := hO2.block b h5; omega
              · omega
        push_cast -dsimp
        -- wd: the world; (.slice ib (us ++ [(⟨va, t.length, vc⟩ : SV)]).length icb): the sets' slice; Bd: Blk of the instruction at it; (⟨1, (idxS t c.sets : Nat), 0⟩ : I3): the instruction; kwd: Kept from w; (c.sets ++ [t]): the sets; hB9, hO19, hO29, hus9: the code's parts at wd, its instructions those at entry
        have z9 := kwd.size
        have B9d := hB9.drew
        have T9d := Bd.drew
        refine wpL_last (fun w' => Blk w' cb 43 [(.slice ib (us ++ [(⟨va, t.length, vc⟩ : SV)]).length icb), .slice ia c.ins.length ic] ∧ Blk w' w1.heap.size 89 [.int .i64 (⟨1, (idxS t c.sets : Nat), 0⟩ : I3).op, .int .i64 (⟨1, (idxS t c.sets : Nat), 0⟩ : I3).a, .int .i64 (⟨1, (idxS t c.sets : Nat), 0⟩ : I3).b]) mixed (by kernel_rfl) (by simp) ⟨B9d, T9d⟩ ?_
        have f1 : (wd).drew.cell? ⟨cb, 1, none⟩ = some (.slice ia c.ins.length ic) := B9d.cell rfl
        have f2 : cellsAt (wd).drew ⟨w1.heap.size, 0, none⟩ 0 3 = some [.int .i64 (⟨1, (idxS t c.sets : Nat), 0⟩ : I3).op, .int .i64 (⟨1, (idxS t c.sets : Nat), 0⟩ : I3).a, .int .i64 (⟨1, (idxS t c.sets : Nat), 0⟩ : I3).b] := T9d.cellsAt
        push_cast -dsimp [f1, f2]
        refine ⟨fun w'' h => by rw [h.1.cell (o := 1) rfl]; exact rfl, fun w'' h => by rw [show cellsAt w'' ⟨w1.heap.size, 0, none⟩ 0 3 = some [.int .i64 (⟨1, (idxS t c.sets : Nat), 0⟩ : I3).op, .int .i64 (⟨1, (idxS t c.sets : Nat), 0⟩ : I3).a, .int .i64 (⟨1, (idxS t c.sets : Nat), 0⟩ : I3).b] from h.2.cellsAt]; exact rfl, ?_⟩
        refine rowK elI_41 rfl rfl (by omega) ?_
        intro wa hwa
        have za : wa.heap.size = (wd).heap.size + 1 := hwa.size
        have Ba := B9d.below hwa.below B9d.lt
        have Ta := T9d.below hwa.below T9d.lt
        refine ⟨⟨Ba, Ta⟩, ?_⟩
        have hO2d : Vc.Own B 89 3 encIn (wd).drew (.slice ia c.ins.length ic) c.ins := hO29.keptX ((Kept.refl (fun _ => False) (wd)).drew) (fun _ _ h => h)
        have hOa := hO2d.new hwa
        push_cast -dsimp
        refine appendK2 (base := B) [(⟨1, (idxS t c.sets : Nat), 0⟩ : I3)] (enc := encIn) elI_41 hOa (by rfl) (fun j u hu => by simpa [encIn] using hwa.cell hu) (by simp [encIn, Value.oneCell']) (by simp only [List.length_cons, List.length_nil]; omega) (by show B ≤ wa.heap.size; omega) ?_
        intro vb wb hob hgb hnb
        have hiv : ∀ g, (Value.slice ia c.ins.length ic).ownBlock = some g → B ≤ g ∧ g < w.heap.size := fun g hg => hO2.block g hg
        have kb : Kept (fun j => (Value.slice ia c.ins.length ic).ownBlock = some j) (wd).drew wb := (Kept.new hwa).trans (Kept.grown hgb (fun _ h => h)) (fun _ _ h => h)
        have Bb := B9d.kept kb (fun h => hs2 h)
        have Tb := T9d.kept kb (fun h => by have := hiv _ h; omega)
        refine ⟨⟨Bb, Tb⟩, ?_⟩
        obtain ⟨ib, icb, rfl⟩ := hob.slice
        push_cast -dsimp
        refine storeK_of Bb (by simp) rfl ?_
        intro wc hwc
        have zc := hwc.size
        have kd9 : Kept (fun _ => False) (wd) (wd).drew := (Kept.refl _ _).drew
        have kc : Kept (fun j => (Value.slice ia c.ins.length ic).ownBlock = some j ∨ j = cb) (wd) wc := ((kd9.weaken (fun _ _ h => h.elim)).trans kb (fun _ _ h => .inl h)).trans hwc.kept (fun _ _ h => .inr h)
        have hO2c := hob.keptX hwc.kept (fun g hg hh => by have := (hob.block g hg).1; have := h.lt; omega)
        have hO1c := hO19.keptX kc (fun g hg hh => by
          rcases hh with hh | hh
          · exact ownNe hO19 hO29 (by decide) g hg hh
          · have := (hO19.block g hg).1; have := h.lt; omega)
        have kw : Kept (fun i => i = cb ∨ B ≤ i) w wc := kwd.trans (kc.weaken (fun i _ hi => by
          rcases hi with hi | hi
          · exact .inr (hiv i hi).1
          · exact .inl hi)) (fun _ _ h => h)
        have Ct : Cd B cb X wc ⟨(c.sets ++ [t]), c.ins ++ [(⟨1, (idxS t c.sets : Nat), 0⟩ : I3)]⟩ := by
          refine ⟨⟨_, _, _, hwc.blk, hO1c, hO2c, hul9, fun hh => by have := (hO1c.block _ hh).1; have := h.lt; omega, fun hh => by have := (hO2c.block _ hh).1; have := h.lt; omega, ownNe hO1c hO2c (by decide), fun i u t h1 h2 => ?_⟩, h.lt, by have := kw.size; omega, hfew9⟩
          refine (hus9 i u t h1 h2).moved (fun _ => by simp [encR]) kc (fun i hi => by
            rcases hi with hi | hi
            · exact .inr (.inr (.inr hi))
            · exact .inr (.inl hi)) (fun b hb => ?_)
          rcases hb with hb | hb | hb | hb
          · exact .inl (.inl hb)
          · exact .inl (.inr (.inl hb))
          · exact .inl (.inr (.inr (.inl hb)))
          · rcases hnb b hb with hh | hh
            · exact .inl (.inr (.inr (.inr hh)))
            · exact .inr (by omega)
        push_cast -dsimp
        rw [hIA]
        refine ⟨rfl, fun c' h' => ?_, ⟨_, Ct⟩, kw⟩
        cases h'
        exact Ct
    · rw [setP_no hno] at hIA
      have hIA : instA c s = none := by rw [hIA]
      push_cast -dsimp
      refine allocK (z := [.slice none 0 0]) (by kernel_rfl) ?_
      intro w5 hw5
      have z5 := hw5.size
      push_cast -dsimp
      refine storeK_of hw5.blk (by simp) rfl ?_
      intro w6 hw6
      have z6 := hw6.size
      have hb56 : Below w4.heap.size w4 w6 := hw5.below.trans (hw6.kept.below (by omega) (fun _ h => by omega))
      have hbw6 := hbw4.trans (hb56.mono (by omega))
      have B6 := B4.below hb56 (by omega)
      have k6 : Kept (fun i => i = cb ∨ B ≤ i) w w6 := Kept.of_below hbw6 (fun i h1 h2 => by omega)
      have hB9 := hB.below hbw6 hB.lt
      have hul9 := hul
      have hfew9 := h.few
      have hO19 := hO1.below hbw6
      have hO29 := hO2.below hbw6
      have hus9 := fun (i : Nat) (u : SV) (s : List Rg) h1 h2 => (hus i u s h1 h2).below hbw6
      push_cast -dsimp
      -- w6: the world; (.slice sa us.length sc): the sets' slice; B6: Blk of the instruction at it; (⟨1, 0, 0⟩ : I3): the instruction; k6: Kept from w; c.sets: the sets; hB9, hO19, hO29, hus9: the code's parts at w6, its instructions those at entry
      have z9 := k6.size
      have B9d := hB9.drew
      have T9d := B6.drew
      refine wpL_last (fun w' => Blk w' cb 43 [(.slice sa us.length sc), .slice ia c.ins.length ic] ∧ Blk w' w1.heap.size 89 [.int .i64 (⟨1, 0, 0⟩ : I3).op, .int .i64 (⟨1, 0, 0⟩ : I3).a, .int .i64 (⟨1, 0, 0⟩ : I3).b]) mixed (by kernel_rfl) (by simp) ⟨B9d, T9d⟩ ?_
      have f1 : (w6).drew.cell? ⟨cb, 1, none⟩ = some (.slice ia c.ins.length ic) := B9d.cell rfl
      have f2 : cellsAt (w6).drew ⟨w1.heap.size, 0, none⟩ 0 3 = some [.int .i64 (⟨1, 0, 0⟩ : I3).op, .int .i64 (⟨1, 0, 0⟩ : I3).a, .int .i64 (⟨1, 0, 0⟩ : I3).b] := T9d.cellsAt
      push_cast -dsimp [f1, f2]
      refine ⟨fun w'' h => by rw [h.1.cell (o := 1) rfl]; exact rfl, fun w'' h => by rw [show cellsAt w'' ⟨w1.heap.size, 0, none⟩ 0 3 = some [.int .i64 (⟨1, 0, 0⟩ : I3).op, .int .i64 (⟨1, 0, 0⟩ : I3).a, .int .i64 (⟨1, 0, 0⟩ : I3).b] from h.2.cellsAt]; exact rfl, ?_⟩
      refine rowK elI_41 rfl rfl (by omega) ?_
      intro wa hwa
      have za : wa.heap.size = (w6).heap.size + 1 := hwa.size
      have Ba := B9d.below hwa.below B9d.lt
      have Ta := T9d.below hwa.below T9d.lt
      refine ⟨⟨Ba, Ta⟩, ?_⟩
      have hO2d : Vc.Own B 89 3 encIn (w6).drew (.slice ia c.ins.length ic) c.ins := hO29.keptX ((Kept.refl (fun _ => False) (w6)).drew) (fun _ _ h => h)
      have hOa := hO2d.new hwa
      push_cast -dsimp
      refine appendK2 (base := B) [(⟨1, 0, 0⟩ : I3)] (enc := encIn) elI_41 hOa (by rfl) (fun j u hu => by simpa [encIn] using hwa.cell hu) (by simp [encIn, Value.oneCell']) (by simp only [List.length_cons, List.length_nil]; omega) (by show B ≤ wa.heap.size; omega) ?_
      intro vb wb hob hgb hnb
      have hiv : ∀ g, (Value.slice ia c.ins.length ic).ownBlock = some g → B ≤ g ∧ g < w.heap.size := fun g hg => hO2.block g hg
      have kb : Kept (fun j => (Value.slice ia c.ins.length ic).ownBlock = some j) (w6).drew wb := (Kept.new hwa).trans (Kept.grown hgb (fun _ h => h)) (fun _ _ h => h)
      have Bb := B9d.kept kb (fun h => hs2 h)
      have Tb := T9d.kept kb (fun h => by have := hiv _ h; omega)
      refine ⟨⟨Bb, Tb⟩, ?_⟩
      obtain ⟨ib, icb, rfl⟩ := hob.slice
      push_cast -dsimp
      refine storeK_of Bb (by simp) rfl ?_
      intro wc hwc
      have zc := hwc.size
      have kd9 : Kept (fun _ => False) (w6) (w6).drew := (Kept.refl _ _).drew
      have kc : Kept (fun j => (Value.slice ia c.ins.length ic).ownBlock = some j ∨ j = cb) (w6) wc := ((kd9.weaken (fun _ _ h => h.elim)).trans kb (fun _ _ h => .inl h)).trans hwc.kept (fun _ _ h => .inr h)
      have hO2c := hob.keptX hwc.kept (fun g hg hh => by have := (hob.block g hg).1; have := h.lt; omega)
      have hO1c := hO19.keptX kc (fun g hg hh => by
        rcases hh with hh | hh
        · exact ownNe hO19 hO29 (by decide) g hg hh
        · have := (hO19.block g hg).1; have := h.lt; omega)
      have kw : Kept (fun i => i = cb ∨ B ≤ i) w wc := k6.trans (kc.weaken (fun i _ hi => by
        rcases hi with hi | hi
        · exact .inr (hiv i hi).1
        · exact .inl hi)) (fun _ _ h => h)
      have Ct : Cd B cb X wc ⟨c.sets, c.ins ++ [(⟨1, 0, 0⟩ : I3)]⟩ := by
        refine ⟨⟨_, _, _, hwc.blk, hO1c, hO2c, hul9, fun hh => by have := (hO1c.block _ hh).1; have := h.lt; omega, fun hh => by have := (hO2c.block _ hh).1; have := h.lt; omega, ownNe hO1c hO2c (by decide), fun i u t h1 h2 => ?_⟩, h.lt, by have := kw.size; omega, hfew9⟩
        refine (hus9 i u t h1 h2).moved (fun _ => by simp [encR]) kc (fun i hi => by
          rcases hi with hi | hi
          · exact .inr (.inr (.inr hi))
          · exact .inr (.inl hi)) (fun b hb => ?_)
        rcases hb with hb | hb | hb | hb
        · exact .inl (.inl hb)
        · exact .inl (.inr (.inl hb))
        · exact .inl (.inr (.inr (.inl hb)))
        · rcases hnb b hb with hh | hh
          · exact .inl (.inr (.inr (.inr hh)))
          · exact .inr (by omega)
      push_cast -dsimp
      rw [hIA]
      exact ⟨rfl, fun c' h' => (by cases h'), ⟨_, Ct⟩, kw⟩
  · rw [h0] at B3
    rw [h0]
    refine ⟨fun h => by omega, fun _ => ⟨fun _ => ?_, fun h => absurd rfl h⟩⟩
    have hIA := instA_split (c := c) hnm
    have hcl := cut_len 32 s
    refine callK_of (cut_c (cutP 32 s).2.1 32 (by omega) w3) ?_
    rintro _ w4 ⟨rfl, hb4⟩
    have z4 := hb4.size
    have hcl2 := cut_len 32 (cutP 32 s).2.1
    have hbw4 := hbw3.trans (hb4.mono (by omega))
    have B4 := B3.below hb4 (by omega)
    have num : ∀ (x : List UInt8) (r : Value), ((∃ v, numA x = some v ∧ r = .tuple #[.int .i64 v, .bool true]) ∨ (numA x = none ∧ ∃ v, r = .tuple #[.int .i64 v, .bool false])) → ∃ v b, r = .tuple #[.int .i64 v, .bool b] ∧ numA x = if b then some v else none := fun x r h => by
      rcases h with ⟨v, h1, h2⟩ | ⟨h1, v, h2⟩
      · exact ⟨v, true, h2, by rw [h1]; rfl⟩
      · exact ⟨v, false, h2, by rw [h1]; rfl⟩
    push_cast -dsimp
    refine callK_of (number_c (cutP 32 (cutP 32 s).2.1).1 (by omega) w4 (he.below hbw4) (hp.below (hbw4.mono hle) hg) (by omega)) ?_
    rintro _ w5 ⟨hr5, hb5⟩
    obtain ⟨v1, b1, rfl, hv1⟩ := num _ _ hr5
    have z5 := hb5.size
    have hbw5 := hbw4.trans (hb5.mono (by omega))
    have B5 := B4.below hb5 (by omega)
    push_cast -dsimp
    refine storeK_of B5 (by simp) rfl ?_
    intro w6 hw6
    have z6 := hw6.size
    have B6 : Blk w6 w1.heap.size 89 [.int .i64 2, .int .i64 v1, .int .i64 0] := hw6.blk
    have hbw6 := hbw5.trans (hw6.kept.below (B := w.heap.size) (by omega) (fun i h => by omega))
    push_cast -dsimp
    refine callK_of (number_c (cutP 32 (cutP 32 s).2.1).2.1 (by omega) w6 (he.below hbw6) (hp.below (hbw6.mono hle) hg) (by omega)) ?_
    rintro _ w7 ⟨hr7, hb7⟩
    obtain ⟨v2, b2, rfl, hv2⟩ := num _ _ hr7
    have z7 := hb7.size
    have hbw7 := hbw6.trans (hb7.mono (by omega))
    have B7 := B6.below hb7 (by omega)
    push_cast -dsimp
    refine storeK_of B7 (by simp) rfl ?_
    intro w8 hw8
    have z8 := hw8.size
    have B8 : Blk w8 w1.heap.size 89 [.int .i64 2, .int .i64 v1, .int .i64 v2] := hw8.blk
    have hbw8 := hbw7.trans (hw8.kept.below (B := w.heap.size) (by omega) (fun i h => by omega))
    have k8 : Kept (fun i => i = cb ∨ B ≤ i) w w8 := Kept.of_below hbw8 (fun i h1 h2 => by omega)
    rw [hv1, hv2] at hIA
    have hB9 := hB.below hbw8 hB.lt
    have hul9 := hul
    have hfew9 := h.few
    have hO19 := hO1.below hbw8
    have hO29 := hO2.below hbw8
    have hus9 := fun (i : Nat) (u : SV) (s : List Rg) h1 h2 => (hus i u s h1 h2).below hbw8
    cases b1 with
    | true =>
      cases b2 with
      | true =>
        cases hm : (cutP 32 (cutP 32 s).2.1).2.2 with
        | true =>
          push_cast -dsimp
          -- w8: the world; (.slice sa us.length sc): the sets' slice; B8: Blk of the instruction at it; (⟨2, v1, v2⟩ : I3): the instruction; k8: Kept from w; c.sets: the sets; hB9, hO19, hO29, hus9: the code's parts at w8, its instructions those at entry
          have z9 := k8.size
          have B9d := hB9.drew
          have T9d := B8.drew
          refine wpL_last (fun w' => Blk w' cb 43 [(.slice sa us.length sc), .slice ia c.ins.length ic] ∧ Blk w' w1.heap.size 89 [.int .i64 (⟨2, v1, v2⟩ : I3).op, .int .i64 (⟨2, v1, v2⟩ : I3).a, .int .i64 (⟨2, v1, v2⟩ : I3).b]) mixed (by kernel_rfl) (by simp) ⟨B9d, T9d⟩ ?_
          have f1 : (w8).drew.cell? ⟨cb, 1, none⟩ = some (.slice ia c.ins.length ic) := B9d.cell rfl
          have f2 : cellsAt (w8).drew ⟨w1.heap.size, 0, none⟩ 0 3 = some [.int .i64 (⟨2, v1, v2⟩ : I3).op, .int .i64 (⟨2, v1, v2⟩ : I3).a, .int .i64 (⟨2, v1, v2⟩ : I3).b] := T9d.cellsAt
          push_cast -dsimp [f1, f2]
          refine ⟨fun w'' h => by rw [h.1.cell (o := 1) rfl]; exact rfl, fun w'' h => by rw [show cellsAt w'' ⟨w1.heap.size, 0, none⟩ 0 3 = some [.int .i64 (⟨2, v1, v2⟩ : I3).op, .int .i64 (⟨2, v1, v2⟩ : I3).a, .int .i64 (⟨2, v1, v2⟩ : I3).b] from h.2.cellsAt]; exact rfl, ?_⟩
          refine rowK elI_41 rfl rfl (by omega) ?_
          intro wa hwa
          have za : wa.heap.size = (w8).heap.size + 1 := hwa.size
          have Ba := B9d.below hwa.below B9d.lt
          have Ta := T9d.below hwa.below T9d.lt
          refine ⟨⟨Ba, Ta⟩, ?_⟩
          have hO2d : Vc.Own B 89 3 encIn (w8).drew (.slice ia c.ins.length ic) c.ins := hO29.keptX ((Kept.refl (fun _ => False) (w8)).drew) (fun _ _ h => h)
          have hOa := hO2d.new hwa
          push_cast -dsimp
          refine appendK2 (base := B) [(⟨2, v1, v2⟩ : I3)] (enc := encIn) elI_41 hOa (by rfl) (fun j u hu => by simpa [encIn] using hwa.cell hu) (by simp [encIn, Value.oneCell']) (by simp only [List.length_cons, List.length_nil]; omega) (by show B ≤ wa.heap.size; omega) ?_
          intro vb wb hob hgb hnb
          have hiv : ∀ g, (Value.slice ia c.ins.length ic).ownBlock = some g → B ≤ g ∧ g < w.heap.size := fun g hg => hO2.block g hg
          have kb : Kept (fun j => (Value.slice ia c.ins.length ic).ownBlock = some j) (w8).drew wb := (Kept.new hwa).trans (Kept.grown hgb (fun _ h => h)) (fun _ _ h => h)
          have Bb := B9d.kept kb (fun h => hs2 h)
          have Tb := T9d.kept kb (fun h => by have := hiv _ h; omega)
          refine ⟨⟨Bb, Tb⟩, ?_⟩
          obtain ⟨ib, icb, rfl⟩ := hob.slice
          push_cast -dsimp
          refine storeK_of Bb (by simp) rfl ?_
          intro wc hwc
          have zc := hwc.size
          have kd9 : Kept (fun _ => False) (w8) (w8).drew := (Kept.refl _ _).drew
          have kc : Kept (fun j => (Value.slice ia c.ins.length ic).ownBlock = some j ∨ j = cb) (w8) wc := ((kd9.weaken (fun _ _ h => h.elim)).trans kb (fun _ _ h => .inl h)).trans hwc.kept (fun _ _ h => .inr h)
          have hO2c := hob.keptX hwc.kept (fun g hg hh => by have := (hob.block g hg).1; have := h.lt; omega)
          have hO1c := hO19.keptX kc (fun g hg hh => by
            rcases hh with hh | hh
            · exact ownNe hO19 hO29 (by decide) g hg hh
            · have := (hO19.block g hg).1; have := h.lt; omega)
          have kw : Kept (fun i => i = cb ∨ B ≤ i) w wc := k8.trans (kc.weaken (fun i _ hi => by
            rcases hi with hi | hi
            · exact .inr (hiv i hi).1
            · exact .inl hi)) (fun _ _ h => h)
          have Ct : Cd B cb X wc ⟨c.sets, c.ins ++ [(⟨2, v1, v2⟩ : I3)]⟩ := by
            refine ⟨⟨_, _, _, hwc.blk, hO1c, hO2c, hul9, fun hh => by have := (hO1c.block _ hh).1; have := h.lt; omega, fun hh => by have := (hO2c.block _ hh).1; have := h.lt; omega, ownNe hO1c hO2c (by decide), fun i u t h1 h2 => ?_⟩, h.lt, by have := kw.size; omega, hfew9⟩
            refine (hus9 i u t h1 h2).moved (fun _ => by simp [encR]) kc (fun i hi => by
              rcases hi with hi | hi
              · exact .inr (.inr (.inr hi))
              · exact .inr (.inl hi)) (fun b hb => ?_)
            rcases hb with hb | hb | hb | hb
            · exact .inl (.inl hb)
            · exact .inl (.inr (.inl hb))
            · exact .inl (.inr (.inr (.inl hb)))
            · rcases hnb b hb with hh | hh
              · exact .inl (.inr (.inr (.inr hh)))
              · exact .inr (by omega)
          push_cast -dsimp
          have hIB : instA c s = some ⟨c.sets, c.ins ++ [⟨2, v1, v2⟩]⟩ := by rw [hIA, hm]; rfl
          rw [hIB]
          refine ⟨rfl, fun c' h' => ?_, ⟨_, Ct⟩, kw⟩
          cases h'
          exact Ct
        | false =>
          push_cast -dsimp
          -- w8: the world; (.slice sa us.length sc): the sets' slice; B8: Blk of the instruction at it; (⟨2, v1, v2⟩ : I3): the instruction; k8: Kept from w; c.sets: the sets; hB9, hO19, hO29, hus9: the code's parts at w8, its instructions those at entry
          have z9 := k8.size
          have B9d := hB9.drew
          have T9d := B8.drew
          refine wpL_last (fun w' => Blk w' cb 43 [(.slice sa us.length sc), .slice ia c.ins.length ic] ∧ Blk w' w1.heap.size 89 [.int .i64 (⟨2, v1, v2⟩ : I3).op, .int .i64 (⟨2, v1, v2⟩ : I3).a, .int .i64 (⟨2, v1, v2⟩ : I3).b]) mixed (by kernel_rfl) (by simp) ⟨B9d, T9d⟩ ?_
          have f1 : (w8).drew.cell? ⟨cb, 1, none⟩ = some (.slice ia c.ins.length ic) := B9d.cell rfl
          have f2 : cellsAt (w8).drew ⟨w1.heap.size, 0, none⟩ 0 3 = some [.int .i64 (⟨2, v1, v2⟩ : I3).op, .int .i64 (⟨2, v1, v2⟩ : I3).a, .int .i64 (⟨2, v1, v2⟩ : I3).b] := T9d.cellsAt
          push_cast -dsimp [f1, f2]
          refine ⟨fun w'' h => by rw [h.1.cell (o := 1) rfl]; exact rfl, fun w'' h => by rw [show cellsAt w'' ⟨w1.heap.size, 0, none⟩ 0 3 = some [.int .i64 (⟨2, v1, v2⟩ : I3).op, .int .i64 (⟨2, v1, v2⟩ : I3).a, .int .i64 (⟨2, v1, v2⟩ : I3).b] from h.2.cellsAt]; exact rfl, ?_⟩
          refine rowK elI_41 rfl rfl (by omega) ?_
          intro wa hwa
          have za : wa.heap.size = (w8).heap.size + 1 := hwa.size
          have Ba := B9d.below hwa.below B9d.lt
          have Ta := T9d.below hwa.below T9d.lt
          refine ⟨⟨Ba, Ta⟩, ?_⟩
          have hO2d : Vc.Own B 89 3 encIn (w8).drew (.slice ia c.ins.length ic) c.ins := hO29.keptX ((Kept.refl (fun _ => False) (w8)).drew) (fun _ _ h => h)
          have hOa := hO2d.new hwa
          push_cast -dsimp
          refine appendK2 (base := B) [(⟨2, v1, v2⟩ : I3)] (enc := encIn) elI_41 hOa (by rfl) (fun j u hu => by simpa [encIn] using hwa.cell hu) (by simp [encIn, Value.oneCell']) (by simp only [List.length_cons, List.length_nil]; omega) (by show B ≤ wa.heap.size; omega) ?_
          intro vb wb hob hgb hnb
          have hiv : ∀ g, (Value.slice ia c.ins.length ic).ownBlock = some g → B ≤ g ∧ g < w.heap.size := fun g hg => hO2.block g hg
          have kb : Kept (fun j => (Value.slice ia c.ins.length ic).ownBlock = some j) (w8).drew wb := (Kept.new hwa).trans (Kept.grown hgb (fun _ h => h)) (fun _ _ h => h)
          have Bb := B9d.kept kb (fun h => hs2 h)
          have Tb := T9d.kept kb (fun h => by have := hiv _ h; omega)
          refine ⟨⟨Bb, Tb⟩, ?_⟩
          obtain ⟨ib, icb, rfl⟩ := hob.slice
          push_cast -dsimp
          refine storeK_of Bb (by simp) rfl ?_
          intro wc hwc
          have zc := hwc.size
          have kd9 : Kept (fun _ => False) (w8) (w8).drew := (Kept.refl _ _).drew
          have kc : Kept (fun j => (Value.slice ia c.ins.length ic).ownBlock = some j ∨ j = cb) (w8) wc := ((kd9.weaken (fun _ _ h => h.elim)).trans kb (fun _ _ h => .inl h)).trans hwc.kept (fun _ _ h => .inr h)
          have hO2c := hob.keptX hwc.kept (fun g hg hh => by have := (hob.block g hg).1; have := h.lt; omega)
          have hO1c := hO19.keptX kc (fun g hg hh => by
            rcases hh with hh | hh
            · exact ownNe hO19 hO29 (by decide) g hg hh
            · have := (hO19.block g hg).1; have := h.lt; omega)
          have kw : Kept (fun i => i = cb ∨ B ≤ i) w wc := k8.trans (kc.weaken (fun i _ hi => by
            rcases hi with hi | hi
            · exact .inr (hiv i hi).1
            · exact .inl hi)) (fun _ _ h => h)
          have Ct : Cd B cb X wc ⟨c.sets, c.ins ++ [(⟨2, v1, v2⟩ : I3)]⟩ := by
            refine ⟨⟨_, _, _, hwc.blk, hO1c, hO2c, hul9, fun hh => by have := (hO1c.block _ hh).1; have := h.lt; omega, fun hh => by have := (hO2c.block _ hh).1; have := h.lt; omega, ownNe hO1c hO2c (by decide), fun i u t h1 h2 => ?_⟩, h.lt, by have := kw.size; omega, hfew9⟩
            refine (hus9 i u t h1 h2).moved (fun _ => by simp [encR]) kc (fun i hi => by
              rcases hi with hi | hi
              · exact .inr (.inr (.inr hi))
              · exact .inr (.inl hi)) (fun b hb => ?_)
            rcases hb with hb | hb | hb | hb
            · exact .inl (.inl hb)
            · exact .inl (.inr (.inl hb))
            · exact .inl (.inr (.inr (.inl hb)))
            · rcases hnb b hb with hh | hh
              · exact .inl (.inr (.inr (.inr hh)))
              · exact .inr (by omega)
          push_cast -dsimp
          have hIB : instA c s = none := by rw [hIA]; first | rfl | (rw [hm]; rfl)
          rw [hIB]
          exact ⟨rfl, fun c' h' => (by cases h'), ⟨_, Ct⟩, kw⟩
      | false =>
        push_cast -dsimp
        -- w8: the world; (.slice sa us.length sc): the sets' slice; B8: Blk of the instruction at it; (⟨2, v1, v2⟩ : I3): the instruction; k8: Kept from w; c.sets: the sets; hB9, hO19, hO29, hus9: the code's parts at w8, its instructions those at entry
        have z9 := k8.size
        have B9d := hB9.drew
        have T9d := B8.drew
        refine wpL_last (fun w' => Blk w' cb 43 [(.slice sa us.length sc), .slice ia c.ins.length ic] ∧ Blk w' w1.heap.size 89 [.int .i64 (⟨2, v1, v2⟩ : I3).op, .int .i64 (⟨2, v1, v2⟩ : I3).a, .int .i64 (⟨2, v1, v2⟩ : I3).b]) mixed (by kernel_rfl) (by simp) ⟨B9d, T9d⟩ ?_
        have f1 : (w8).drew.cell? ⟨cb, 1, none⟩ = some (.slice ia c.ins.length ic) := B9d.cell rfl
        have f2 : cellsAt (w8).drew ⟨w1.heap.size, 0, none⟩ 0 3 = some [.int .i64 (⟨2, v1, v2⟩ : I3).op, .int .i64 (⟨2, v1, v2⟩ : I3).a, .int .i64 (⟨2, v1, v2⟩ : I3).b] := T9d.cellsAt
        push_cast -dsimp [f1, f2]
        refine ⟨fun w'' h => by rw [h.1.cell (o := 1) rfl]; exact rfl, fun w'' h => by rw [show cellsAt w'' ⟨w1.heap.size, 0, none⟩ 0 3 = some [.int .i64 (⟨2, v1, v2⟩ : I3).op, .int .i64 (⟨2, v1, v2⟩ : I3).a, .int .i64 (⟨2, v1, v2⟩ : I3).b] from h.2.cellsAt]; exact rfl, ?_⟩
        refine rowK elI_41 rfl rfl (by omega) ?_
        intro wa hwa
        have za : wa.heap.size = (w8).heap.size + 1 := hwa.size
        have Ba := B9d.below hwa.below B9d.lt
        have Ta := T9d.below hwa.below T9d.lt
        refine ⟨⟨Ba, Ta⟩, ?_⟩
        have hO2d : Vc.Own B 89 3 encIn (w8).drew (.slice ia c.ins.length ic) c.ins := hO29.keptX ((Kept.refl (fun _ => False) (w8)).drew) (fun _ _ h => h)
        have hOa := hO2d.new hwa
        push_cast -dsimp
        refine appendK2 (base := B) [(⟨2, v1, v2⟩ : I3)] (enc := encIn) elI_41 hOa (by rfl) (fun j u hu => by simpa [encIn] using hwa.cell hu) (by simp [encIn, Value.oneCell']) (by simp only [List.length_cons, List.length_nil]; omega) (by show B ≤ wa.heap.size; omega) ?_
        intro vb wb hob hgb hnb
        have hiv : ∀ g, (Value.slice ia c.ins.length ic).ownBlock = some g → B ≤ g ∧ g < w.heap.size := fun g hg => hO2.block g hg
        have kb : Kept (fun j => (Value.slice ia c.ins.length ic).ownBlock = some j) (w8).drew wb := (Kept.new hwa).trans (Kept.grown hgb (fun _ h => h)) (fun _ _ h => h)
        have Bb := B9d.kept kb (fun h => hs2 h)
        have Tb := T9d.kept kb (fun h => by have := hiv _ h; omega)
        refine ⟨⟨Bb, Tb⟩, ?_⟩
        obtain ⟨ib, icb, rfl⟩ := hob.slice
        push_cast -dsimp
        refine storeK_of Bb (by simp) rfl ?_
        intro wc hwc
        have zc := hwc.size
        have kd9 : Kept (fun _ => False) (w8) (w8).drew := (Kept.refl _ _).drew
        have kc : Kept (fun j => (Value.slice ia c.ins.length ic).ownBlock = some j ∨ j = cb) (w8) wc := ((kd9.weaken (fun _ _ h => h.elim)).trans kb (fun _ _ h => .inl h)).trans hwc.kept (fun _ _ h => .inr h)
        have hO2c := hob.keptX hwc.kept (fun g hg hh => by have := (hob.block g hg).1; have := h.lt; omega)
        have hO1c := hO19.keptX kc (fun g hg hh => by
          rcases hh with hh | hh
          · exact ownNe hO19 hO29 (by decide) g hg hh
          · have := (hO19.block g hg).1; have := h.lt; omega)
        have kw : Kept (fun i => i = cb ∨ B ≤ i) w wc := k8.trans (kc.weaken (fun i _ hi => by
          rcases hi with hi | hi
          · exact .inr (hiv i hi).1
          · exact .inl hi)) (fun _ _ h => h)
        have Ct : Cd B cb X wc ⟨c.sets, c.ins ++ [(⟨2, v1, v2⟩ : I3)]⟩ := by
          refine ⟨⟨_, _, _, hwc.blk, hO1c, hO2c, hul9, fun hh => by have := (hO1c.block _ hh).1; have := h.lt; omega, fun hh => by have := (hO2c.block _ hh).1; have := h.lt; omega, ownNe hO1c hO2c (by decide), fun i u t h1 h2 => ?_⟩, h.lt, by have := kw.size; omega, hfew9⟩
          refine (hus9 i u t h1 h2).moved (fun _ => by simp [encR]) kc (fun i hi => by
            rcases hi with hi | hi
            · exact .inr (.inr (.inr hi))
            · exact .inr (.inl hi)) (fun b hb => ?_)
          rcases hb with hb | hb | hb | hb
          · exact .inl (.inl hb)
          · exact .inl (.inr (.inl hb))
          · exact .inl (.inr (.inr (.inl hb)))
          · rcases hnb b hb with hh | hh
            · exact .inl (.inr (.inr (.inr hh)))
            · exact .inr (by omega)
        push_cast -dsimp
        have hIB : instA c s = none := by rw [hIA]; first | rfl | (rw [hm]; rfl)
        rw [hIB]
        exact ⟨rfl, fun c' h' => (by cases h'), ⟨_, Ct⟩, kw⟩
    | false =>
      push_cast -dsimp
      -- w8: the world; (.slice sa us.length sc): the sets' slice; B8: Blk of the instruction at it; (⟨2, v1, v2⟩ : I3): the instruction; k8: Kept from w; c.sets: the sets; hB9, hO19, hO29, hus9: the code's parts at w8, its instructions those at entry
      have z9 := k8.size
      have B9d := hB9.drew
      have T9d := B8.drew
      refine wpL_last (fun w' => Blk w' cb 43 [(.slice sa us.length sc), .slice ia c.ins.length ic] ∧ Blk w' w1.heap.size 89 [.int .i64 (⟨2, v1, v2⟩ : I3).op, .int .i64 (⟨2, v1, v2⟩ : I3).a, .int .i64 (⟨2, v1, v2⟩ : I3).b]) mixed (by kernel_rfl) (by simp) ⟨B9d, T9d⟩ ?_
      have f1 : (w8).drew.cell? ⟨cb, 1, none⟩ = some (.slice ia c.ins.length ic) := B9d.cell rfl
      have f2 : cellsAt (w8).drew ⟨w1.heap.size, 0, none⟩ 0 3 = some [.int .i64 (⟨2, v1, v2⟩ : I3).op, .int .i64 (⟨2, v1, v2⟩ : I3).a, .int .i64 (⟨2, v1, v2⟩ : I3).b] := T9d.cellsAt
      push_cast -dsimp [f1, f2]
      refine ⟨fun w'' h => by rw [h.1.cell (o := 1) rfl]; exact rfl, fun w'' h => by rw [show cellsAt w'' ⟨w1.heap.size, 0, none⟩ 0 3 = some [.int .i64 (⟨2, v1, v2⟩ : I3).op, .int .i64 (⟨2, v1, v2⟩ : I3).a, .int .i64 (⟨2, v1, v2⟩ : I3).b] from h.2.cellsAt]; exact rfl, ?_⟩
      refine rowK elI_41 rfl rfl (by omega) ?_
      intro wa hwa
      have za : wa.heap.size = (w8).heap.size + 1 := hwa.size
      have Ba := B9d.below hwa.below B9d.lt
      have Ta := T9d.below hwa.below T9d.lt
      refine ⟨⟨Ba, Ta⟩, ?_⟩
      have hO2d : Vc.Own B 89 3 encIn (w8).drew (.slice ia c.ins.length ic) c.ins := hO29.keptX ((Kept.refl (fun _ => False) (w8)).drew) (fun _ _ h => h)
      have hOa := hO2d.new hwa
      push_cast -dsimp
      refine appendK2 (base := B) [(⟨2, v1, v2⟩ : I3)] (enc := encIn) elI_41 hOa (by rfl) (fun j u hu => by simpa [encIn] using hwa.cell hu) (by simp [encIn, Value.oneCell']) (by simp only [List.length_cons, List.length_nil]; omega) (by show B ≤ wa.heap.size; omega) ?_
      intro vb wb hob hgb hnb
      have hiv : ∀ g, (Value.slice ia c.ins.length ic).ownBlock = some g → B ≤ g ∧ g < w.heap.size := fun g hg => hO2.block g hg
      have kb : Kept (fun j => (Value.slice ia c.ins.length ic).ownBlock = some j) (w8).drew wb := (Kept.new hwa).trans (Kept.grown hgb (fun _ h => h)) (fun _ _ h => h)
      have Bb := B9d.kept kb (fun h => hs2 h)
      have Tb := T9d.kept kb (fun h => by have := hiv _ h; omega)
      refine ⟨⟨Bb, Tb⟩, ?_⟩
      obtain ⟨ib, icb, rfl⟩ := hob.slice
      push_cast -dsimp
      refine storeK_of Bb (by simp) rfl ?_
      intro wc hwc
      have zc := hwc.size
      have kd9 : Kept (fun _ => False) (w8) (w8).drew := (Kept.refl _ _).drew
      have kc : Kept (fun j => (Value.slice ia c.ins.length ic).ownBlock = some j ∨ j = cb) (w8) wc := ((kd9.weaken (fun _ _ h => h.elim)).trans kb (fun _ _ h => .inl h)).trans hwc.kept (fun _ _ h => .inr h)
      have hO2c := hob.keptX hwc.kept (fun g hg hh => by have := (hob.block g hg).1; have := h.lt; omega)
      have hO1c := hO19.keptX kc (fun g hg hh => by
        rcases hh with hh | hh
        · exact ownNe hO19 hO29 (by decide) g hg hh
        · have := (hO19.block g hg).1; have := h.lt; omega)
      have kw : Kept (fun i => i = cb ∨ B ≤ i) w wc := k8.trans (kc.weaken (fun i _ hi => by
        rcases hi with hi | hi
        · exact .inr (hiv i hi).1
        · exact .inl hi)) (fun _ _ h => h)
      have Ct : Cd B cb X wc ⟨c.sets, c.ins ++ [(⟨2, v1, v2⟩ : I3)]⟩ := by
        refine ⟨⟨_, _, _, hwc.blk, hO1c, hO2c, hul9, fun hh => by have := (hO1c.block _ hh).1; have := h.lt; omega, fun hh => by have := (hO2c.block _ hh).1; have := h.lt; omega, ownNe hO1c hO2c (by decide), fun i u t h1 h2 => ?_⟩, h.lt, by have := kw.size; omega, hfew9⟩
        refine (hus9 i u t h1 h2).moved (fun _ => by simp [encR]) kc (fun i hi => by
          rcases hi with hi | hi
          · exact .inr (.inr (.inr hi))
          · exact .inr (.inl hi)) (fun b hb => ?_)
        rcases hb with hb | hb | hb | hb
        · exact .inl (.inl hb)
        · exact .inl (.inr (.inl hb))
        · exact .inl (.inr (.inr (.inl hb)))
        · rcases hnb b hb with hh | hh
          · exact .inl (.inr (.inr (.inr hh)))
          · exact .inr (by omega)
      push_cast -dsimp
      have hIB : instA c s = none := by rw [hIA]; first | rfl | (rw [hm]; rfl)
      rw [hIB]
      exact ⟨rfl, fun c' h' => (by cases h'), ⟨_, Ct⟩, kw⟩
  · rw [h0] at B3
    rw [h0]
    refine ⟨fun h => by omega, fun _ => ⟨fun h => by omega, fun _ => ⟨fun _ => ?_, fun h => absurd rfl h⟩⟩⟩
    have hIA := instA_jump (c := c) hnm
    have hcl := cut_len 32 s
    refine callK_of (number_c (cutP 32 s).2.1 (by omega) w3 (he.below hbw3) (hp.below (hbw3.mono hle) hg) (by omega)) ?_
    rintro _ w5 ⟨hr5, hb5⟩
    have hr : ∃ v b, (‹Value› : Value) = .tuple #[.int .i64 v, .bool b] ∧ numA (cutP 32 s).2.1 = if b then some v else none := by
      rcases hr5 with ⟨v, h1, h2⟩ | ⟨h1, v, h2⟩
      · exact ⟨v, true, h2, by rw [h1]; rfl⟩
      · exact ⟨v, false, h2, by rw [h1]; rfl⟩
    obtain ⟨v1, b1, rfl, hv1⟩ := hr
    have z5 := hb5.size
    have hbw5 := hbw3.trans (hb5.mono (by omega))
    have B5 := B3.below hb5 (by omega)
    push_cast -dsimp
    refine storeK_of B5 (by simp) rfl ?_
    intro w6 hw6
    have z6 := hw6.size
    have B6 : Blk w6 w1.heap.size 89 [.int .i64 3, .int .i64 v1, .int .i64 0] := hw6.blk
    have hbw6 := hbw5.trans (hw6.kept.below (B := w.heap.size) (by omega) (fun i h => by omega))
    have k6 : Kept (fun i => i = cb ∨ B ≤ i) w w6 := Kept.of_below hbw6 (fun i h1 h2 => by omega)
    have hB9 := hB.below hbw6 hB.lt
    have hul9 := hul
    have hfew9 := h.few
    have hO19 := hO1.below hbw6
    have hO29 := hO2.below hbw6
    have hus9 := fun (i : Nat) (u : SV) (s : List Rg) h1 h2 => (hus i u s h1 h2).below hbw6
    rw [hv1] at hIA
    push_cast -dsimp
    -- w6: the world; (.slice sa us.length sc): the sets' slice; B6: Blk of the instruction at it; (⟨3, v1, 0⟩ : I3): the instruction; k6: Kept from w; c.sets: the sets; hB9, hO19, hO29, hus9: the code's parts at w6, its instructions those at entry
    have z9 := k6.size
    have B9d := hB9.drew
    have T9d := B6.drew
    refine wpL_last (fun w' => Blk w' cb 43 [(.slice sa us.length sc), .slice ia c.ins.length ic] ∧ Blk w' w1.heap.size 89 [.int .i64 (⟨3, v1, 0⟩ : I3).op, .int .i64 (⟨3, v1, 0⟩ : I3).a, .int .i64 (⟨3, v1, 0⟩ : I3).b]) mixed (by kernel_rfl) (by simp) ⟨B9d, T9d⟩ ?_
    have f1 : (w6).drew.cell? ⟨cb, 1, none⟩ = some (.slice ia c.ins.length ic) := B9d.cell rfl
    have f2 : cellsAt (w6).drew ⟨w1.heap.size, 0, none⟩ 0 3 = some [.int .i64 (⟨3, v1, 0⟩ : I3).op, .int .i64 (⟨3, v1, 0⟩ : I3).a, .int .i64 (⟨3, v1, 0⟩ : I3).b] := T9d.cellsAt
    push_cast -dsimp [f1, f2]
    refine ⟨fun w'' h => by rw [h.1.cell (o := 1) rfl]; exact rfl, fun w'' h => by rw [show cellsAt w'' ⟨w1.heap.size, 0, none⟩ 0 3 = some [.int .i64 (⟨3, v1, 0⟩ : I3).op, .int .i64 (⟨3, v1, 0⟩ : I3).a, .int .i64 (⟨3, v1, 0⟩ : I3).b] from h.2.cellsAt]; exact rfl, ?_⟩
    refine rowK elI_41 rfl rfl (by omega) ?_
    intro wa hwa
    have za : wa.heap.size = (w6).heap.size + 1 := hwa.size
    have Ba := B9d.below hwa.below B9d.lt
    have Ta := T9d.below hwa.below T9d.lt
    refine ⟨⟨Ba, Ta⟩, ?_⟩
    have hO2d : Vc.Own B 89 3 encIn (w6).drew (.slice ia c.ins.length ic) c.ins := hO29.keptX ((Kept.refl (fun _ => False) (w6)).drew) (fun _ _ h => h)
    have hOa := hO2d.new hwa
    push_cast -dsimp
    refine appendK2 (base := B) [(⟨3, v1, 0⟩ : I3)] (enc := encIn) elI_41 hOa (by rfl) (fun j u hu => by simpa [encIn] using hwa.cell hu) (by simp [encIn, Value.oneCell']) (by simp only [List.length_cons, List.length_nil]; omega) (by show B ≤ wa.heap.size; omega) ?_
    intro vb wb hob hgb hnb
    have hiv : ∀ g, (Value.slice ia c.ins.length ic).ownBlock = some g → B ≤ g ∧ g < w.heap.size := fun g hg => hO2.block g hg
    have kb : Kept (fun j => (Value.slice ia c.ins.length ic).ownBlock = some j) (w6).drew wb := (Kept.new hwa).trans (Kept.grown hgb (fun _ h => h)) (fun _ _ h => h)
    have Bb := B9d.kept kb (fun h => hs2 h)
    have Tb := T9d.kept kb (fun h => by have := hiv _ h; omega)
    refine ⟨⟨Bb, Tb⟩, ?_⟩
    obtain ⟨ib, icb, rfl⟩ := hob.slice
    push_cast -dsimp
    refine storeK_of Bb (by simp) rfl ?_
    intro wc hwc
    have zc := hwc.size
    have kd9 : Kept (fun _ => False) (w6) (w6).drew := (Kept.refl _ _).drew
    have kc : Kept (fun j => (Value.slice ia c.ins.length ic).ownBlock = some j ∨ j = cb) (w6) wc := ((kd9.weaken (fun _ _ h => h.elim)).trans kb (fun _ _ h => .inl h)).trans hwc.kept (fun _ _ h => .inr h)
    have hO2c := hob.keptX hwc.kept (fun g hg hh => by have := (hob.block g hg).1; have := h.lt; omega)
    have hO1c := hO19.keptX kc (fun g hg hh => by
      rcases hh with hh | hh
      · exact ownNe hO19 hO29 (by decide) g hg hh
      · have := (hO19.block g hg).1; have := h.lt; omega)
    have kw : Kept (fun i => i = cb ∨ B ≤ i) w wc := k6.trans (kc.weaken (fun i _ hi => by
      rcases hi with hi | hi
      · exact .inr (hiv i hi).1
      · exact .inl hi)) (fun _ _ h => h)
    have Ct : Cd B cb X wc ⟨c.sets, c.ins ++ [(⟨3, v1, 0⟩ : I3)]⟩ := by
      refine ⟨⟨_, _, _, hwc.blk, hO1c, hO2c, hul9, fun hh => by have := (hO1c.block _ hh).1; have := h.lt; omega, fun hh => by have := (hO2c.block _ hh).1; have := h.lt; omega, ownNe hO1c hO2c (by decide), fun i u t h1 h2 => ?_⟩, h.lt, by have := kw.size; omega, hfew9⟩
      refine (hus9 i u t h1 h2).moved (fun _ => by simp [encR]) kc (fun i hi => by
        rcases hi with hi | hi
        · exact .inr (.inr (.inr hi))
        · exact .inr (.inl hi)) (fun b hb => ?_)
      rcases hb with hb | hb | hb | hb
      · exact .inl (.inl hb)
      · exact .inl (.inr (.inl hb))
      · exact .inl (.inr (.inr (.inl hb)))
      · rcases hnb b hb with hh | hh
        · exact .inl (.inr (.inr (.inr hh)))
        · exact .inr (by omega)
    push_cast -dsimp
    rw [hIA]
    refine ⟨by cases b1 <;> rfl, fun c' h' => ?_, ⟨_, Ct⟩, kw⟩
    cases b1 with
    | true => cases h'; exact Ct
    | false => cases h'
  · rw [h0] at B3
    rw [h0]
    refine ⟨fun h => by omega, fun _ => ⟨fun h => by omega, fun _ => ⟨fun h => by omega, fun _ => ?_⟩⟩⟩
    have hB9 := hB.below hbw3 hB.lt
    have hul9 := hul
    have hfew9 := h.few
    have hO19 := hO1.below hbw3
    have hO29 := hO2.below hbw3
    have hus9 := fun (i : Nat) (u : SV) (s : List Rg) h1 h2 => (hus i u s h1 h2).below hbw3
    -- w3: the world; (.slice sa us.length sc): the sets' slice; B3: Blk of the instruction at it; (⟨4, 0, 0⟩ : I3): the instruction; k3: Kept from w; c.sets: the sets; hB9, hO19, hO29, hus9: the code's parts at w3, its instructions those at entry
    have z9 := k3.size
    have B9d := hB9.drew
    have T9d := B3.drew
    refine wpL_last (fun w' => Blk w' cb 43 [(.slice sa us.length sc), .slice ia c.ins.length ic] ∧ Blk w' w1.heap.size 89 [.int .i64 (⟨4, 0, 0⟩ : I3).op, .int .i64 (⟨4, 0, 0⟩ : I3).a, .int .i64 (⟨4, 0, 0⟩ : I3).b]) mixed (by kernel_rfl) (by simp) ⟨B9d, T9d⟩ ?_
    have f1 : (w3).drew.cell? ⟨cb, 1, none⟩ = some (.slice ia c.ins.length ic) := B9d.cell rfl
    have f2 : cellsAt (w3).drew ⟨w1.heap.size, 0, none⟩ 0 3 = some [.int .i64 (⟨4, 0, 0⟩ : I3).op, .int .i64 (⟨4, 0, 0⟩ : I3).a, .int .i64 (⟨4, 0, 0⟩ : I3).b] := T9d.cellsAt
    push_cast -dsimp [f1, f2]
    refine ⟨fun w'' h => by rw [h.1.cell (o := 1) rfl]; exact rfl, fun w'' h => by rw [show cellsAt w'' ⟨w1.heap.size, 0, none⟩ 0 3 = some [.int .i64 (⟨4, 0, 0⟩ : I3).op, .int .i64 (⟨4, 0, 0⟩ : I3).a, .int .i64 (⟨4, 0, 0⟩ : I3).b] from h.2.cellsAt]; exact rfl, ?_⟩
    refine rowK elI_41 rfl rfl (by omega) ?_
    intro wa hwa
    have za : wa.heap.size = (w3).heap.size + 1 := hwa.size
    have Ba := B9d.below hwa.below B9d.lt
    have Ta := T9d.below hwa.below T9d.lt
    refine ⟨⟨Ba, Ta⟩, ?_⟩
    have hO2d : Vc.Own B 89 3 encIn (w3).drew (.slice ia c.ins.length ic) c.ins := hO29.keptX ((Kept.refl (fun _ => False) (w3)).drew) (fun _ _ h => h)
    have hOa := hO2d.new hwa
    push_cast -dsimp
    refine appendK2 (base := B) [(⟨4, 0, 0⟩ : I3)] (enc := encIn) elI_41 hOa (by rfl) (fun j u hu => by simpa [encIn] using hwa.cell hu) (by simp [encIn, Value.oneCell']) (by simp only [List.length_cons, List.length_nil]; omega) (by show B ≤ wa.heap.size; omega) ?_
    intro vb wb hob hgb hnb
    have hiv : ∀ g, (Value.slice ia c.ins.length ic).ownBlock = some g → B ≤ g ∧ g < w.heap.size := fun g hg => hO2.block g hg
    have kb : Kept (fun j => (Value.slice ia c.ins.length ic).ownBlock = some j) (w3).drew wb := (Kept.new hwa).trans (Kept.grown hgb (fun _ h => h)) (fun _ _ h => h)
    have Bb := B9d.kept kb (fun h => hs2 h)
    have Tb := T9d.kept kb (fun h => by have := hiv _ h; omega)
    refine ⟨⟨Bb, Tb⟩, ?_⟩
    obtain ⟨ib, icb, rfl⟩ := hob.slice
    push_cast -dsimp
    refine storeK_of Bb (by simp) rfl ?_
    intro wc hwc
    have zc := hwc.size
    have kd9 : Kept (fun _ => False) (w3) (w3).drew := (Kept.refl _ _).drew
    have kc : Kept (fun j => (Value.slice ia c.ins.length ic).ownBlock = some j ∨ j = cb) (w3) wc := ((kd9.weaken (fun _ _ h => h.elim)).trans kb (fun _ _ h => .inl h)).trans hwc.kept (fun _ _ h => .inr h)
    have hO2c := hob.keptX hwc.kept (fun g hg hh => by have := (hob.block g hg).1; have := h.lt; omega)
    have hO1c := hO19.keptX kc (fun g hg hh => by
      rcases hh with hh | hh
      · exact ownNe hO19 hO29 (by decide) g hg hh
      · have := (hO19.block g hg).1; have := h.lt; omega)
    have kw : Kept (fun i => i = cb ∨ B ≤ i) w wc := k3.trans (kc.weaken (fun i _ hi => by
      rcases hi with hi | hi
      · exact .inr (hiv i hi).1
      · exact .inl hi)) (fun _ _ h => h)
    have Ct : Cd B cb X wc ⟨c.sets, c.ins ++ [(⟨4, 0, 0⟩ : I3)]⟩ := by
      refine ⟨⟨_, _, _, hwc.blk, hO1c, hO2c, hul9, fun hh => by have := (hO1c.block _ hh).1; have := h.lt; omega, fun hh => by have := (hO2c.block _ hh).1; have := h.lt; omega, ownNe hO1c hO2c (by decide), fun i u t h1 h2 => ?_⟩, h.lt, by have := kw.size; omega, hfew9⟩
      refine (hus9 i u t h1 h2).moved (fun _ => by simp [encR]) kc (fun i hi => by
        rcases hi with hi | hi
        · exact .inr (.inr (.inr hi))
        · exact .inr (.inl hi)) (fun b hb => ?_)
      rcases hb with hb | hb | hb | hb
      · exact .inl (.inl hb)
      · exact .inl (.inr (.inl hb))
      · exact .inl (.inr (.inr (.inl hb)))
      · rcases hnb b hb with hh | hh
        · exact .inl (.inr (.inr (.inr hh)))
        · exact .inr (by omega)
    push_cast -dsimp
    have hIA := instA_end (c := c) hnm
    rw [hIA]
    refine ⟨by cases (cutP 32 s).2.2 <;> rfl, fun c' h' => ?_, ⟨_, Ct⟩, kw⟩
    cases hm : (cutP 32 s).2.2 with
    | true => rw [hm] at h'; cases h'
    | false => rw [hm] at h'; cases h'; exact Ct
  · rw [h0] at B3
    rw [h0]
    refine ⟨fun h => by omega, fun _ => ⟨fun h => by omega, fun _ => ⟨fun h => by omega, fun _ => ?_⟩⟩⟩
    have hB9 := hB.below hbw3 hB.lt
    have hul9 := hul
    have hfew9 := h.few
    have hO19 := hO1.below hbw3
    have hO29 := hO2.below hbw3
    have hus9 := fun (i : Nat) (u : SV) (s : List Rg) h1 h2 => (hus i u s h1 h2).below hbw3
    -- w3: the world; (.slice sa us.length sc): the sets' slice; B3: Blk of the instruction at it; (⟨5, 0, 0⟩ : I3): the instruction; k3: Kept from w; c.sets: the sets; hB9, hO19, hO29, hus9: the code's parts at w3, its instructions those at entry
    have z9 := k3.size
    have B9d := hB9.drew
    have T9d := B3.drew
    refine wpL_last (fun w' => Blk w' cb 43 [(.slice sa us.length sc), .slice ia c.ins.length ic] ∧ Blk w' w1.heap.size 89 [.int .i64 (⟨5, 0, 0⟩ : I3).op, .int .i64 (⟨5, 0, 0⟩ : I3).a, .int .i64 (⟨5, 0, 0⟩ : I3).b]) mixed (by kernel_rfl) (by simp) ⟨B9d, T9d⟩ ?_
    have f1 : (w3).drew.cell? ⟨cb, 1, none⟩ = some (.slice ia c.ins.length ic) := B9d.cell rfl
    have f2 : cellsAt (w3).drew ⟨w1.heap.size, 0, none⟩ 0 3 = some [.int .i64 (⟨5, 0, 0⟩ : I3).op, .int .i64 (⟨5, 0, 0⟩ : I3).a, .int .i64 (⟨5, 0, 0⟩ : I3).b] := T9d.cellsAt
    push_cast -dsimp [f1, f2]
    refine ⟨fun w'' h => by rw [h.1.cell (o := 1) rfl]; exact rfl, fun w'' h => by rw [show cellsAt w'' ⟨w1.heap.size, 0, none⟩ 0 3 = some [.int .i64 (⟨5, 0, 0⟩ : I3).op, .int .i64 (⟨5, 0, 0⟩ : I3).a, .int .i64 (⟨5, 0, 0⟩ : I3).b] from h.2.cellsAt]; exact rfl, ?_⟩
    refine rowK elI_41 rfl rfl (by omega) ?_
    intro wa hwa
    have za : wa.heap.size = (w3).heap.size + 1 := hwa.size
    have Ba := B9d.below hwa.below B9d.lt
    have Ta := T9d.below hwa.below T9d.lt
    refine ⟨⟨Ba, Ta⟩, ?_⟩
    have hO2d : Vc.Own B 89 3 encIn (w3).drew (.slice ia c.ins.length ic) c.ins := hO29.keptX ((Kept.refl (fun _ => False) (w3)).drew) (fun _ _ h => h)
    have hOa := hO2d.new hwa
    push_cast -dsimp
    refine appendK2 (base := B) [(⟨5, 0, 0⟩ : I3)] (enc := encIn) elI_41 hOa (by rfl) (fun j u hu => by simpa [encIn] using hwa.cell hu) (by simp [encIn, Value.oneCell']) (by simp only [List.length_cons, List.length_nil]; omega) (by show B ≤ wa.heap.size; omega) ?_
    intro vb wb hob hgb hnb
    have hiv : ∀ g, (Value.slice ia c.ins.length ic).ownBlock = some g → B ≤ g ∧ g < w.heap.size := fun g hg => hO2.block g hg
    have kb : Kept (fun j => (Value.slice ia c.ins.length ic).ownBlock = some j) (w3).drew wb := (Kept.new hwa).trans (Kept.grown hgb (fun _ h => h)) (fun _ _ h => h)
    have Bb := B9d.kept kb (fun h => hs2 h)
    have Tb := T9d.kept kb (fun h => by have := hiv _ h; omega)
    refine ⟨⟨Bb, Tb⟩, ?_⟩
    obtain ⟨ib, icb, rfl⟩ := hob.slice
    push_cast -dsimp
    refine storeK_of Bb (by simp) rfl ?_
    intro wc hwc
    have zc := hwc.size
    have kd9 : Kept (fun _ => False) (w3) (w3).drew := (Kept.refl _ _).drew
    have kc : Kept (fun j => (Value.slice ia c.ins.length ic).ownBlock = some j ∨ j = cb) (w3) wc := ((kd9.weaken (fun _ _ h => h.elim)).trans kb (fun _ _ h => .inl h)).trans hwc.kept (fun _ _ h => .inr h)
    have hO2c := hob.keptX hwc.kept (fun g hg hh => by have := (hob.block g hg).1; have := h.lt; omega)
    have hO1c := hO19.keptX kc (fun g hg hh => by
      rcases hh with hh | hh
      · exact ownNe hO19 hO29 (by decide) g hg hh
      · have := (hO19.block g hg).1; have := h.lt; omega)
    have kw : Kept (fun i => i = cb ∨ B ≤ i) w wc := k3.trans (kc.weaken (fun i _ hi => by
      rcases hi with hi | hi
      · exact .inr (hiv i hi).1
      · exact .inl hi)) (fun _ _ h => h)
    have Ct : Cd B cb X wc ⟨c.sets, c.ins ++ [(⟨5, 0, 0⟩ : I3)]⟩ := by
      refine ⟨⟨_, _, _, hwc.blk, hO1c, hO2c, hul9, fun hh => by have := (hO1c.block _ hh).1; have := h.lt; omega, fun hh => by have := (hO2c.block _ hh).1; have := h.lt; omega, ownNe hO1c hO2c (by decide), fun i u t h1 h2 => ?_⟩, h.lt, by have := kw.size; omega, hfew9⟩
      refine (hus9 i u t h1 h2).moved (fun _ => by simp [encR]) kc (fun i hi => by
        rcases hi with hi | hi
        · exact .inr (.inr (.inr hi))
        · exact .inr (.inl hi)) (fun b hb => ?_)
      rcases hb with hb | hb | hb | hb
      · exact .inl (.inl hb)
      · exact .inl (.inr (.inl hb))
      · exact .inl (.inr (.inr (.inl hb)))
      · rcases hnb b hb with hh | hh
        · exact .inl (.inr (.inr (.inr hh)))
        · exact .inr (by omega)
    push_cast -dsimp
    have hIA := instA_yes (c := c) hnm
    rw [hIA]
    refine ⟨by cases (cutP 32 s).2.2 <;> rfl, fun c' h' => ?_, ⟨_, Ct⟩, kw⟩
    cases hm : (cutP 32 s).2.2 with
    | true => rw [hm] at h'; cases h'
    | false => rw [hm] at h'; cases h'; exact Ct
end Go.Proofs.YtiofleijieepgaaGreatDoor
end
section
/- (its rules are those of V, since V lets nil checks float.) -/
end
section
namespace Go.Proofs.YtiofleijieepgaaGreatDoor
open Go.Vc Go.Proofs Go.RowKit Cae
set_option maxRecDepth 100000
set_option linter.unusedSimpArgs false
set_option linter.unusedVariables false
attribute [local irreducible] wpL callK valK unitK runK Fun Sl Vc.Own vc vcOps opK pureK
set_option maxHeartbeats 4000000
theorem Rd.kept {rb : Nat} {X Y : Nat → Prop} {w w' : World} {l : List (List UInt8)} (h : Rd rb X w l) (hk : Kept Y w w') (hY : ∀ i, Y i → X i) (hr : ¬ Y rb) : Rd rb X w' l := by
  obtain ⟨v, h1, h2⟩ := h.st
  exact ⟨⟨v, h1.kept hk hr, h2.kept hk hY⟩, h.self, h.txt, h.len⟩
theorem Rd.fresh {rb : Nat} {X X' : Nat → Prop} {w : World} {l : List (List UInt8)} (h : Rd rb X w l) (hX : ∀ b, X' b → X b ∨ w.heap.size ≤ b) (hs : X' rb) : Rd rb X' w l := by
  obtain ⟨v, h1, h2⟩ := h.st
  exact ⟨⟨v, h1, h2.fresh (fun _ => by simp [encS]) hX⟩, hs, h.txt, h.len⟩
theorem Rd.lt {rb : Nat} {X : Nat → Prop} {w : World} {l : List (List UInt8)} (h : Rd rb X w l) : rb < w.heap.size := by
  obtain ⟨v, h1, _⟩ := h.st
  exact h1.lt
theorem Rd.weaken {rb : Nat} {X X' : Nat → Prop} {w : World} {l : List (List UInt8)} (h : Rd rb X w l) (hX : ∀ b, X' b → X b) (hs : X' rb) : Rd rb X' w l := h.fresh (fun b hb => .inl (hX b hb)) hs
/-- What the world's variables are. -/
structure Vs (w : World) : Prop where
  d : Db w
  e : SErrs w
  p : Pw w
  n : Nms w
  m : Mx w
theorem Vs.below {B : Nat} {w w' : World} (h : Vs w) (hb : Below B w w') (hB : 14 ≤ B) : Vs w' := by
  obtain ⟨⟨t1, p1, h1⟩, ⟨t2, p2, h2⟩⟩ := h.e
  obtain ⟨m, hm⟩ := h.m
  exact ⟨h.d.kept' hb hB, ⟨⟨t1, p1, (hb.cell (Nat.lt_of_lt_of_le (by decide) hB)).trans h1⟩, ⟨t2, p2, (hb.cell (Nat.lt_of_lt_of_le (by decide) hB)).trans h2⟩⟩, h.p.below hb hB, h.n.below hb hB, ⟨m, (hb.cell (Nat.lt_of_lt_of_le (by decide) hB)).trans hm⟩⟩
/-- How many lines a reader has. -/
def linesOf (rb : Nat) (w : World) : Nat := match w.cell? ⟨rb, 0, none⟩ with
  | some (.slice _ n _) => n
  | _ => 0
theorem Rd.lines {rb : Nat} {X : Nat → Prop} {w : World} {l : List (List UInt8)} (h : Rd rb X w l) : linesOf rb w = l.length := by
  obtain ⟨v, h1, h2⟩ := h.st
  obtain ⟨a, c, rfl, _⟩ := h2.shape
  have := h1.cell (o := 0) rfl
  unfold linesOf
  rw [this]
/-- Code that was read, as a value. -/
theorem Cd.done {B cb : Nat} {X : Nat → Prop} {w : World} {c : CodeP} (h : Cd B cb X w c) (hX : ∀ b, X b → b < B) : ∃ x0 x1 x2 x3, Blk w cb 43 [.slice x0 c.sets.length x1, .slice x2 c.ins.length x3] ∧
    ∀ w', Put w w' cb 43 [.slice x0 c.sets.length x1, .slice x2 c.ins.length x3] → CodeV X w' (.agg #[.slice x0 c.sets.length x1, .slice x2 c.ins.length x3]) c := by
  obtain ⟨sv, iv, us, hB, hO1, hO2, hul, hs1, hs2, hs3, hus⟩ := h.st
  obtain ⟨x0, x1, rfl⟩ := hO1.slice
  obtain ⟨x2, x3, rfl⟩ := hO2.slice
  rw [hul] at hB hO1 hs1 hs3 hus
  refine ⟨x0, x1, x2, x3, hB, fun w' hp => ⟨_, _, rfl, SetsV.of_values hul ?_ (fun i u s h1 h2 => ?_), ?_⟩⟩
  · have hO := hO1.keptX hp.kept (fun g hg hh => hs1 (by rw [hg, hh]))
    rw [← hul]
    rw [← hul] at hO
    exact hO.sl.weaken (fun b hb => hX b hb)
  · exact ((hus i u s h1 h2).kept hp.kept (fun i hi => .inr (.inl hi))).weaken (fun b hb => .inl hb)
  · exact (hO2.keptX hp.kept (fun g hg hh => hs2 (by rw [hg, hh]))).sl.weaken (fun b hb => hX b hb)
/-- A block of the class is written. -/
theorem Cd.other {B cb rb : Nat} {X : Nat → Prop} {w w' : World} {c : CodeP} (h : Cd B cb X w c) (hk : Kept (· = rb) w w') (hX : ∀ b, b = rb → X b) (hr : rb < cb) : Cd B cb X w' c := by
  obtain ⟨sv, iv, us, hB, hO1, hO2, hul, hs1, hs2, hs3, hus⟩ := h.st
  have hl := h.lt
  exact ⟨⟨sv, iv, us, hB.kept hk (by omega), hO1.keptX hk (fun g hg hh => by have := (hO1.block g hg).1; omega), hO2.keptX hk (fun g hg hh => by have := (hO2.block g hg).1; omega), hul, hs1, hs2, hs3, fun i u s h1 h2 => (hus i u s h1 h2).kept hk (fun i hi => .inl (hX i hi))⟩, h.lt, Nat.le_trans h.le hk.size, h.few⟩
/-- What the reader's code answers. -/
def CodeA (B : Nat) (l l' : List (List UInt8)) (r : Value) (w : World) : Prop :=
  ∃ (a1 : Option Addr) (n1 c1 : Nat) (a2 : Option Addr) (n2 c2 : Nat) (is : Bool), r = .tuple #[.agg #[.slice a1 n1 c1, .slice a2 n2 c2], .bool is] ∧ ((∃ c, is = true ∧ codeA ⟨[], []⟩ l = .ok (c, l') ∧ CodeV (· < B) w (.agg #[.slice a1 n1 c1, .slice a2 n2 c2]) c) ∨ (is = false ∧ codeA ⟨[], []⟩ l = .error l'.length))
theorem readCode_c (l : List (List UInt8)) {rb : Nat} {X : Nat → Prop} {w : World} (h : Rd rb X w l) (hv : Vs w) (hg : 14 ≤ rb) :
    Fun Tryz.prog 29 [.pointer (some ⟨rb, 0, none⟩)] w fun r w' => ∃ l', Rd rb X w' l' ∧ CodeA w.heap.size l l' r w' ∧ Kept (fun i => i = rb ∨ w.heap.size ≤ i) w w' := by
  have hll := h.len
  have hrb := h.lt
  refine fun_of_vcC Tryz.func29 rfl (by kernel_rfl) [.cell 2 43, .tmp 3] rfl ?_
  push_cast -dsimp (maxSteps := 4000000) [Tryz.ntmps29]
  refine allocK (z := [.slice none 0 0, .slice none 0 0]) (by kernel_rfl) ?_
  intro w1 hw1
  have z1 := hw1.size
  have hX : ∃ X1 : Nat → Prop, X1 = (fun b => X b ∨ w.heap.size ≤ b) := ⟨_, rfl⟩
  obtain ⟨X1, hX1⟩ := hX
  have hR1 : Rd rb X1 w1 l := (h.fresh (X' := X1) (fun b hb => by rw [hX1] at hb; exact hb) (by rw [hX1]; exact .inl h.self)).kept (Kept.new hw1 (X := fun _ => False)) (fun _ h => h.elim) id
  have hC1 : Cd (w.heap.size + 1) w.heap.size (· < w.heap.size) w1 ⟨[], []⟩ := ⟨⟨.slice none 0 0, .slice none 0 0, [], hw1.blk, Vc.Own.nil (enc := encSV) _ _ (fun _ => rfl) _, Vc.Own.nil (enc := encIn) _ _ (fun _ => rfl) _, rfl, by simp [Value.ownBlock], by simp [Value.ownBlock], by simp [Value.ownBlock], fun i u s h1 h2 => by simp at h1⟩, by omega, by omega, fun s hs => by cases hs⟩
  push_cast -dsimp
  refine wpL_loop [3, 4, 5, 6, 7, 8, 9, 10, 11, 12, 13, 14, 15, 16, 17, 18, 19, 20, 21, 22, 23, 24, 25, 26, 27, 28, 29, 30, 31, 32, 33, 34, 35, 36, 37, 38, 39, 40, 41, 42, 43, 44, 45, 46, 47, 48, 49, 50, 51, 52, 53, 54, 55] (fun z wx => ∃ (c : CodeP) (lc : List (List UInt8)), codeA c lc = codeA ⟨[], []⟩ l ∧ Cd (w.heap.size + 1) w.heap.size (· < w.heap.size) wx c ∧ Rd rb X1 wx lc ∧ Few c ∧ c.ins.length + lc.length = l.length ∧ Kept (fun i => i = rb ∨ w.heap.size ≤ i) w wx) (fun _ wx => linesOf rb wx) ?_ ?_
  · exact ⟨⟨[], []⟩, l, rfl, hC1, hR1, few_nil, by simp, Kept.new hw1⟩
  · intro z wx hI
    obtain ⟨c, lc, hcl, hC, hR, hF, hN, hK⟩ := hI
    have zx := hK.size
    cases lc with
    | nil =>
      have hR0 := hR
      obtain ⟨v, h1, h2⟩ := hR0.st
      obtain ⟨va, vc, rfl, hvc⟩ := h2.shape
      have cb : wx.cell? ⟨rb, 0, none⟩ = some (.slice va 0 vc) := h1.cell rfl
      push_cast -dsimp [cb]
      -- wx: the world; hR: the reader there; ([] : List (List UInt8)): the lines; hC: Cd; hK: Kept from w
      have hfin := (hC).done (fun b hb => by omega)
      obtain ⟨x0, x1, x2, x3, hBz, hfin⟩ := hfin
      have c2 : cellsAt (wx) ⟨w.heap.size, 0, none⟩ 0 2 = some [.slice x0 c.sets.length x1, .slice x2 c.ins.length x3] := hBz.cellsAt
      push_cast -dsimp [c2]
      refine storeAgg (n := 2) (by kernel_rfl) hBz rfl (by simp) (by simp [Value.oneCell']) ?_
      intro wz hwz
      have c3 : cellsAt wz ⟨w.heap.size, 0, none⟩ 0 2 = some [.slice x0 c.sets.length x1, .slice x2 c.ins.length x3] := hwz.blk.cellsAt
      have hkz := hwz.kept
      have hvz := hfin wz hwz
      push_cast -dsimp [c3]
      exact ⟨_, ((hR).kept hkz (fun i hi => by rw [hX1]; exact .inr (by omega)) (by omega)).weaken (fun b hb => by rw [hX1]; exact .inl hb) h.self, ⟨_, _, _, _, _, _, _, rfl, .inl ⟨c, rfl, by rw [← hcl]; exact rfl, hvz⟩⟩, (hK).trans hkz (fun i _ hi => .inr (by omega))⟩
    | cons t r =>
      obtain ⟨b, o, k, hB, hk, hcell⟩ := hR.hd
      have cb : wx.cell? ⟨rb, 0, none⟩ = some (.slice (some ⟨b, o, none⟩) (r.length + 1) k) := hB.cell rfl
      have htx := hR.txt t List.mem_cons_self
      push_cast -dsimp [cb, hcell]
      refine ⟨fun _ => ⟨by omega, fun hne => ⟨by omega, ?_⟩, fun heq => ?_⟩, fun h0 => by omega⟩
      · refine callK_of (hasPre_c t [114, 117, 108, 101, 32] wx) ?_
        rintro _ wy ⟨rfl, hwe⟩
        obtain rfl : wx = wy := hwe.symm
        cases hpr : ([114, 117, 108, 101, 32] : List UInt8).isPrefixOf t with
        | true =>
          have hst : codeA c (t :: r) = .ok (c, t :: r) := by
            rw [codeA, if_pos]
            unfold stopA
            rw [show ruleW.isPrefixOf t = true from hpr]
            simp
          push_cast -dsimp
          -- wx: the world; hR: the reader there; (t :: r): the lines; hC: Cd; hK: Kept from w
          have hfin := (hC).done (fun b hb => by omega)
          obtain ⟨x0, x1, x2, x3, hBz, hfin⟩ := hfin
          have c2 : cellsAt (wx) ⟨w.heap.size, 0, none⟩ 0 2 = some [.slice x0 c.sets.length x1, .slice x2 c.ins.length x3] := hBz.cellsAt
          push_cast -dsimp [c2]
          refine storeAgg (n := 2) (by kernel_rfl) hBz rfl (by simp) (by simp [Value.oneCell']) ?_
          intro wz hwz
          have c3 : cellsAt wz ⟨w.heap.size, 0, none⟩ 0 2 = some [.slice x0 c.sets.length x1, .slice x2 c.ins.length x3] := hwz.blk.cellsAt
          have hkz := hwz.kept
          have hvz := hfin wz hwz
          push_cast -dsimp [c3]
          exact ⟨_, ((hR).kept hkz (fun i hi => by rw [hX1]; exact .inr (by omega)) (by omega)).weaken (fun b hb => by rw [hX1]; exact .inl hb) h.self, ⟨_, _, _, _, _, _, _, rfl, .inl ⟨c, rfl, by rw [← hcl]; exact hst, hvz⟩⟩, (hK).trans hkz (fun i _ hi => .inr (by omega))⟩
        | false =>
          push_cast -dsimp [cb, hcell]
          refine ⟨by omega, ?_⟩
          refine callK_of (hasPre_c t [101, 108, 115, 101, 32] wx) ?_
          rintro _ wy ⟨rfl, hwe⟩
          obtain rfl : wx = wy := hwe.symm
          cases hpe : ([101, 108, 115, 101, 32] : List UInt8).isPrefixOf t with
          | true =>
            have hst : codeA c (t :: r) = .ok (c, t :: r) := by
              rw [codeA, if_pos]
              unfold stopA
              rw [show elseW.isPrefixOf t = true from hpe]
              simp
            push_cast -dsimp
            -- wx: the world; hR: the reader there; (t :: r): the lines; hC: Cd; hK: Kept from w
            have hfin := (hC).done (fun b hb => by omega)
            obtain ⟨x0, x1, x2, x3, hBz, hfin⟩ := hfin
            have c2 : cellsAt (wx) ⟨w.heap.size, 0, none⟩ 0 2 = some [.slice x0 c.sets.length x1, .slice x2 c.ins.length x3] := hBz.cellsAt
            push_cast -dsimp [c2]
            refine storeAgg (n := 2) (by kernel_rfl) hBz rfl (by simp) (by simp [Value.oneCell']) ?_
            intro wz hwz
            have c3 : cellsAt wz ⟨w.heap.size, 0, none⟩ 0 2 = some [.slice x0 c.sets.length x1, .slice x2 c.ins.length x3] := hwz.blk.cellsAt
            have hkz := hwz.kept
            have hvz := hfin wz hwz
            push_cast -dsimp [c3]
            exact ⟨_, ((hR).kept hkz (fun i hi => by rw [hX1]; exact .inr (by omega)) (by omega)).weaken (fun b hb => by rw [hX1]; exact .inl hb) h.self, ⟨_, _, _, _, _, _, _, rfl, .inl ⟨c, rfl, by rw [← hcl]; exact hst, hvz⟩⟩, (hK).trans hkz (fun i _ hi => .inr (by omega))⟩
          | false =>
            have hns : codeA c (t :: r) = match instA c t with
              | none => .error (r.length + 1)
              | some c' => codeA c' r := by
              rw [codeA, if_neg]
              · cases instA c t <;> rfl
              · unfold stopA
                rw [show ruleW.isPrefixOf t = false from hpr, show elseW.isPrefixOf t = false from hpe]
                simpa [afterW] using hne
            have hbx : Below 14 w wx := hK.below (by omega) (fun i hi => by omega)
            have hvx := hv.below hbx (Nat.le_refl _)
            have hF1 := hF.1
            rw [List.length_cons] at hN
            push_cast -dsimp [cb, hcell]
            refine ⟨by omega, ?_⟩
            refine callK_of (inst_c (w.heap.size + 1) w.heap.size (· < w.heap.size) c t htx (by omega) (by omega) wx hC (fun b hb => by omega) hvx.d hvx.e hvx.p hvx.n (by omega)) ?_
            rintro _ wy ⟨rfl, hyes, ⟨cy, hCy0⟩, hky⟩
            have hRy := hR.kept hky (fun i hi => by rw [hX1]; exact .inr (by omega)) (by omega)
            have hKy : Kept (fun i => i = rb ∨ w.heap.size ≤ i) w wy := hK.trans hky (fun i _ hi => .inr (by omega))
            cases hi : instA c t with
            | none =>
              have hfin := hCy0.done (fun b hb => by omega)
              obtain ⟨x0, x1, x2, x3, hBz, _⟩ := hfin
              have c2 : cellsAt wy ⟨w.heap.size, 0, none⟩ 0 2 = some [.slice x0 cy.sets.length x1, .slice x2 cy.ins.length x3] := hBz.cellsAt
              push_cast -dsimp [c2, Option.isSome_none]
              refine storeAgg (n := 2) (by kernel_rfl) hBz rfl (by simp) (by simp [Value.oneCell']) ?_
              intro wz hwz
              have c3 : cellsAt wz ⟨w.heap.size, 0, none⟩ 0 2 = some [.slice x0 cy.sets.length x1, .slice x2 cy.ins.length x3] := hwz.blk.cellsAt
              have hkz := hwz.kept
              push_cast -dsimp [c3]
              exact ⟨_, (hRy.kept hkz (fun i hi => by rw [hX1]; exact .inr (by omega)) (by omega)).weaken (fun b hb => by rw [hX1]; exact .inl hb) h.self, ⟨_, _, _, _, _, _, _, rfl, .inr ⟨rfl, by rw [← hcl, hns, hi]; rfl⟩⟩, hKy.trans hkz (fun i _ hi => .inr (by omega))⟩
            | some c' =>
              have hCy := hyes c' hi
              obtain ⟨b', o', k', hB', hk', hcell'⟩ := hRy.hd
              have cb' : wy.cell? ⟨rb, 0, none⟩ = some (.slice (some ⟨b', o', none⟩) (r.length + 1) k') := hB'.cell rfl
              push_cast -dsimp [cb', sliceOne, Option.isSome_some]
              refine ⟨hk', ?_⟩
              refine storeK_of hB' (by simp) rfl ?_
              intro wz hwz
              have hps := hRy.pop hB' hwz
              have hkz := hwz.kept
              have hCz : Cd (w.heap.size + 1) w.heap.size (· < w.heap.size) wz c' := hCy.other hkz (fun b hb => by omega) (by omega)
              have hfz := instA_grow hi hF
              push_cast -dsimp
              refine ⟨⟨c', r, by rw [← hcl, hns, hi], hCz, hps, hfz.1, by omega, hKy.trans hkz (fun i _ hi => .inl hi)⟩, ?_⟩
              rw [hps.lines, hR.lines, List.length_cons]
              omega
      · have heq := Classical.not_not.1 heq
        subst heq
        have hst : codeA c ([97, 102, 116, 101, 114] :: r) = .ok (c, [97, 102, 116, 101, 114] :: r) := by
          rw [codeA, if_pos]
          decide
        -- wx: the world; hR: the reader there; ([97, 102, 116, 101, 114] :: r): the lines; hC: Cd; hK: Kept from w
        have hfin := (hC).done (fun b hb => by omega)
        obtain ⟨x0, x1, x2, x3, hBz, hfin⟩ := hfin
        have c2 : cellsAt (wx) ⟨w.heap.size, 0, none⟩ 0 2 = some [.slice x0 c.sets.length x1, .slice x2 c.ins.length x3] := hBz.cellsAt
        push_cast -dsimp [c2]
        refine storeAgg (n := 2) (by kernel_rfl) hBz rfl (by simp) (by simp [Value.oneCell']) ?_
        intro wz hwz
        have c3 : cellsAt wz ⟨w.heap.size, 0, none⟩ 0 2 = some [.slice x0 c.sets.length x1, .slice x2 c.ins.length x3] := hwz.blk.cellsAt
        have hkz := hwz.kept
        have hvz := hfin wz hwz
        push_cast -dsimp [c3]
        exact ⟨_, ((hR).kept hkz (fun i hi => by rw [hX1]; exact .inr (by omega)) (by omega)).weaken (fun b hb => by rw [hX1]; exact .inl hb) h.self, ⟨_, _, _, _, _, _, _, rfl, .inl ⟨c, rfl, by rw [← hcl]; exact hst, hvz⟩⟩, (hK).trans hkz (fun i _ hi => .inr (by omega))⟩
/-- What fail answers. -/
def FailR (B : Nat) (n : Int) (r : Value) (w : World) : Prop := ∃ b, B ≤ b ∧ r = .tuple #[.agg #[.slice none 0 0, .bool false], .iface 67 (.pointer (some ⟨b, 0, none⟩))] ∧ Blk w b 68 [.int .i64 3, .int .i64 n]
theorem failA_c (n : Nat) (hn : n < 1000000000) (a : Option Addr) (k ab qb : Nat) {rb : Nat} {X : Nat → Prop} {w : World} {l : List (List UInt8)} (h : Rd rb X w l) (hA : w.cell? ⟨ab, 0, none⟩ = some (.slice a n k)) (hQ : w.cell? ⟨qb, 0, none⟩ = some (.pointer (some ⟨rb, 0, none⟩))) :
    Fun Tryz.prog 26 [.pointer (some ⟨ab, 0, none⟩), .pointer (some ⟨qb, 0, none⟩)] w fun r w' => FailR w.heap.size ((n : Int) - l.length) r w' ∧ Below w.heap.size w w' := by
  have hll := h.len
  obtain ⟨v, h1, h2⟩ := h.st
  obtain ⟨va, vc, rfl, hvc⟩ := h2.shape
  have cb : w.cell? ⟨rb, 0, none⟩ = some (.slice va l.length vc) := h1.cell rfl
  refine fun_of_vcC Tryz.func26 rfl (by kernel_rfl) [.cell 2 24, .tmp 3] rfl ?_
  push_cast -dsimp (maxSteps := 4000000) [Tryz.ntmps26]
  refine allocK (z := [.slice none 0 0, .bool false]) (by kernel_rfl) ?_
  intro w1 hw1
  have z1 := hw1.size
  push_cast -dsimp
  have hlt : ab < w.heap.size := World.block_lt_of_cell? w _ hA
  have hlt2 : qb < w.heap.size := World.block_lt_of_cell? w _ hQ
  have hrl := h1.lt
  have hb1 := hw1.below
  have a1 : w1.cell? ⟨ab, 0, none⟩ = some (.slice a n k) := (hb1.cell hlt).trans hA
  have q1 : w1.cell? ⟨qb, 0, none⟩ = some (.pointer (some ⟨rb, 0, none⟩)) := (hb1.cell hlt2).trans hQ
  have r1 : w1.cell? ⟨rb, 0, none⟩ = some (.slice va l.length vc) := (hb1.cell hrl).trans cb
  refine wpL_tree (.one 0 (.one 1 (.one 2 (.one 3 (.one 4 (.one 5 (.one 6 (.one 7 (.one 8 (.one 9 (.two 10 (.one 11 (.one 12 (.one 13 .done))) 12 (.one 10 (.one 11 (.one 13 .done)))))))))))))) (fun w' => w'.cell? ⟨ab, 0, none⟩ = some (.slice a n k) ∧ w'.cell? ⟨qb, 0, none⟩ = some (.pointer (some ⟨rb, 0, none⟩)) ∧ w'.cell? ⟨rb, 0, none⟩ = some (.slice va l.length vc)) mixed (by kernel_rfl) ⟨a1, q1, r1⟩ ?_
  have a2 : w1.drew.cell? ⟨ab, 0, none⟩ = some (.slice a n k) := a1
  have q2 : w1.drew.cell? ⟨qb, 0, none⟩ = some (.pointer (some ⟨rb, 0, none⟩)) := q1
  have r2 : w1.drew.cell? ⟨rb, 0, none⟩ = some (.slice va l.length vc) := r1
  push_cast -dsimp [a2, q2, r2]
  refine ⟨fun w'' h => by rw [h.1]; exact rfl, fun w'' h => by rw [h.2.1]; exact rfl, fun w'' h => by rw [h.2.2]; exact rfl, ⟨by omega, by omega⟩, ?_, ?_⟩
  · refine boxK_of ?_
    intro w2 hw2
    have z2 : w2.heap.size = w1.heap.size + 1 := hw2.size
    have hw2 : New w1.drew w2 68 [.int .i64 3, .int .i64 ((n : Int) - l.length)] := hw2
    have hb2 : Below w1.heap.size w1 w2 := (below_drewA w1).trans hw2.below
    have A2 := (hb2.cell (p := ⟨ab, 0, none⟩) (by show ab < _; omega)).trans a1
    have Q2 := (hb2.cell (p := ⟨qb, 0, none⟩) (by show qb < _; omega)).trans q1
    have R2 := (hb2.cell (p := ⟨rb, 0, none⟩) (by show rb < _; omega)).trans r1
    refine ⟨⟨A2, Q2, R2⟩, ?_⟩
    push_cast -dsimp
    refine storeAgg (n := 2) (by kernel_rfl) (hw1.blk.below hb2 (by omega)) rfl (by simp) (by simp [Value.oneCell']) ?_
    intro w3 hw3
    have z3 := hw3.size
    have hk3 := hw3.kept
    have c3 : cellsAt w3 ⟨w.heap.size, 0, none⟩ 0 2 = some [.slice none 0 0, .bool false] := hw3.blk.cellsAt
    refine ⟨⟨hk3.cell A2 (by show ab ≠ _; omega), hk3.cell Q2 (by show qb ≠ _; omega), hk3.cell R2 (by show rb ≠ _; omega)⟩, ?_⟩
    push_cast -dsimp [c3]
    exact ⟨⟨w1.heap.size, by omega, rfl, hw2.blk.kept hk3 (by show w1.heap.size ≠ _; omega)⟩, hw1.below.trans ((hb2.mono (by omega)).trans (hk3.below (by omega) (fun i h => by omega)))⟩
  · refine storeAgg (n := 2) (by kernel_rfl) (show Blk w1.drew w.heap.size _ _ from hw1.blk.drew) rfl (by simp) (by simp [Value.oneCell']) ?_
    intro w2 hw2
    have z2 : w2.heap.size = w1.heap.size := hw2.size
    have hk2 : Kept (· = w.heap.size) w1.drew w2 := hw2.kept
    have a3 := hk2.cell (p := ⟨ab, 0, none⟩) a2 (by show ab ≠ _; omega)
    have q3 := hk2.cell (p := ⟨qb, 0, none⟩) q2 (by show qb ≠ _; omega)
    have r3 := hk2.cell (p := ⟨rb, 0, none⟩) r2 (by show rb ≠ _; omega)
    refine ⟨⟨a3, q3, r3⟩, ?_⟩
    push_cast -dsimp
    refine boxK_of ?_
    intro w3 hw3
    have z3 : w3.heap.size = w2.heap.size + 1 := hw3.size
    have hw3 : New w2 w3 68 [.int .i64 3, .int .i64 ((n : Int) - l.length)] := hw3
    have hb3 := hw3.below
    refine ⟨⟨(hb3.cell (by show ab < _; omega)).trans a3, (hb3.cell (by show qb < _; omega)).trans q3, (hb3.cell (by show rb < _; omega)).trans r3⟩, ?_⟩
    have c3 : cellsAt w3 ⟨w.heap.size, 0, none⟩ 0 2 = some [.slice none 0 0, .bool false] := (hw2.blk.below hb3 (by omega)).cellsAt
    push_cast -dsimp [c3]
    exact ⟨⟨w2.heap.size, by omega, rfl, hw3.blk⟩, hw1.below.trans (((below_drewA w1).mono (by omega)).trans ((hk2.below (by show w.heap.size ≤ w1.heap.size; omega) (fun i h => by omega)).trans (hb3.mono (by omega))))⟩
end Go.Proofs.YtiofleijieepgaaGreatDoor
end
