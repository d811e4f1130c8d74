import Derived.Test.YtieaebjkbhaoaaaGreatDoorRpb
namespace Go.Proofs.YtieaebjkbhaoaaaGreatDoor
open Go.Vc Go.Proofs Go.RowKit Cae
set_option maxRecDepth 100000
set_option linter.unusedSimpArgs false
set_option linter.unusedVariables false
attribute [local irreducible] wpL callK valK unitK runK Fun Sl Own vc vcOps opK pureK
set_option maxHeartbeats 4000000

/-- What Parse answers. -/
def ParsR (w : World) (s : List UInt8) (r : Value) (w' : World) : Prop :=
  (∃ f v, parseR s = .ok f ∧ r = .tuple #[v, .nilIface] ∧ FileV (· < w.heap.size) w' v f) ∨
  (∃ e pos b, parseR s = .error (e, pos) ∧ r = .tuple #[.agg #[.slice none 0 0, .slice none 0 0, .bool false], .iface 73 (.pointer (some ⟨b, 0, none⟩))] ∧ w.heap.size ≤ b ∧ Blk w' b 75 [.int .i64 e, .int .i64 pos])
def ParE (w : World) (s : List UInt8) (e : Ending) (w' : World) : Prop := ∃ v, e = .returned v ∧ ParsR w s v w' ∧ Below w.heap.size w w'
theorem tl_of {s : List UInt8} {l : List Tok} (hs : s.length ≤ 1000000) (h : tokP s = .ok l) : TL l := by
  obtain ⟨m, hm, e, hn⟩ := tokLoop_tk _ _ _ _ _ (by simp) h
  rw [List.nil_append] at e
  subst e
  refine ⟨⟨m, _, rfl, rfl⟩, fun t ht => ?_, by rw [List.length_append, List.length_singleton]; simp at hn; omega, fun t ht hk => ?_⟩
  · rcases List.mem_append.1 ht with ht | ht
    · have := (hm.infix t ht).length_le
      omega
    · rw [List.mem_singleton.1 ht]; simp
  · rcases List.mem_append.1 ht with ht | ht
    · exact tk_num hm t ht hk
    · rw [List.mem_singleton.1 ht] at hk; cases hk
/-- Behind the deferred call, where nothing was thrown. -/
theorem leave_ok {w W : World} {s : List UInt8} {fv : List Value} {t : Fr} (h2 : t.getD 2 undef = .pointer (some ⟨w.heap.size, 0, none⟩)) (h3 : t.getD 3 undef = .pointer (some ⟨w.heap.size + 1, 0, none⟩)) {x : Value}
    (B1 : Blk W w.heap.size 26 fv) (B2 : Blk W (w.heap.size + 1) 28 [x]) (hl : fv.length = 3) (hR : ParsR w s (.tuple #[.agg fv.toArray, x]) W) (hb : Below w.heap.size w W) :
    bodyPostD Tryz.prog Tryz.f7 (ParE w s) .ret ⟨t.toArray, [{ target := .fn (.func 11) #[.pointer (some ⟨w.heap.size, 0, none⟩), .pointer (some ⟨w.heap.size + 1, 0, none⟩)], args := #[] }]⟩ W := by
  show Leaves _ _ _ _ _ _ _
  refine leaves_cons (f := 11) (args := #[.pointer (some ⟨w.heap.size, 0, none⟩), .pointer (some ⟨w.heap.size + 1, 0, none⟩)]) (by simp) ?_ ?_
  · simp only [invoke, Array.empty_append]
    exact callFunc_enter Tryz.func11 (by kernel_rfl) (by kernel_rfl)
  refine (idle_c w.heap.size (w.heap.size + 1) W).mono ?_
  rintro e u' w' ⟨rfl, rfl, rfl⟩
  obtain ⟨vs, hv, hk⟩ := resultsC_run (P := Tryz.prog) (w := w') Tryz.f7 [.cell 2 26, .cell 3 28] (by rfl) t (fun vs => vs = [.agg fv.toArray, x]) (by
    have d1 : cellsAt w' ⟨w.heap.size, 0, none⟩ 0 3 = some fv := by rw [← hl]; exact B1.cellsAt
    have d2 : w'.cell? ⟨w.heap.size + 1, 0, none⟩ = some x := B2.cell rfl
    simp -dsimp only [push_cast, Nat.reduceAdd, Nat.reduceLeDiff, Nat.reduceBEq, decide_true, h2, h3, d1, d2])
  refine ⟨_, hv, _, rfl, ?_, hb⟩
  rw [hk]
  exact hR
/-- .. and where something was. -/
theorem leave_panic {w W : World} {s : List UInt8} {e pos : Nat} {fv : List Value} {ce : List PanicEntry} {t : Fr} (h2 : t.getD 2 undef = .pointer (some ⟨w.heap.size, 0, none⟩)) (h3 : t.getD 3 undef = .pointer (some ⟨w.heap.size + 1, 0, none⟩)) {x : Value}
    (B1 : Blk W w.heap.size 26 fv) (B2 : Blk W (w.heap.size + 1) 28 [x]) (hl : fv.length = 3) (hT : Thr (w.heap.size + 2) W ce e pos) (hp : parseR s = .error (e, pos)) (hb : Below w.heap.size w W) :
    bodyPostD Tryz.prog Tryz.f7 (ParE w s) (.panic ce) ⟨t.toArray, [{ target := .fn (.func 11) #[.pointer (some ⟨w.heap.size, 0, none⟩), .pointer (some ⟨w.heap.size + 1, 0, none⟩)], args := #[] }]⟩ W := by
  obtain ⟨b, hbs, rfl, hB⟩ := hT
  show Leaves _ _ _ _ _ _ _
  refine leaves_cons (f := 11) (args := #[.pointer (some ⟨w.heap.size, 0, none⟩), .pointer (some ⟨w.heap.size + 1, 0, none⟩)]) (by simp) ?_ ?_
  · simp only [invoke, Array.empty_append]
    exact callFunc_enter Tryz.func11 (by kernel_rfl) (by kernel_rfl)
  refine (catch_c w.heap.size (w.heap.size + 1) _ fv x hl W B1 B2 (by omega) rfl).mono ?_
  rintro e' u' w' ⟨rfl, rfl, R1, R2, hk⟩
  have hB' := hB.kept hk (by omega)
  have hb' := hb.trans (hk.below (B := w.heap.size) hb.size (fun i h => by omega))
  obtain ⟨vs, hv, hk⟩ := resultsC_run (P := Tryz.prog) (w := w') Tryz.f7 [.cell 2 26, .cell 3 28] (by rfl) t (fun vs => vs = [.agg #[.slice none 0 0, .slice none 0 0, .bool false], .iface 73 (.pointer (some ⟨b, 0, none⟩))]) (by
    have d1 : cellsAt w' ⟨w.heap.size, 0, none⟩ 0 3 = some [.slice none 0 0, .slice none 0 0, .bool false] := R1.cellsAt
    have d2 : w'.cell? ⟨w.heap.size + 1, 0, none⟩ = some (.iface 73 (.pointer (some ⟨b, 0, none⟩))) := R2.cell rfl
    simp -dsimp only [push_cast, Nat.reduceAdd, Nat.reduceLeDiff, Nat.reduceBEq, decide_true, h2, h3, d1, d2])
  show Leaves _ _ _ _ [] (settle _) _
  refine ⟨_, hv, _, rfl, ?_, hb'⟩
  rw [hk]
  exact .inr ⟨e, pos, b, hp, rfl, by omega, hB'⟩
/-- What holds no number holds no token. -/
theorem Sl.off {X : Nat → Prop} {w : World} {v : Value} {l : List Tok} {rb : Nat} {e : TypeId} {cs : List Value} (h : Sl X 3 (En encTok) w v l) (hB : Blk w rb e cs) (hcs : ∀ (o : Nat) (u : Value), cs[o]? = some u → ∀ n, u ≠ .int .i64 n) : Sl (fun b => X b ∨ b = rb) 3 (En encTok) w v l := by
  unfold Sl at h ⊢
  obtain ⟨a, c, rfl, hc, h⟩ := h
  refine ⟨a, c, rfl, hc, fun i x hx => ?_⟩
  obtain ⟨b, o, ks, ha, hb, hk, hcell, hr⟩ := h i x hx
  refine ⟨b, o, ks, ha, fun hh => ?_, hk, hcell, hr⟩
  rcases hh with hh | rfl
  · exact hb hh
  · have hr' : ks = encTok x := hr
    have h0 := hcell 0 (.int .i64 x.kind) (by rw [hr']; rfl)
    have h1 : cs[o + i * 3 + 0]? = some (.int .i64 x.kind) := by
      have hB' : w.heap[b]? = _ := hB
      simp only [World.cell?, hB'] at h0
      simpa using h0
    exact hcs _ _ h1 _ rfl
theorem PS.off {pb B rb : Nat} {w w' : World} {l : List Tok} {e : TypeId} {cs : List Value} (h : PS pb B w l) (hB : Blk w rb e cs) (hcs : ∀ (o : Nat) (u : Value), cs[o]? = some u → ∀ n, u ≠ .int .i64 n) (hne : rb ≠ pb) (hg : 8 ≤ rb) (hk : Kept (· = rb) w w') : PS pb B w' l := by
  obtain ⟨v, h1, h2⟩ := h.st
  exact ⟨⟨v, h1.kept hk (fun hh => hne hh.symm), ((Sl.off h2 hB hcs).kept hk (fun i hi => .inr hi)).weaken (fun i hi => .inl hi)⟩, h.lt, Nat.le_trans h.le hk.size, h.tl, h.db.kept hk (fun i hi hh => by omega), h.er.kept hk (fun i hi hh => by omega), h.gl⟩
theorem ruleParse_c (s : List UInt8) (hs : s.length ≤ 1000000) (w : World) (hd : Db w) (he : Errs w) (hg : 8 ≤ w.heap.size) : Fun Tryz.prog 7 [str s] w fun r w' => ParsR w s r w' ∧ Below w.heap.size w w' := by
  unfold Fun
  refine ⟨callFunc_enter Tryz.func7 (by kernel_rfl) (by kernel_rfl), ?_⟩
  refine calls_of_wp_defers Tryz.func7 rfl ?_
  have e : (([str s] : List Value).toArray ++ Array.replicate (Tryz.f7.ntmps - ([str s] : List Value).toArray.size) undef) = (fr0 [str s] Tryz.f7.ntmps).toArray := by simp [fr0]
  rw [e]
  simp -dsimp (maxSteps := 4000000) only [push_cast, fr0, Tryz.ntmps7, List.length_cons, List.length_nil, Nat.reduceAdd, Nat.reduceSub, Nat.reduceBEq, List.replicate_succ, List.replicate_zero]
  have hR : ∃ R : Ending → World → Prop, R = ParE w s := ⟨_, rfl⟩
  show Code.wp _ _ (bodyPostD Tryz.prog Tryz.f7 (ParE w s)) _ _
  refine seqD (by rfl) ?_
  simp -dsimp only [push_cast, Nat.reduceAdd, Nat.reduceLeDiff, Nat.reduceBEq, decide_true, ne_eq, eq_self, not_true_eq_false, not_false_eq_true, true_imp_iff, false_imp_iff, Int.reduceNe, Int.reduceEq, Int.reduceLT, Int.reduceLE, Bool.not_true, Bool.not_false]
  refine allocK (z := [.slice none 0 0, .slice none 0 0, .bool false]) (by kernel_rfl) ?_
  intro w1 hw1
  have R1 := hw1.blk
  have z1 := hw1.size
  have b1 := hw1.below
  simp -dsimp only [push_cast, Nat.reduceAdd, Nat.reduceLeDiff, Nat.reduceBEq, decide_true, ne_eq, eq_self, not_true_eq_false, not_false_eq_true, true_imp_iff, false_imp_iff, Int.reduceNe, Int.reduceEq, Int.reduceLT, Int.reduceLE, Bool.not_true, Bool.not_false]
  refine allocK (z := [.nilIface]) (by kernel_rfl) ?_
  intro w2 hw2
  have E2 := hw2.blk
  have R2 := R1.below hw2.below (by omega)
  have z2 := hw2.size
  have b2 := b1.trans (hw2.below.mono (by omega))
  rw [z1] at E2
  simp -dsimp only [push_cast, Nat.reduceAdd, Nat.reduceLeDiff, Nat.reduceBEq, decide_true, ne_eq, eq_self, not_true_eq_false, not_false_eq_true, true_imp_iff, false_imp_iff, Int.reduceNe, Int.reduceEq, Int.reduceLT, Int.reduceLE, Bool.not_true, Bool.not_false, z1]
  refine wp_seq (deferReg (cap := [.tmp 2, .tmp 3]) (by simp) ?_)
  simp -dsimp only [push_cast]
  refine seqD (by rfl) ?_
  simp -dsimp only [push_cast, Nat.reduceAdd, Nat.reduceLeDiff, Nat.reduceBEq, decide_true, ne_eq, eq_self, not_true_eq_false, not_false_eq_true, true_imp_iff, false_imp_iff, Int.reduceNe, Int.reduceEq, Int.reduceLT, Int.reduceLE, Bool.not_true, Bool.not_false]
  refine callK_of (tokens_c s hs w2) ?_
  rintro r w3 ⟨hT, b3⟩
  have R3 := R2.below b3 (by omega)
  have E3 := E2.below b3 (by omega)
  have z3 := b3.size
  have hb3 := b2.trans (b3.mono (by omega))
  rcases hT with ⟨l, v, htok, rfl, hO⟩ | ⟨en, pos, b, htok, rfl, hbs, hB⟩
  · obtain ⟨va, vc, rfl⟩ := hO.slice
    simp -dsimp only [push_cast, Nat.reduceAdd, Nat.reduceLeDiff, Nat.reduceBEq, decide_true, ne_eq, eq_self, not_true_eq_false, not_false_eq_true, true_imp_iff, false_imp_iff, Int.reduceNe, Int.reduceEq, Int.reduceLT, Int.reduceLE, Bool.not_true, Bool.not_false]
    refine storeK_of E3 (by simp) rfl ?_
    intro w4 hw4
    have E4 : Blk w4 (w.heap.size + 1) 28 [.nilIface] := hw4.blk
    have R4 := R3.kept hw4.kept (by omega)
    have z4 := hw4.size
    have hO4 := hO.keptX hw4.kept (fun g hg h => by have := (hO.block g hg).1; omega)
    have hb4 := hb3.trans (hw4.kept.below (B := w.heap.size) (by omega) (fun i h => by omega))
    have d4 : w4.cell? ⟨w.heap.size + 1, 0, none⟩ = some .nilIface := E4.cell rfl
    simp -dsimp only [push_cast, Nat.reduceAdd, Nat.reduceLeDiff, Nat.reduceBEq, decide_true, ne_eq, eq_self, not_true_eq_false, not_false_eq_true, true_imp_iff, false_imp_iff, Int.reduceNe, Int.reduceEq, Int.reduceLT, Int.reduceLE, Bool.not_true, Bool.not_false]
    refine wp_seq (seqD (by rfl) ?_)
    simp -dsimp only [push_cast, Nat.reduceAdd, Nat.reduceLeDiff, Nat.reduceBEq, decide_true, ne_eq, eq_self, not_true_eq_false, not_false_eq_true, true_imp_iff, false_imp_iff, Int.reduceNe, Int.reduceEq, Int.reduceLT, Int.reduceLE, Bool.not_true, Bool.not_false, d4]
    refine condFD (by rfl) (wp_skip ?_)
    show Code.wp _ _ _ _ _
    refine plainD (by rfl) ?_
    simp -dsimp only [push_cast, Nat.reduceAdd, Nat.reduceLeDiff, Nat.reduceBEq, decide_true, ne_eq, eq_self, not_true_eq_false, not_false_eq_true, true_imp_iff, false_imp_iff, Int.reduceNe, Int.reduceEq, Int.reduceLT, Int.reduceLE, Bool.not_true, Bool.not_false]
    refine boxK_of ?_
    intro w5 hw5
    have z5 := hw5.size
    have hpb : ∃ pb, pb = w4.heap.size := ⟨_, rfl⟩
    obtain ⟨pb, hpb⟩ := hpb
    have PB := hw5.blk
    have E5 := E4.below hw5.below E4.lt
    have R5 := R4.below hw5.below R4.lt
    have hb5 := hb4.trans (hw5.below.mono hb4.size)
    rw [← hpb] at PB
    have htl := tl_of hs htok
    have P5 : PS pb (pb + 1) w5 l := ⟨⟨_, PB, ((Sl.top (by decide) hO4.sl).below hw5.below).weaken (fun i h => by omega)⟩, by omega, by omega, htl, hd.below hb5 hd.lt, he.below hb5, by omega⟩
    simp -dsimp only [push_cast, Nat.reduceAdd, Nat.reduceLeDiff, Nat.reduceBEq, decide_true, ne_eq, eq_self, not_true_eq_false, not_false_eq_true, true_imp_iff, false_imp_iff, Int.reduceNe, Int.reduceEq, Int.reduceLT, Int.reduceLE, Bool.not_true, Bool.not_false, ← hpb]
    refine callP_of (file_c P5) ?_ ?_
    · rintro _ w6 ⟨f, l', ef, ⟨cv, rv, cs, rs, rfl, S1, S2, A1, A2⟩, P6, k6⟩
      have E6 := E5.kept k6 (by omega)
      have R6 := R5.kept k6 (by omega)
      have z6 := k6.size
      have hb6 := hb5.trans (k6.below (B := w.heap.size) hb5.size (fun i h => by omega))
      simp -dsimp only [push_cast, Nat.reduceAdd, Nat.reduceLeDiff, Nat.reduceBEq, decide_true, ne_eq, eq_self, not_true_eq_false, not_false_eq_true, true_imp_iff, false_imp_iff, Int.reduceNe, Int.reduceEq, Int.reduceLT, Int.reduceLE, Bool.not_true, Bool.not_false, ← hpb]
      refine storeAgg (xt := 26) (n := 3) (by kernel_rfl) R6 rfl (by decide) ?_ ?_
      · obtain ⟨_, _, rfl, _⟩ := S1.shape
        obtain ⟨_, _, rfl, _⟩ := S2.shape
        simp
        exact ⟨rfl, rfl, rfl⟩
      intro w7 hw7
      have R7 : Blk w7 w.heap.size 26 [cv, rv, .bool f.els] := hw7.blk
      have E7 := E6.kept hw7.kept (by omega)
      have k7 : Kept (fun i => i = w.heap.size) w6 w7 := hw7.kept
      have P7 : PS pb (pb + 1) w7 l' := P6.off R6 (fun o u hu n hn => by
        subst hn
        match o with
        | 0 => simp at hu
        | 1 => simp at hu
        | 2 => simp at hu
        | o + 3 => simp at hu) (by omega) (by omega) k7
      have z7 := hw7.size
      have hb7 := hb6.trans (hw7.kept.below (B := w.heap.size) hb6.size (fun i h => by omega))
      obtain ⟨t1, r1, el1⟩ := P7.tl.cons
      have P7' := P7
      rw [el1] at P7'
      obtain ⟨b1, o1, c1, hBp, hc, hne, c0, c1', c2, c3⟩ := P7'.hd
      have cb : w7.cell? ⟨pb, 0, none⟩ = some (.slice (some ⟨b1, o1, none⟩) (r1.length + 1) c1) := hBp.cell rfl
      have hik : isKind 5 l' = decide (t1.kind = 5) := by
        rw [el1]
        show (t1.kind == 5) = _
        by_cases h : t1.kind = 5 <;> simp [h]
      simp -dsimp only [push_cast, Nat.reduceAdd, Nat.reduceLeDiff, Nat.reduceBEq, decide_true, ne_eq, eq_self, not_true_eq_false, not_false_eq_true, true_imp_iff, false_imp_iff, Int.reduceNe, Int.reduceEq, Int.reduceLT, Int.reduceLE, Bool.not_true, Bool.not_false, ← hpb, cb, c0]
      refine ⟨by omega, fun h5 => ?_, fun h5 => ?_⟩
      · have hk5 : isKind 5 l' = false := by rw [hik]; exact decide_eq_false (fun h => h5 (by omega))
        refine callP_of (fail_c 3 P7) (fun _ _ h => h.elim) ?_
        rintro ce w8 ⟨ht, hb⟩
        have hpe : parseR s = .error (3, (Cae.hd l').pos) := by
          unfold parseR
          rw [htok]
          dsimp only
          rw [ef]
          dsimp only
          rw [hk5]
          rfl
        simp -dsimp only [push_cast, Nat.reduceAdd, Nat.reduceLeDiff, Nat.reduceBEq, decide_true, ne_eq, eq_self, not_true_eq_false, not_false_eq_true, true_imp_iff, false_imp_iff, Int.reduceNe, Int.reduceEq, Int.reduceLT, Int.reduceLE, Bool.not_true, Bool.not_false, ← hpb]
        refine leave_panic (t := _) (by rfl) (by rfl) (R7.below hb R7.lt) (E7.below hb E7.lt) rfl (ht.mono (by omega)) hpe (hb7.trans (hb.mono hb7.size))
      · have hk5 : isKind 5 l' = true := by rw [hik]; exact decide_eq_true (by omega)
        have hpok : parseR s = .ok f := by
          unfold parseR
          rw [htok]
          dsimp only
          rw [ef]
          dsimp only
          rw [hk5]
          rfl
        have d7 : cellsAt w7 ⟨w.heap.size, 0, none⟩ 0 3 = some [cv, rv, .bool f.els] := R7.cellsAt
        simp -dsimp only [push_cast, Nat.reduceAdd, Nat.reduceLeDiff, Nat.reduceBEq, decide_true, ne_eq, eq_self, not_true_eq_false, not_false_eq_true, true_imp_iff, false_imp_iff, Int.reduceNe, Int.reduceEq, Int.reduceLT, Int.reduceLE, Bool.not_true, Bool.not_false, ← hpb, d7]
        refine storeAgg (xt := 26) (n := 3) (by kernel_rfl) R7 rfl (Nat.le_refl _) ?_ ?_
        · obtain ⟨_, _, rfl, _⟩ := S1.shape
          obtain ⟨_, _, rfl, _⟩ := S2.shape
          simp
          exact ⟨rfl, rfl, rfl⟩
        intro w8 hw8
        have R8 : Blk w8 w.heap.size 26 [cv, rv, .bool f.els] := hw8.blk
        have E8 := E7.kept hw8.kept (by omega)
        have z8 := hw8.size
        simp -dsimp only [push_cast, Nat.reduceAdd, Nat.reduceLeDiff, Nat.reduceBEq, decide_true, ne_eq, eq_self, not_true_eq_false, not_false_eq_true, true_imp_iff, false_imp_iff, Int.reduceNe, Int.reduceEq, Int.reduceLT, Int.reduceLE, Bool.not_true, Bool.not_false, ← hpb]
        refine storeK_of E8 (by simp) rfl ?_
        intro w9 hw9
        have E9 : Blk w9 (w.heap.size + 1) 28 [.nilIface] := hw9.blk
        have R9 := R8.kept hw9.kept (by omega)
        have k69 : Kept (fun i => i < w5.heap.size) w6 w9 := ((k7.weaken (Y := fun i => i < w5.heap.size) (fun i _ h => by omega)).trans hw8.kept (fun i _ h => by omega)).trans hw9.kept (fun i _ h => by omega)
        have hb9 := hb7.trans (((hw8.kept.weaken (Y := fun i => w.heap.size ≤ i) (fun i _ h => by omega)).trans hw9.kept (fun i _ h => by omega)).below (B := w.heap.size) hb7.size (fun i h => h))
        simp -dsimp only [push_cast, Nat.reduceAdd, Nat.reduceLeDiff, Nat.reduceBEq, decide_true, ne_eq, eq_self, not_true_eq_false, not_false_eq_true, true_imp_iff, false_imp_iff, Int.reduceNe, Int.reduceEq, Int.reduceLT, Int.reduceLE, Bool.not_true, Bool.not_false, ← hpb]
        refine leave_ok (t := _) (by rfl) (by rfl) R9 E9 rfl (.inl ⟨f, _, hpok, rfl, cv, rv, cs, rs, rfl, (S1.kept k69 (fun i h => h)).weaken (fun i h => by omega), (S2.kept k69 (fun i h => h)).weaken (fun i h => by omega), A1.imp fun a c h => h.mono k69 (fun i h => h) (fun i h => by omega), A2.imp fun a c h => h.mono k69 (fun i h => h) (fun i h => by omega)⟩) hb9
    · rintro ce w6 ⟨en, pos, he', ht, hk⟩
      have E6 := E5.kept hk (by omega)
      have R6 := R5.kept hk (by omega)
      have hb6 := hb5.trans (hk.below (B := w.heap.size) hb5.size (fun i h => by omega))
      have hpe : parseR s = .error (en, pos) := by
        unfold parseR
        rw [htok]
        dsimp only
        rw [he']
      simp -dsimp only [push_cast, Nat.reduceAdd, Nat.reduceLeDiff, Nat.reduceBEq, decide_true, ne_eq, eq_self, not_true_eq_false, not_false_eq_true, true_imp_iff, false_imp_iff, Int.reduceNe, Int.reduceEq, Int.reduceLT, Int.reduceLE, Bool.not_true, Bool.not_false, ← hpb]
      exact leave_panic (t := _) (by rfl) (by rfl) R6 E6 rfl (ht.mono (by omega)) hpe hb6
  · simp -dsimp only [push_cast, Nat.reduceAdd, Nat.reduceLeDiff, Nat.reduceBEq, decide_true, ne_eq, eq_self, not_true_eq_false, not_false_eq_true, true_imp_iff, false_imp_iff, Int.reduceNe, Int.reduceEq, Int.reduceLT, Int.reduceLE, Bool.not_true, Bool.not_false]
    refine storeK_of E3 (by simp) rfl ?_
    intro w4 hw4
    have E4 : Blk w4 (w.heap.size + 1) 28 [.iface 73 (.pointer (some ⟨b, 0, none⟩))] := hw4.blk
    have R4 := R3.kept hw4.kept (by omega)
    have z4 := hw4.size
    have hB4 := hB.kept hw4.kept (by omega)
    have hb4 := hb3.trans (hw4.kept.below (B := w.heap.size) (by omega) (fun i h => by omega))
    have d4 : w4.cell? ⟨w.heap.size + 1, 0, none⟩ = some (.iface 73 (.pointer (some ⟨b, 0, none⟩))) := E4.cell rfl
    simp -dsimp only [push_cast, Nat.reduceAdd, Nat.reduceLeDiff, Nat.reduceBEq, decide_true, ne_eq, eq_self, not_true_eq_false, not_false_eq_true, true_imp_iff, false_imp_iff, Int.reduceNe, Int.reduceEq, Int.reduceLT, Int.reduceLE, Bool.not_true, Bool.not_false]
    refine wp_seq (seqD (by rfl) ?_)
    simp -dsimp only [push_cast, Nat.reduceAdd, Nat.reduceLeDiff, Nat.reduceBEq, decide_true, ne_eq, eq_self, not_true_eq_false, not_false_eq_true, true_imp_iff, false_imp_iff, Int.reduceNe, Int.reduceEq, Int.reduceLT, Int.reduceLE, Bool.not_true, Bool.not_false, d4]
    refine condTD (by rfl) (wp_seq ?_)
    refine wpD_draw (fun w' => w'.cell? ⟨w.heap.size + 1, 0, none⟩ = some (.iface 73 (.pointer (some ⟨b, 0, none⟩)))) mixed (by kernel_rfl) d4 ?_
    have d4d : w4.drew.cell? ⟨w.heap.size + 1, 0, none⟩ = some (.iface 73 (.pointer (some ⟨b, 0, none⟩))) := d4
    simp -dsimp only [push_cast, Nat.reduceAdd, Nat.reduceLeDiff, Nat.reduceBEq, decide_true, ne_eq, eq_self, not_true_eq_false, not_false_eq_true, true_imp_iff, false_imp_iff, Int.reduceNe, Int.reduceEq, Int.reduceLT, Int.reduceLE, Bool.not_true, Bool.not_false, d4d]
    refine ⟨fun w'' h => by rw [h]; exact rfl, ?_⟩
    refine storeAgg (xt := 26) (n := 3) (by kernel_rfl) R4.drew rfl (by decide) (by simp; exact ⟨rfl, rfl⟩) ?_
    intro w5 hw5
    have R5 : Blk w5 w.heap.size 26 [.slice none 0 0, .slice none 0 0, .bool false] := hw5.blk
    have E5 := E4.drew.kept hw5.kept (by omega)
    have hB5 := hB4.drew.kept hw5.kept (by omega)
    refine ⟨E5.cell rfl, ?_⟩
    simp -dsimp only [push_cast, Nat.reduceAdd, Nat.reduceLeDiff, Nat.reduceBEq, decide_true, ne_eq, eq_self, not_true_eq_false, not_false_eq_true, true_imp_iff, false_imp_iff, Int.reduceNe, Int.reduceEq, Int.reduceLT, Int.reduceLE, Bool.not_true, Bool.not_false]
    refine storeK_of E5 (by simp) rfl ?_
    intro w6 hw6
    have E6 : Blk w6 (w.heap.size + 1) 28 [.iface 73 (.pointer (some ⟨b, 0, none⟩))] := hw6.blk
    have R6 := R5.kept hw6.kept (by omega)
    have hB6 := hB5.kept hw6.kept (by omega)
    have hb6 := hb4.trans (((Kept.refl (fun i => w.heap.size ≤ i) w4).drew.trans hw5.kept (fun i _ h => by omega)).trans hw6.kept (fun i _ h => by omega) |>.below (B := w.heap.size) hb4.size (fun i h => h))
    have hpe : parseR s = .error (en, pos) := by
      unfold parseR
      rw [htok]
    refine ⟨E6.cell rfl, ?_⟩
    simp -dsimp only [push_cast, Nat.reduceAdd, Nat.reduceLeDiff, Nat.reduceBEq, decide_true, ne_eq, eq_self, not_true_eq_false, not_false_eq_true, true_imp_iff, false_imp_iff, Int.reduceNe, Int.reduceEq, Int.reduceLT, Int.reduceLE, Bool.not_true, Bool.not_false]
    refine wp_ret ?_
    exact leave_ok (t := _) (by rfl) (by rfl) R6 E6 rfl (.inr ⟨en, pos, b, hpe, rfl, by omega, hB6⟩) hb6
end Go.Proofs.YtieaebjkbhaoaaaGreatDoor
