import Derived.Test.YtimjpijbcnjaaaaDoorRm1
import Derived.Test.YtimjpijbcnjaaaaDoorP
namespace Go.Vc
variable {P : Program} {t : Fr} {w : World} {C : World → Prop} {K : VK}
theorem mixK_lookup (d bt m k ok ty pos af g) (p) : mixK P ⟨d, .lookup bt m k ok, ty, pos, af, g⟩ t w C K p = opK P ⟨d, .lookup bt m k ok, ty, pos, af, g⟩ t w (fun v w' => C w' ∧ K v w') noQ .mk := (rfl)
attribute [push_cast] mixK_lookup
end Go.Vc
namespace Go.Proofs.YtimjpijbcnjaaaaDoor
open Go.Vc Go.Proofs Go.RowKit Cae
set_option maxRecDepth 100000
set_option linter.unusedSimpArgs false
set_option linter.unusedVariables false
attribute [local irreducible] wpL callK valK unitK runK Fun Sl Own vc vcOps opK pureK
set_option maxHeartbeats 16000000

theorem inner_none_nx {c : CodeP} : ∀ (f : Nat) (q : List Nat) (k : Nat) (nx : List Nat) (st : Nat) (q' nx' : List Nat) (st' : Nat), inner c none f q k nx st = .no q' nx' st' → nx' = nx
  | 0, q, k, nx, st, q', nx', st', h => by rw [inner] at h; cases h; rfl
  | f + 1, q, k, nx, st, q', nx', st', h => by
    rw [inner] at h
    split at h
    · cases h; rfl
    · split at h
      · cases h; rfl
      · rename_i x hx
        split at h
        · cases h
        · have := inner_none_nx f _ _ _ _ _ _ _ h
          rw [this]
          unfold exec1
          split
          · rfl
          · split
            · rfl
            · split <;> rfl

/-- What the document's Match holds in one round. -/
structure RS (w : World) (B1 mb sb pm ph : Nat) (q nx : List Nat) (hv nv : Value) : Prop where
  met : Met w mb q
  soon : Met w sb nx
  pmB : Blk w pm 90 [.map (some mb)]
  phB : Blk w ph 26 [hv]
  oh : Own B1 3 1 encN w hv q
  on : Own B1 3 1 encN w nv nx
  h1 : ∀ g, hv.ownBlock = some g → g ≠ pm ∧ g ≠ ph
  n1 : ∀ g, nv.ownBlock = some g → g ≠ pm ∧ g ≠ ph
  hn : ∀ g, hv.ownBlock = some g → nv.ownBlock ≠ some g
  ms : mb ≠ sb
  pp : pm ≠ ph
  ge : B1 ≤ mb ∧ B1 ≤ sb ∧ B1 ≤ pm ∧ B1 ≤ ph

theorem RS.kept {w w' : World} {B1 mb sb pm ph : Nat} {q nx : List Nat} {hv nv : Value} (h : RS w B1 mb sb pm ph q nx hv nv) (hk : Kept (fun _ => False) w w') : RS w' B1 mb sb pm ph q nx hv nv :=
  ⟨h.met.kept hk id, h.soon.kept hk id, h.pmB.kept hk id, h.phB.kept hk id, h.oh.keptX hk (fun _ _ h => h), h.on.keptX hk (fun _ _ h => h), h.h1, h.n1, h.hn, h.ms, h.pp, h.ge⟩
theorem Met.lt {w : World} {b : Nat} {q : List Nat} (h : Met w b q) : b < w.heap.size := by
  obtain ⟨ks, h1, _⟩ := h
  exact h1.lt

theorem meetRS_c (z : Int) (h0 : 0 ≤ z) {w : World} {B1 mb sb pm ph : Nat} {q nx : List Nat} {hv nv : Value} (h : RS w B1 mb sb pm ph q nx hv nv) (hb : B1 ≤ w.heap.size) (hq : q.length < 1000000) :
    Fun Tryd.prog 50 [.int .i64 z, .pointer (some ⟨pm, 0, none⟩), .pointer (some ⟨ph, 0, none⟩)] w fun _ w' => ∃ hv', RS w' B1 mb sb pm ph (addQ q z.toNat) nx hv' nv ∧ Below B1 w w' ∧ Kept (fun j => j = mb ∨ j = ph ∨ hv.ownBlock = some j) w w' := by
  have hm := meet_c B1 z.toNat mb pm ph q hv w h.met h.pmB h.phB h.oh hb h.pp h.h1 hq
  have e : z = ((z.toNat : Nat) : Int) := by omega
  rw [← e] at hm
  refine hm.mono ?_
  rintro _ w' ⟨hv', g1, g2, g3, g4, g5, g6⟩
  obtain ⟨ks, k1, _⟩ := h.soon
  have s1 := mapNe k1 h.phB
  have s2 := mapNeOwn k1 h.oh
  obtain ⟨km, m1, _⟩ := h.met
  have s3 := mapNeOwn m1 h.on
  have hpl := h.phB.lt
  have hml := h.pmB.lt
  refine ⟨hv', ⟨g1, h.soon.kept g6 (fun hh => ?_), g2, g3, g4, h.on.keptX g6 (fun g hg hh => ?_), fun g hg => ?_, h.n1, fun g hg hh => ?_, h.ms, h.pp, h.ge⟩, g6.below hb (fun i hi => ?_), g6⟩
  · rcases hh with hh | hh | hh
    · exact h.ms hh.symm
    · exact s1 hh
    · exact s2 hh
  · rcases hh with hh | hh | hh
    · exact s3 (by rw [hg, hh])
    · exact (h.n1 g hg).2 hh
    · exact h.hn g hh hg
  · rcases g5 g hg with h' | h'
    · exact h.h1 g h'
    · omega
  · rcases g5 g hg with h' | h'
    · exact h.hn g h' hh
    · have := (h.on.block g hh).2; omega
  · rcases hi with hi | hi | hi
    · have := h.ge.1; omega
    · have := h.ge.2.2.2; omega
    · exact (h.oh.block i hi).1

theorem RS.push {w w1 w2 w3 : World} {B1 mb sb pm ph k : Nat} {q nx : List Nat} {hv nv nv' : Value} {ss : List Int} (h : RS w B1 mb sb pm ph q nx hv nv) (hs : MapI w sb ss) (hmem : ∀ n : Nat, ((n : Int) ∈ ss ↔ n ∈ nx)) (hk : k ∉ nx)
    (hm1 : MapI w1 sb (addI ss k)) (hk1 : Kept (· = sb) w w1) (k2 : Kept (fun _ => False) w1 w2) (ho : Own B1 3 1 encN w3 nv' (nx ++ [k])) (hk3 : Kept (fun j => nv.ownBlock = some j) w2 w3) (hn : ∀ g, nv'.ownBlock = some g → nv.ownBlock = some g ∨ w2.heap.size ≤ g) :
    RS w3 B1 mb sb pm ph q (addQ nx k) hv nv' := by
  have s1 := hk1.size
  have s2 := k2.size
  have e : addQ nx k = nx ++ [k] := by unfold addQ; rw [if_neg hk]
  have m1 := mapNe hs h.phB
  have m2 := mapNe hs h.pmB
  have m3 := mapNeOwn hs h.oh
  have m4 := mapNeOwn hs h.on
  obtain ⟨km, hkm, hkm2⟩ := h.met
  have m5 := mapNeOwn hkm h.on
  have l1 := h.pmB.lt
  have l2 := h.phB.lt
  rw [e]
  refine ⟨⟨km, ((hkm.kept hk1 (fun hh => h.ms hh)).kept k2 id).kept hk3 m5, hkm2⟩, ⟨addI ss k, (hm1.kept k2 id).kept hk3 m4, fun n => ?_⟩, ((h.pmB.kept hk1 (fun hh => m2 hh.symm)).kept k2 id).kept hk3 (fun hh => (h.n1 _ hh).1 rfl), ((h.phB.kept hk1 (fun hh => m1 hh.symm)).kept k2 id).kept hk3 (fun hh => (h.n1 _ hh).2 rfl),
    ((h.oh.keptX hk1 (fun g hg hh => m3 (by rw [hg, hh]))).keptX k2 (fun _ _ hh => hh)).keptX hk3 (fun g hg hh => h.hn g hg hh), ho, h.h1, fun g hg => ?_, fun g hg hh => ?_, h.ms, h.pp, h.ge⟩
  · have := mem_addI hmem (k := k) n
    rwa [e] at this
  · rcases hn g hg with h' | h'
    · exact h.n1 g h'
    · omega
  · rcases hn g hh with h' | h'
    · exact h.hn g hg h'
    · have := (h.oh.block g hg).2; omega

/-- What the document's Match hands back. -/
def MatchRV (c : CodeP) (ps : List Int) : Value :=
  if codeRight c then .tuple #[.bool (vmatch c ps).1, .int .i64 (vmatch c ps).2, .int .i64 0] else .tuple #[.bool false, .int .i64 0, .int .i64 1]

theorem matchR_c (c : CodeP) (ps : List Int) (hl : CodeLen c) (hps : ps.length < 1000000) (X Xp : Nat → Prop) (v pv : Value) (w : World) (hv : CodeV X w v c) (hpv : Sl Xp 1 (En encI) w pv ps) :
    Fun Tryd.prog 18 [v, pv] w fun r w' => r = MatchRV c ps ∧ Below w.heap.size w w' := by
  have hv0 := hv
  obtain ⟨sv, iv, rfl, hsv, hiv⟩ := hv
  obtain ⟨a1, c1, rfl, hc1⟩ := hsv.shape
  obtain ⟨a2, c2, rfl, hc2⟩ := hiv.shape
  obtain ⟨a3, c3, rfl, hc3⟩ := hpv.shape
  refine fun_of_vc Tryd.func18 rfl (by kernel_rfl) [4, 5, 6] rfl ?_
  simp -dsimp only [push_cast, fr0, Tryd.ntmps18, List.length_cons, List.length_nil, Nat.reduceAdd, Nat.reduceSub, Nat.reduceBEq, List.replicate_succ, List.replicate_zero]
  refine boxK_of ?_
  intro w1 hw1
  have hw1 : New w w1 25 [.slice a1 c.sets.length c1, .slice a2 c.ins.length c2] := hw1
  have sz1 := hw1.size
  have d1 : cellsAt w1 ⟨w.heap.size, 0, none⟩ 0 2 = some [.slice a1 c.sets.length c1, .slice a2 c.ins.length c2] := hw1.blk.cellsAt
  simp -dsimp only [push_cast, Nat.reduceAdd, Nat.reduceLeDiff, Nat.reduceBEq, decide_true, d1]
  refine callK_of (rightCodeR_c c hl X _ w1 (hv0.below hw1.below)) ?_
  rintro _ w2 ⟨rfl, hb2⟩
  have sz2 := hb2.size
  have hL2 := hw1.below.trans (hb2.mono (by omega))
  unfold MatchRV
  cases hR : codeRight c with
  | false =>
    simp -dsimp only [push_cast, Nat.reduceAdd, Nat.reduceLeDiff, Nat.reduceBEq, decide_true, ne_eq, eq_self, not_true_eq_false, not_false_eq_true, true_imp_iff, false_imp_iff, Int.reduceNe, Int.reduceEq, Int.reduceLT, Int.reduceLE, Bool.not_true, Bool.not_false, Bool.false_eq_true, if_false]
    exact hL2
  | true =>
    have hc := CR.of hR
    have hone := hc.one
    have hmany := hc.many
    simp -dsimp only [push_cast, Nat.reduceAdd, Nat.reduceLeDiff, Nat.reduceBEq, decide_true, ne_eq, eq_self, not_true_eq_false, not_false_eq_true, true_imp_iff, false_imp_iff, Int.reduceNe, Int.reduceEq, Int.reduceLT, Int.reduceLE, Bool.not_true, Bool.not_false]
    refine rowK elI_26 rfl rfl (by omega) ?_
    intro w3 hw3
    have sz3 := hw3.size
    have ho3 := hw3.own (base := w1.heap.size) (k := 1) (n := 1) (enc := encN) (l := [0]) rfl rfl (fun _ => rfl) (by omega) (by omega)
    simp -dsimp only [push_cast, Nat.reduceAdd, Nat.reduceLeDiff, Nat.reduceBEq, decide_true, ne_eq, eq_self, not_true_eq_false, not_false_eq_true, true_imp_iff, false_imp_iff, Int.reduceNe, Int.reduceEq, Int.reduceLT, Int.reduceLE, Bool.not_true, Bool.not_false]
    refine allocK (z := [.slice none 0 0]) (by kernel_rfl) ?_
    intro w4 hw4
    have sz4 := hw4.size
    simp -dsimp only [push_cast, Nat.reduceAdd, Nat.reduceLeDiff, Nat.reduceBEq, decide_true, ne_eq, eq_self, not_true_eq_false, not_false_eq_true, true_imp_iff, false_imp_iff, Int.reduceNe, Int.reduceEq, Int.reduceLT, Int.reduceLE, Bool.not_true, Bool.not_false]
    refine storeK_of hw4.blk (by simp) rfl ?_
    intro w5 hw5
    have sz5 := hw5.size
    have hph5 : Blk w5 w3.heap.size 26 [.slice (some ⟨w2.heap.size, 0, none⟩) 1 1] := hw5.blk
    have hb5 : Below w1.heap.size w1 w5 := hb2.trans ((hw3.below.mono sz2).trans ((hw4.below.mono (by omega)).trans (hw5.kept.below (by omega) (fun _ h => by omega))))
    have ho5 : Own w1.heap.size 3 1 encN w5 (.slice (some ⟨w2.heap.size, 0, none⟩) 1 1) [0] := (ho3.new hw4).keptX hw5.kept (fun g hg h => by
      have : g = w2.heap.size := by simpa [Value.ownBlock] using hg.symm
      omega)
    simp -dsimp only [push_cast, Nat.reduceAdd, Nat.reduceLeDiff, Nat.reduceBEq, decide_true, ne_eq, eq_self, not_true_eq_false, not_false_eq_true, true_imp_iff, false_imp_iff, Int.reduceNe, Int.reduceEq, Int.reduceLT, Int.reduceLE, Bool.not_true, Bool.not_false]
    refine wpL_loop [4, 5, 6, 7, 9, 10, 12, 13, 14, 15, 16, 17, 18, 23, 24, 25, 26, 27, 28, 29, 30, 31, 32, 33, 34, 35, 36, 37, 38, 39, 40, 41, 42, 43, 44, 45, 46, 47, 48, 49, 50, 51, 52, 53, 54, 55, 56, 57, 58, 59, 60, 61, 62, 63, 64, 65, 66, 67, 68, 69, 70, 71, 72, 73, 74, 75, 76, 77, 78, 79, 80, 81, 82, 83, 84, 85, 86, 87, 88, 89, 90, 91, 92, 93, 94, 95, 96, 97, 98, 99, 100, 101, 102, 103, 104, 105, 106, 107, 108, 109, 110, 111, 112, 113, 114, 115, 116, 117, 118, 119, 120, 121, 122, 123, 124, 125, 126] (fun z wx => ∃ (i st : Nat) (q : List Nat) (hv : Value), z 9 = .int .i64 i ∧ z 7 = .int .i64 st ∧ i ≤ ps.length + 1 ∧ st ≤ i * 2001 ∧ (q ≠ [] → i ≤ ps.length ∧ outer c (ps.drop i) q st = vmatch c ps) ∧ (q = [] → vmatch c ps = (false, st)) ∧
      Blk wx w3.heap.size 26 [hv] ∧ Own w1.heap.size 3 1 encN wx hv q ∧ Places c.ins.length q ∧ (∀ g, hv.ownBlock = some g → g ≠ w3.heap.size) ∧ Below w1.heap.size w1 wx ∧ w5.heap.size ≤ wx.heap.size) (fun z _ => ps.length + 1 - (intOf (z 9)).toNat) ?_ ?_
    · refine ⟨0, 0, [0], _, rfl, rfl, by omega, by omega, fun _ => ⟨by omega, rfl⟩, fun h => (by cases h), hph5, ho5, Places.one (by omega), fun g hg h => ?_, hb5, by omega⟩
      have : g = w2.heap.size := by simpa [Value.ownBlock] using hg.symm
      omega
    · intro z wx hI
      obtain ⟨i, st0, q, hv, h9, h7, hi, hst, hq1, hq0, hphx, hox, hPq, hown, hbx, hszx⟩ := hI
      have hLx : Below w.heap.size w wx := hw1.below.trans (hbx.mono (by omega))
      have hsl := hox.slice
      obtain ⟨ha, hcp, rfl⟩ := hsl
      have chx : wx.cell? ⟨w3.heap.size, 0, none⟩ = some (.slice ha q.length hcp) := hphx.cell rfl
      simp -dsimp only [push_cast, Nat.reduceAdd, Nat.reduceLeDiff, Nat.reduceBEq, decide_true, h9, h7, chx]
      refine ⟨fun hpos => ?_, fun hzero => ?_⟩
      · have hqne : q ≠ [] := fun h => by subst h; simp at hpos
        obtain ⟨hip, hout⟩ := hq1 hqne
        have hpos : 0 < q.length := by omega
        have hq0 := hox.sl
        have hPl := hPq.len
        refine makeMapK ?_
        intro wa hma hba sza
        have hphA : Blk wa w3.heap.size 26 [.slice ha q.length hcp] := hphx.below hba hphx.lt
        have hoA := hox.keptX (Kept.of_below hba (X := fun _ => False) (fun j h1 h2 => absurd h2 (by omega))) (fun _ _ h => h)
        have chA : wa.cell? ⟨w3.heap.size, 0, none⟩ = some (.slice ha q.length hcp) := hphA.cell rfl
        have hex : ∃ (n0 b0 o0 : Nat), q[0]? = some n0 ∧ ha = some ⟨b0, o0, none⟩ ∧ wa.cell? ⟨b0, o0, none⟩ = some (.int .i64 n0) := by
          obtain ⟨n0, hn0, _⟩ := lt_get (l := q) (i := 0) hpos
          have hg := (hoA.sl).get hn0
          obtain ⟨b0, o0, e0, _, hc0⟩ := hg
          exact ⟨n0, b0, o0, hn0, e0, by simpa using hc0 0 _ rfl⟩
        refine Exists.elim hex fun n0 hex => Exists.elim hex fun b0 hex => Exists.elim hex fun o0 hex => ?_
        have hn0 := hex.1
        have he0 := hex.2.1
        have c0 := hex.2.2
        clear hex
        simp -dsimp only [push_cast, Nat.reduceAdd, Nat.reduceLeDiff, Nat.reduceBEq, decide_true, chA, indexAddrK_at he0, c0]
        refine ⟨by omega, ?_⟩
        refine updateK (kt := 3) (et := 4) (by kernel_rfl) (by kernel_rfl) hma ?_
        intro wb hmb hkb szb
        have hphB := hphA.kept hkb (fun h => by have := hphx.lt; omega)
        have hoB := hoA.keptX hkb (fun g hg h => by have := (hox.block g hg).2; omega)
        simp -dsimp only [push_cast, Nat.reduceAdd, Nat.reduceLeDiff, Nat.reduceBEq, decide_true, ne_eq, eq_self, not_true_eq_false, not_false_eq_true, true_imp_iff, false_imp_iff, Int.reduceNe, Int.reduceEq, Int.reduceLT, Int.reduceLE, Bool.not_true, Bool.not_false]
        refine allocK (z := [.map none]) (by kernel_rfl) ?_
        intro wc hwc
        have szc := hwc.size
        simp -dsimp only [push_cast, Nat.reduceAdd, Nat.reduceLeDiff, Nat.reduceBEq, decide_true, ne_eq, eq_self, not_true_eq_false, not_false_eq_true, true_imp_iff, false_imp_iff, Int.reduceNe, Int.reduceEq, Int.reduceLT, Int.reduceLE, Bool.not_true, Bool.not_false]
        refine storeK_of hwc.blk (by simp) rfl ?_
        intro wd hwd
        have szd := hwd.size
        have hkd : Kept (fun j => j = wx.heap.size + 1) wb wd := (Kept.new hwc).trans hwd.kept (fun j hj h => by omega)
        have hpmD : Blk wd wb.heap.size 90 [.map (some wx.heap.size)] := hwd.blk
        have hphD := hphB.kept hkd (by have := hphx.lt; omega)
        have hoD := hoB.keptX hkd (fun g hg h => by have := (hox.block g hg).2; omega)
        have hmD := hmb.kept hkd (by omega)
        have hbD : Below w1.heap.size w1 wd := hbx.trans ((hba.mono (by omega)).trans ((hkb.below (by omega) (fun _ h => by omega)).trans (hkd.below (by omega) (fun _ h => by omega))))
        have chD : wd.cell? ⟨w3.heap.size, 0, none⟩ = some (.slice ha q.length hcp) := hphD.cell rfl
        simp -dsimp only [push_cast, Nat.reduceAdd, Nat.reduceLeDiff, Nat.reduceBEq, decide_true, ne_eq, eq_self, not_true_eq_false, not_false_eq_true, true_imp_iff, false_imp_iff, Int.reduceNe, Int.reduceEq, Int.reduceLT, Int.reduceLE, Bool.not_true, Bool.not_false, chD]
        refine wpL_loop [12, 35, 36, 37, 38, 39, 40, 41] (fun z' wy => ∃ (j : Nat) (ks : List Int), z' 35 = .int .i64 j ∧ j ≤ q.length ∧ MapI wy wx.heap.size ks ∧ (∀ n : Nat, (n : Int) ∈ ks ↔ n ∈ q.take j ∨ n = n0) ∧ Kept (· = wx.heap.size) wd wy) (fun z' _ => q.length - (intOf (z' 35)).toNat) ?_ ?_
        · refine ⟨0, _, rfl, by omega, hmD, fun n => ?_, Kept.refl _ _⟩
          unfold addI
          rw [if_neg (by simp)]
          simp
          omega
        · intro z' wy hI
          obtain ⟨j, ks, h35, hj, hmy, hks, hky⟩ := hI
          have hphY := hphD.kept hky (by have := hphx.lt; omega)
          have hoY := hoD.keptX hky (fun g hg h => by have := (hox.block g hg).2; omega)
          have hpmY := hpmD.kept hky (by omega)
          have szy := hky.size
          simp -dsimp only [push_cast, Nat.reduceAdd, Nat.reduceLeDiff, Nat.reduceBEq, decide_true, ne_eq, eq_self, not_true_eq_false, not_false_eq_true, true_imp_iff, false_imp_iff, Int.reduceNe, Int.reduceEq, Int.reduceLT, Int.reduceLE, Bool.not_true, Bool.not_false, h35]
          refine ⟨fun hlt => ?_, fun hge => ?_⟩
          · have hex : ∃ (n1 b1 o1 : Nat), q[j]? = some n1 ∧ ha = some ⟨b1, o1, none⟩ ∧ wy.cell? ⟨b1, o1 + j, none⟩ = some (.int .i64 n1) ∧ q.take (j + 1) = q.take j ++ [n1] := by
              have hg := lt_get (l := q) (i := j) (by omega)
              obtain ⟨n1, hn1, _, _, ht⟩ := hg
              have hg := (hoY.sl).get hn1
              obtain ⟨b1, o1, e1, _, hc1⟩ := hg
              exact ⟨n1, b1, o1, hn1, e1, by simpa using hc1 0 _ rfl, ht⟩
            refine Exists.elim hex fun n1 hex => Exists.elim hex fun b1 hex => Exists.elim hex fun o1 hex => ?_
            have hn1 := hex.1
            have he1 := hex.2.1
            have c1' := hex.2.2.1
            have ht1 := hex.2.2.2
            clear hex
            have cpm : wy.cell? ⟨wb.heap.size, 0, none⟩ = some (.map (some wx.heap.size)) := hpmY.cell rfl
            simp -dsimp only [push_cast, Nat.reduceAdd, Nat.reduceLeDiff, Nat.reduceBEq, decide_true, ne_eq, eq_self, not_true_eq_false, not_false_eq_true, true_imp_iff, false_imp_iff, Int.reduceNe, Int.reduceEq, Int.reduceLT, Int.reduceLE, Bool.not_true, Bool.not_false, indexAddrK_at he1, c1', cpm]
            refine ⟨⟨by omega, by omega⟩, ?_⟩
            refine updateK (kt := 3) (et := 4) (by kernel_rfl) (by kernel_rfl) hmy ?_
            intro we hme hke sze
            simp -dsimp only [push_cast, Nat.reduceAdd, Nat.reduceLeDiff, Nat.reduceBEq, decide_true, ne_eq, eq_self, not_true_eq_false, not_false_eq_true, true_imp_iff, false_imp_iff, Int.reduceNe, Int.reduceEq, Int.reduceLT, Int.reduceLE, Bool.not_true, Bool.not_false]
            refine ⟨⟨by omega, by omega⟩, ⟨j + 1, _, rfl, by omega, hme, fun n => ?_, hky.trans hke (fun _ _ h => h)⟩, by rw [h35]; simp only [intOf]; omega⟩
            unfold addI
            rw [ht1, List.mem_append, List.mem_singleton]
            split
            · rename_i hin
              have hin := (hks n1).1 hin
              rw [hks n]
              constructor
              · rintro (h | h)
                · exact .inl (.inl h)
                · exact .inr h
              · rintro ((h | h) | h)
                · exact .inl h
                · subst h; exact hin
                · exact .inr h
            · rw [List.mem_append, List.mem_singleton, hks n]
              constructor
              · rintro ((h | h) | h)
                · exact .inl (.inl h)
                · exact .inr h
                · exact .inl (.inr (by omega))
              · rintro ((h | h) | h)
                · exact .inl (.inl h)
                · exact .inr (by omega)
                · exact .inl (.inr h)
          · have hj : j = q.length := by omega
            subst hj
            have hmet : Met wy wx.heap.size q := ⟨ks, hmy, fun n => by
              rw [hks n, List.take_of_length_le (by omega)]
              constructor
              · rintro (h | h)
                · exact h
                · subst h; exact List.mem_of_getElem? hn0
              · exact .inl⟩
            clear hks hmy h35
            refine makeMapK ?_
            intro we hme hbe sze
            simp -dsimp only [push_cast, Nat.reduceAdd, Nat.reduceLeDiff, Nat.reduceBEq, decide_true, ne_eq, eq_self, not_true_eq_false, not_false_eq_true, true_imp_iff, false_imp_iff, Int.reduceNe, Int.reduceEq, Int.reduceLT, Int.reduceLE, Bool.not_true, Bool.not_false]
            have szw3 := hphx.lt
            have hbY : Below w1.heap.size w1 wy := hbD.trans (hky.below (by omega) (fun _ h => by omega))
            have hbE : Below w1.heap.size w1 we := hbY.trans (hbe.mono (by omega))
            have hkE : Kept (fun _ => False) wy we := Kept.of_below hbe (fun j h1 h2 => absurd h2 (by omega))
            have hRS0 : RS we w1.heap.size wx.heap.size wy.heap.size wb.heap.size w3.heap.size q [] (.slice ha q.length hcp) (.slice none 0 0) :=
              ⟨hmet.kept hkE id, ⟨[], hme, fun n => by simp⟩, hpmY.kept hkE id, hphY.kept hkE id, hoY.keptX hkE (fun _ _ h => h), Own.nil (enc := encN) _ _ (fun _ => rfl) _,
                fun g hg => ⟨by have := (hox.block g hg).2; omega, hown g hg⟩, fun g h => by simp [Value.ownBlock] at h, fun g h h' => by simp [Value.ownBlock] at h', by omega, by omega, by omega, by omega, by omega, by omega⟩
            have hR0 : ∃ u, u = inner c ps[i]? (c.ins.length + 1) q 0 [] st0 := ⟨_, rfl⟩
            obtain ⟨R0, hR0⟩ := hR0
            rw [outer_eq c ps i q st0 hip, ← hR0] at hout
            clear hphY hoY hpmY hmet hkE hbe hky hbY hphD hoD hpmD hmD hbD chD chA hphA hoA hphB hoB
            refine wpL_loop [4, 5, 6, 7, 13, 16, 17, 18, 44, 45, 46, 47, 48, 49, 50, 51, 52, 53, 54, 55, 56, 57, 58, 59, 60, 61, 62, 63, 64, 65, 66, 67, 68, 69, 70, 71, 72, 73, 74, 75, 76, 77, 78, 79, 80, 81, 82, 83, 84, 85, 86, 87, 88, 89, 90, 91, 92, 93, 94, 95, 96, 97, 98, 99, 100, 101, 102, 103, 104, 105, 106, 107, 108, 109, 110, 111, 112, 113, 114, 115, 116, 117, 118, 119, 120, 121, 122, 123, 124, 125] (fun z' wv => ∃ (k st : Nat) (q' nx : List Nat) (hv nv : Value), z' 16 = .int .i64 k ∧ z' 7 = .int .i64 st ∧ z' 13 = nv ∧ k ≤ q'.length ∧ st ≤ st0 + k ∧ inner c ps[i]? (c.ins.length + 1 - k) q' k nx st = R0 ∧
              RS wv w1.heap.size wx.heap.size wy.heap.size wb.heap.size w3.heap.size q' nx hv nv ∧ Places c.ins.length q' ∧ Places c.ins.length nx ∧ Below w1.heap.size w1 wv ∧ we.heap.size ≤ wv.heap.size) (fun z' _ => c.ins.length + 1 - (intOf (z' 16)).toNat) ?_ ?_
            · exact ⟨0, st0, q, [], _, _, rfl, rfl, rfl, by omega, by omega, hR0.symm, hRS0, hPq, Places.nil _, hbE, by omega⟩
            · intro z' wv hI
              obtain ⟨k, st, q', nx, hv', nv, h16, h7', h13, hkq, hstk, hin, hRS, hP1, hP2, hbv, szv⟩ := hI
              have hsl := hRS.oh.slice
              obtain ⟨hb, hcq, rfl⟩ := hsl
              have hsn := hRS.on.slice
              obtain ⟨nb, ncq, rfl⟩ := hsn
              have cph : wv.cell? ⟨w3.heap.size, 0, none⟩ = some (.slice hb q'.length hcq) := hRS.phB.cell rfl
              have hql := hP1.len
              have hnl := hP2.len
              simp -dsimp only [push_cast, Nat.reduceAdd, Nat.reduceLeDiff, Nat.reduceBEq, decide_true, ne_eq, eq_self, not_true_eq_false, not_false_eq_true, true_imp_iff, false_imp_iff, Int.reduceNe, Int.reduceEq, Int.reduceLT, Int.reduceLE, Bool.not_true, Bool.not_false, h16, h7', h13, cph]
              refine ⟨fun hlt => ?_, fun hge => ?_⟩
              · have hBv : Below w.heap.size w wv := hw1.below.trans (hbv.mono (by omega))
                have szb := hBv.size
                have hbox : Blk wv w.heap.size 25 [.slice a1 c.sets.length c1, .slice a2 c.ins.length c2] := hw1.blk.below hbv (by omega)
                have hex : ∃ (at_ : Nat) (x : I3) (bq oq bi oi : Nat), q'[k]? = some at_ ∧ at_ < c.ins.length ∧ c.ins[at_]? = some x ∧ hb = some ⟨bq, oq, none⟩ ∧ a2 = some ⟨bi, oi, none⟩ ∧ wv.cell? ⟨bq, oq + k, none⟩ = some (.int .i64 at_) ∧
                    cellsAt wv ⟨bi, oi + at_ * 3, none⟩ 0 3 = some [.int .i64 x.op, .int .i64 x.a, .int .i64 x.b] := by
                  have hg := lt_get (l := q') (i := k) (by omega)
                  obtain ⟨at_, hat, hatm, _, _⟩ := hg
                  have hatn := hP1.2 at_ hatm
                  have hg := hRS.oh.sl.get hat
                  obtain ⟨bq, oq, hal, _, hcellq⟩ := hg
                  have hg := lt_get (l := c.ins) (i := at_) hatn
                  obtain ⟨x, hx, hxm, _, _⟩ := hg
                  have hg := (hiv.below hBv).get hx
                  obtain ⟨bi, oi, hai, _, hcelli⟩ := hg
                  exact ⟨at_, x, bq, oq, bi, oi, hat, hatn, hx, hal, hai, by simpa using hcellq 0 _ rfl, cellsAt_of (encIn x) 0 (fun j u hu => by simpa using hcelli j u hu)⟩
                refine Exists.elim hex fun at_ hex => Exists.elim hex fun x hex => Exists.elim hex fun bq hex => Exists.elim hex fun oq hex => Exists.elim hex fun bi hex => Exists.elim hex fun oi hex => ?_
                have hat := hex.1
                have hatn := hex.2.1
                have hx := hex.2.2.1
                have hal := hex.2.2.2.1
                have hai := hex.2.2.2.2.1
                have cq := hex.2.2.2.2.2.1
                have ci := hex.2.2.2.2.2.2
                clear hex
                have b1 : wv.cell? ⟨w.heap.size, 1, none⟩ = some (.slice a2 c.ins.length c2) := hbox.cell rfl
                simp -dsimp only [push_cast, Nat.reduceAdd, Nat.reduceLeDiff, Nat.reduceBEq, decide_true, ne_eq, eq_self, not_true_eq_false, not_false_eq_true, true_imp_iff, false_imp_iff, Int.reduceNe, Int.reduceEq, Int.reduceLT, Int.reduceLE, Bool.not_true, Bool.not_false, indexAddrK_at hal, cq, b1, indexAddrK_at hai, ci]
                have hf : ∃ f, c.ins.length + 1 - k = f + 1 := ⟨c.ins.length - k, by omega⟩
                obtain ⟨f, hf⟩ := hf
                have hf' : c.ins.length + 1 - (k + 1) = f := by omega
                rw [hf] at hin
                have hcase := insRight_cases (hc.ins at_ x hx)
                have hnext := hc.next at_ x hx
                have hsok := hl.1
                refine ⟨⟨by omega, by omega⟩, ⟨by omega, by omega⟩, ⟨by omega, by omega⟩, ?_⟩
                refine allocK (z := [.int .i64 0, .int .i64 0, .int .i64 0]) (by kernel_rfl) ?_
                intro wz0 hwz0
                simp -dsimp only [push_cast, Nat.reduceAdd, Nat.reduceLeDiff, Nat.reduceBEq, decide_true]
                refine storeAgg (n := 3) (by kernel_rfl) hwz0.blk rfl (by simp) (by simp [Value.oneCell']) ?_
                intro wz hwz
                have hszz : wz.heap.size = wv.heap.size + 1 := by rw [hwz.size, hwz0.size]
                have kz : Kept (fun _ => False) wv wz := (Kept.new hwz0).trans hwz.kept (fun _ hi h => by omega)
                have o0 : wz.cell? ⟨wv.heap.size, 0, none⟩ = some (.int .i64 x.op) := hwz.blk.cell rfl
                have hBx : Blk wz wv.heap.size 37 [.int .i64 x.op, .int .i64 x.a, .int .i64 x.b] := hwz.blk
                have hRz := hRS.kept kz
                have hml := hRS.met.lt
                have hpl := hRS.phB.lt
                have hbz : Below w1.heap.size w1 wz := hbv.trans (kz.below (by omega) (fun _ h => h.elim))
                have hbxz := hbox.kept kz id
                have hg8 : ∀ g, (Value.slice hb q'.length hcq).ownBlock = some g → g < wv.heap.size := fun g hg => (hRS.oh.block g hg).2
                clear hwz hwz0 hRS
                simp -dsimp only [push_cast, Nat.reduceAdd, Nat.reduceLeDiff, Nat.reduceBEq, decide_true, o0]
                refine ⟨fun h5 => ?_, fun h5 => ⟨fun h2 => ?_, fun h2 => ⟨fun h3 => ?_, fun h3 => ⟨fun h4 => ?_, fun h4 => ?_⟩⟩⟩⟩
                · rw [inner_yes hat hx h5] at hin
                  subst hin
                  dsimp only at hout
                  rw [← hout]
                  simp -dsimp only [push_cast, Nat.reduceAdd, Nat.reduceLeDiff, Nat.reduceBEq, decide_true, ne_eq, eq_self, not_true_eq_false, not_false_eq_true, true_imp_iff, false_imp_iff, Int.reduceNe, Int.reduceEq, Int.reduceLT, Int.reduceLE, Bool.not_true, Bool.not_false]
                  exact hw1.below.trans (hbz.mono (by omega))
                · rw [inner_step hat hx h5] at hin
                  have hr : 0 ≤ x.a ∧ x.a < c.ins.length ∧ 0 ≤ x.b ∧ x.b < c.ins.length := by omega
                  have o1 : wz.cell? ⟨wv.heap.size, 1, none⟩ = some (.int .i64 x.a) := hBx.cell rfl
                  simp -dsimp only [push_cast, Nat.reduceAdd, Nat.reduceLeDiff, Nat.reduceBEq, decide_true, o1]
                  refine callK_of (meetRS_c x.a (by omega) hRz (by omega) (by omega)) ?_
                  rintro _ w5 ⟨hv5, hR5, hb5, hk5⟩
                  have hBx5 := hBx.kept hk5 (by rintro (h | h | h) <;> first | omega | (have := hg8 _ h; omega))
                  have o2 : w5.cell? ⟨wv.heap.size, 2, none⟩ = some (.int .i64 x.b) := hBx5.cell rfl
                  have hPl5 := (hP1.add (k := x.a.toNat) (by omega)).len
                  have sz5 := hb5.size
                  simp -dsimp only [push_cast, Nat.reduceAdd, Nat.reduceLeDiff, Nat.reduceBEq, decide_true, o2]
                  refine callK_of (meetRS_c x.b (by omega) hR5 (by omega) (by omega)) ?_
                  rintro _ w6 ⟨hv6, hRf, hb6, hk6⟩
                  have sz6 := hb6.size
                  have e1x : (exec1 c ps[i]? x at_ q' nx) = (addQ (addQ q' x.a.toNat) x.b.toNat, nx) := by unfold exec1; rw [if_pos h2]
                  have hpl := exec1_places (cur := ps[i]?) hc hx h5 hP1 hP2
                  rw [e1x] at hin hpl
                  have hPf1 := hpl.1
                  have hPf2 := hpl.2
                  have hbf := hbz.trans (hb5.trans hb6)
                  have szf : we.heap.size ≤ w6.heap.size := by omega
                  have hlen : q'.length ≤ (addQ (addQ q' x.a.toNat) x.b.toNat).length := Nat.le_trans (addQ_len _ _) (addQ_len _ _)
                  simp -dsimp only [push_cast, Nat.reduceAdd, Nat.reduceLeDiff, Nat.reduceBEq, decide_true, ne_eq, eq_self, not_true_eq_false, not_false_eq_true, true_imp_iff, false_imp_iff, Int.reduceNe, Int.reduceEq, Int.reduceLT, Int.reduceLE, Bool.not_true, Bool.not_false]
                  refine ⟨⟨by omega, by omega⟩, ⟨k + 1, st + 1, _, _, _, _, by simp, by simp, by simp, by omega, by omega, ?_, hRf, hPf1, hPf2, hbf, szf⟩, by rw [h16]; simp only [intOf]; omega⟩
                  rw [hf']; exact hin
                · rw [inner_step hat hx h5] at hin
                  have hr : 0 ≤ x.a ∧ x.a < c.ins.length := by omega
                  have o1 : wz.cell? ⟨wv.heap.size, 1, none⟩ = some (.int .i64 x.a) := hBx.cell rfl
                  simp -dsimp only [push_cast, Nat.reduceAdd, Nat.reduceLeDiff, Nat.reduceBEq, decide_true, o1]
                  refine callK_of (meetRS_c x.a (by omega) hRz (by omega) (by omega)) ?_
                  rintro _ w5 ⟨hv5, hRf, hb5, hk5⟩
                  have sz5 := hb5.size
                  have e1x : (exec1 c ps[i]? x at_ q' nx) = (addQ q' x.a.toNat, nx) := by unfold exec1; rw [if_neg h2, if_pos h3]
                  have hpl := exec1_places (cur := ps[i]?) hc hx h5 hP1 hP2
                  rw [e1x] at hin hpl
                  have hPf1 := hpl.1
                  have hPf2 := hpl.2
                  have hbf := hbz.trans hb5
                  have szf : we.heap.size ≤ w5.heap.size := by omega
                  have hlen : q'.length ≤ (addQ q' x.a.toNat).length := addQ_len _ _
                  simp -dsimp only [push_cast, Nat.reduceAdd, Nat.reduceLeDiff, Nat.reduceBEq, decide_true, ne_eq, eq_self, not_true_eq_false, not_false_eq_true, true_imp_iff, false_imp_iff, Int.reduceNe, Int.reduceEq, Int.reduceLT, Int.reduceLE, Bool.not_true, Bool.not_false]
                  refine ⟨⟨by omega, by omega⟩, ⟨k + 1, st + 1, _, _, _, _, by simp, by simp, by simp, by omega, by omega, ?_, hRf, hPf1, hPf2, hbf, szf⟩, by rw [h16]; simp only [intOf]; omega⟩
                  rw [hf']; exact hin
                · rw [inner_step hat hx h5] at hin
                  have hnx := hnext (.inr h4)
                  refine ⟨fun hend => ⟨⟨by omega, by omega⟩, ?_⟩, fun hend => ?_⟩
                  · refine callK_of (meetRS_c ((at_ : Int) + 1) (by omega) hRz (by omega) (by omega)) ?_
                    rintro _ w5 ⟨hv5, hRf, hb5, hk5⟩
                    have sz5 := hb5.size
                    have e1x : (exec1 c ps[i]? x at_ q' nx) = (addQ q' (at_ + 1), nx) := by unfold exec1; rw [if_neg h2, if_neg h3, if_pos h4, List.getElem?_eq_none (by omega)]; rfl
                    have ean : ((at_ : Int) + 1).toNat = at_ + 1 := by omega
                    have hpl := exec1_places (cur := ps[i]?) hc hx h5 hP1 hP2
                    rw [e1x] at hin hpl
                    rw [ean] at hRf
                    have hPf1 := hpl.1
                    have hPf2 := hpl.2
                    have hbf := hbz.trans hb5
                    have szf : we.heap.size ≤ w5.heap.size := by omega
                    have hlen : q'.length ≤ (addQ q' (at_ + 1)).length := addQ_len _ _
                    simp -dsimp only [push_cast, Nat.reduceAdd, Nat.reduceLeDiff, Nat.reduceBEq, decide_true, ne_eq, eq_self, not_true_eq_false, not_false_eq_true, true_imp_iff, false_imp_iff, Int.reduceNe, Int.reduceEq, Int.reduceLT, Int.reduceLE, Bool.not_true, Bool.not_false]
                    refine ⟨⟨by omega, by omega⟩, ⟨k + 1, st + 1, _, _, _, _, by simp, by simp, by simp, by omega, by omega, ?_, hRf, hPf1, hPf2, hbf, szf⟩, by rw [h16]; simp only [intOf]; omega⟩
                    rw [hf']; exact hin
                  · have e1x : (exec1 c ps[i]? x at_ q' nx) = (q', nx) := by unfold exec1; rw [if_neg h2, if_neg h3, if_pos h4, List.getElem?_eq_getElem (show i < ps.length by omega)]; rfl
                    rw [e1x] at hin
                    have hRf := hRz
                    have hPf1 := hP1
                    have hPf2 := hP2
                    have hbf := hbz
                    have szf : we.heap.size ≤ wz.heap.size := by omega
                    have hlen : q'.length ≤ q'.length := Nat.le_refl _
                    refine ⟨⟨by omega, by omega⟩, ⟨k + 1, st + 1, _, _, _, _, by simp, by simp, by simp, by omega, by omega, ?_, hRf, hPf1, hPf2, hbf, szf⟩, by rw [h16]; simp only [intOf]; omega⟩
                    rw [hf']; exact hin
                · rw [inner_step hat hx h5] at hin
                  have hop : x.op = 1 ∧ 0 ≤ x.a ∧ x.a < c.sets.length := by omega
                  simp -dsimp only [push_cast, Nat.reduceAdd, Nat.reduceLeDiff, Nat.reduceBEq, decide_true, ne_eq, eq_self, not_true_eq_false, not_false_eq_true, true_imp_iff, false_imp_iff, Int.reduceNe, Int.reduceEq, Int.reduceLT, Int.reduceLE, Bool.not_true, Bool.not_false, hop.1]
                  refine wpL_draw (fun w' => Kept (fun _ => False) wz w') mixed (by kernel_rfl) (Kept.refl _ _).drew ?_
                  have sxn := hnext (.inl hop.1)
                  have lB : ∀ w', Kept (fun _ => False) wz w' → w'.cell? ⟨w.heap.size, 0, none⟩ = some (.slice a1 c.sets.length c1) := fun w' hk' => hk'.cell (hbxz.cell rfl) id
                  have ea : x.a = (x.a.toNat : Int) := by omega
                  have lX : ∀ w', Kept (fun _ => False) wz w' → w'.cell? ⟨wv.heap.size, 1, none⟩ = some (.int .i64 (x.a.toNat : Int)) := fun w' hk' => hk'.cell (by rw [← ea]; exact hBx.cell rfl) id
                  have kd : Kept (fun _ => False) wz wz.drew := (Kept.refl _ _).drew
                  have d1 := lB _ kd
                  have d2 := lX _ kd
                  simp -dsimp only [push_cast, Nat.reduceAdd, Nat.reduceLeDiff, Nat.reduceBEq, decide_true, d1, d2]
                  refine ⟨fun hin_i => ⟨fun w'' hC => by rw [lB w'' hC]; exact rfl, fun w'' hC => by rw [lX w'' hC]; exact rfl, ?_⟩, fun hout_i => ?_⟩
                  · have hBz : Below w.heap.size w wz := hw1.below.trans (hbz.mono (by omega))
                    have hex : ∃ (s : List Rg) (u : Value) (bs os : Nat) (p : Int) (bp op : Nat), c.sets[x.a.toNat]? = some s ∧ a1 = some ⟨bs, os, none⟩ ∧ wz.drew.cell? ⟨bs, os + x.a.toNat, none⟩ = some u ∧ Sl X 2 (En encR) wz.drew u s ∧ ps[i]? = some p ∧ a3 = some ⟨bp, op, none⟩ ∧ wz.drew.cell? ⟨bp, op + i, none⟩ = some (.int .i64 p) := by
                      have hg := lt_get (l := c.sets) (i := x.a.toNat) (by omega)
                      obtain ⟨s, hs1, _, _, _⟩ := hg
                      have hg := lt_get (l := ps) (i := i) (by omega)
                      obtain ⟨p, hp1, _, _, _⟩ := hg
                      have hsz : Sl X 1 (SetR X wz) wz (.slice a1 c.sets.length c1) c.sets := hsv.below hBz
                      have hg := hsz.getR hs1
                      obtain ⟨bs, os, cs, ha1, _, _, hcs, u, rfl, hu⟩ := hg
                      have hg := (hpv.below hBz).get hp1
                      obtain ⟨bp, op, ha3, _, hcp⟩ := hg
                      exact ⟨s, u, bs, os, p, bp, op, hs1, ha1, by simpa using hcs 0 u rfl, hu.below (Below.refl _ _).drew, hp1, ha3, by simpa using hcp 0 _ rfl⟩
                    refine Exists.elim hex fun s hex => Exists.elim hex fun u hex => Exists.elim hex fun bs hex => Exists.elim hex fun os hex => Exists.elim hex fun p hex => Exists.elim hex fun bp hex => Exists.elim hex fun op hex => ?_
                    have hs1 := hex.1
                    have ha1 := hex.2.1
                    have cu := hex.2.2.1
                    have hu := hex.2.2.2.1
                    have hp1 := hex.2.2.2.2.1
                    have ha3 := hex.2.2.2.2.2.1
                    have cp := hex.2.2.2.2.2.2
                    clear hex
                    have hsm := List.mem_of_getElem? hs1
                    have lU : ∀ w', Kept (fun _ => False) wz w' → w'.cell? ⟨bs, os + x.a.toNat, none⟩ = some u := fun w' hk' => hk'.cell (show wz.cell? _ = _ from cu) id
                    have lP : ∀ w', Kept (fun _ => False) wz w' → w'.cell? ⟨bp, op + i, none⟩ = some (.int .i64 p) := fun w' hk' => hk'.cell (show wz.cell? _ = _ from cp) id
                    simp -dsimp only [push_cast, Nat.reduceAdd, Nat.reduceLeDiff, Nat.reduceBEq, decide_true, indexAddrK_at ha1, indexAddrK_at ha3, cu, cp]
                    refine ⟨⟨by omega, by omega⟩, fun w'' hC => by rw [lU w'' hC]; exact rfl, ⟨by omega, by omega⟩, fun w'' hC => by rw [lP w'' hC]; exact rfl, ?_⟩
                    have hcon := hasR_c s p (hl.1 s hsm) X u wz.drew hu
                    have hgs : c.sets.getD x.a.toNat [] = s := by rw [List.getD_eq_getElem?_getD, hs1]; rfl
                    have hH : ∃ bb, hasP s p = bb := ⟨_, rfl⟩
                    obtain ⟨bb, hH⟩ := hH
                    rw [hH] at hcon
                    cases bb with
                    | true =>
                      refine callK_of hcon ?_
                      rintro _ w6 ⟨rfl, hb6⟩
                      have k6 : Kept (fun _ => False) wz w6 := kd.trans (Kept.of_below hb6 (X := fun _ => False) (fun j h1 h2 => absurd h2 (by have : wz.drew.heap.size = wz.heap.size := rfl; omega))) (fun _ _ => id)
                      have hR6 := hRz.kept k6
                      refine ⟨k6, ?_⟩
                      simp -dsimp only [push_cast, Nat.reduceAdd, Nat.reduceLeDiff, Nat.reduceBEq, decide_true]
                      refine ⟨⟨by omega, by omega⟩, ?_⟩
                      have hso := hR6.soon
                      obtain ⟨ss, hss, hmem⟩ := hso
                      refine lookupK (kt := 3) (et := 4) (by kernel_rfl) (by kernel_rfl) (by kernel_rfl) hss ?_
                      refine ⟨k6, ?_⟩
                      simp -dsimp only [push_cast, Nat.reduceAdd, Nat.reduceLeDiff, Nat.reduceBEq, decide_true]
                      have s6 := k6.size
                      have hcast : ((at_ : Int) + 1) = ((at_ + 1 : Nat) : Int) := rfl
                      have e1x : (exec1 c ps[i]? x at_ q' nx) = (q', addQ nx (at_ + 1)) := by unfold exec1; rw [if_neg h2, if_neg h3, if_neg h4, hp1]; dsimp only; rw [hgs, hH, if_pos rfl]
                      have hpl := exec1_places (cur := ps[i]?) hc hx h5 hP1 hP2
                      rw [e1x] at hin hpl
                      have hPf1 := hpl.1
                      have hPf2 := hpl.2
                      have hlen : q'.length ≤ q'.length := Nat.le_refl _
                      refine ⟨fun hnin => ?_, fun hin' => ?_⟩
                      · have hkn : at_ + 1 ∉ nx := fun hh => hnin ((hmem (at_ + 1)).2 hh)
                        refine ⟨⟨by omega, by omega⟩, ?_⟩
                        refine updateK (kt := 3) (et := 4) (by kernel_rfl) (by kernel_rfl) hss ?_
                        intro w7 hm7 hk7 sz7
                        have hon7 := hR6.on.keptX hk7 (fun g hg h => mapNeOwn hss hR6.on (by rw [hg, h]))
                        simp -dsimp only [push_cast, Nat.reduceAdd, Nat.reduceLeDiff, Nat.reduceBEq, decide_true, ne_eq, eq_self, not_true_eq_false, not_false_eq_true, true_imp_iff, false_imp_iff, Int.reduceNe, Int.reduceEq, Int.reduceLT, Int.reduceLE, Bool.not_true, Bool.not_false]
                        refine ⟨⟨by omega, by omega⟩, ?_⟩
                        refine rowK elI_26 rfl rfl (by omega) ?_
                        intro w8 hw8
                        simp -dsimp only [push_cast, Nat.reduceAdd, Nat.reduceLeDiff, Nat.reduceBEq, decide_true, ne_eq, eq_self, not_true_eq_false, not_false_eq_true, true_imp_iff, false_imp_iff, Int.reduceNe, Int.reduceEq, Int.reduceLT, Int.reduceLE, Bool.not_true, Bool.not_false]
                        have sz8 := hw8.size
                        refine appendK2 (base := w1.heap.size) [at_ + 1] (enc := encN) elI_26 (hon7.new hw8) rfl (fun j u hu => by simpa [encN] using hw8.cell hu) (by simp [encN, Value.oneCell']) (by simp only [List.length_cons, List.length_nil]; omega) (by omega) ?_
                        intro v' w9 ho9 hg9 hn9
                        have hk9 : Kept (fun j => (Value.slice nb nx.length ncq).ownBlock = some j) w8 w9 := Kept.grown hg9 (fun _ h => h)
                        have hRf := hR6.push hss hmem hkn hm7 hk7 (Kept.new hw8) ho9 hk9 hn9
                        have sz9 := hk9.size
                        have hbf : Below w1.heap.size w1 w9 := (hbz.trans (k6.below (by omega) (fun _ h => h.elim))).trans ((hk7.below (by omega) (fun _ h => by have := hR6.ge.2.1; omega)).trans ((hw8.below.mono (by omega)).trans (hk9.below (by omega) (fun i h => (hR6.on.block i h).1))))
                        have szf : we.heap.size ≤ w9.heap.size := by omega
                        simp -dsimp only [push_cast, Nat.reduceAdd, Nat.reduceLeDiff, Nat.reduceBEq, decide_true, ne_eq, eq_self, not_true_eq_false, not_false_eq_true, true_imp_iff, false_imp_iff, Int.reduceNe, Int.reduceEq, Int.reduceLT, Int.reduceLE, Bool.not_true, Bool.not_false]
                        refine ⟨⟨by omega, by omega⟩, ⟨k + 1, st + 1, _, _, _, _, by simp, by simp, by simp, by omega, by omega, ?_, hRf, hPf1, hPf2, hbf, szf⟩, by rw [h16]; simp only [intOf]; omega⟩
                        rw [hf']; exact hin
                      · have hkn : at_ + 1 ∈ nx := (hmem (at_ + 1)).1 (Classical.byContradiction hin')
                        have eA : addQ nx (at_ + 1) = nx := by unfold addQ; rw [if_pos hkn]
                        rw [eA] at hin
                        have hRf := hR6
                        have hPf2 := hP2
                        have hbf := hbz.trans (k6.below (by omega) (fun _ h => h.elim))
                        have szf : we.heap.size ≤ w6.heap.size := by omega
                        refine ⟨⟨by omega, by omega⟩, ⟨k + 1, st + 1, _, _, _, _, by simp, by simp, by simp, by omega, by omega, ?_, hRf, hPf1, hPf2, hbf, szf⟩, by rw [h16]; simp only [intOf]; omega⟩
                        rw [hf']; exact hin
                    | false =>
                      refine callK_of hcon ?_
                      rintro _ w6 ⟨rfl, hb6⟩
                      have k6 : Kept (fun _ => False) wz w6 := kd.trans (Kept.of_below hb6 (X := fun _ => False) (fun j h1 h2 => absurd h2 (by have : wz.drew.heap.size = wz.heap.size := rfl; omega))) (fun _ _ => id)
                      have hR6 := hRz.kept k6
                      refine ⟨k6, ?_⟩
                      simp -dsimp only [push_cast, Nat.reduceAdd, Nat.reduceLeDiff, Nat.reduceBEq, decide_true]
                      have e1x : (exec1 c ps[i]? x at_ q' nx) = (q', nx) := by unfold exec1; rw [if_neg h2, if_neg h3, if_neg h4, hp1]; dsimp only; rw [hgs, hH]; rfl
                      rw [e1x] at hin
                      have hRf := hR6
                      have hPf1 := hP1
                      have hPf2 := hP2
                      have hbf := hbz.trans (k6.below (by omega) (fun _ h => h.elim))
                      have s6 := k6.size
                      have szf : we.heap.size ≤ w6.heap.size := by omega
                      have hlen : q'.length ≤ q'.length := Nat.le_refl _
                      refine ⟨⟨by omega, by omega⟩, ⟨k + 1, st + 1, _, _, _, _, by simp, by simp, by simp, by omega, by omega, ?_, hRf, hPf1, hPf2, hbf, szf⟩, by rw [h16]; simp only [intOf]; omega⟩
                      rw [hf']; exact hin
                  · have e1x : (exec1 c ps[i]? x at_ q' nx) = (q', nx) := by unfold exec1; rw [if_neg h2, if_neg h3, if_neg h4, List.getElem?_eq_none (by omega)]
                    rw [e1x] at hin
                    have hRf := hRz.kept kd
                    have hPf1 := hP1
                    have hPf2 := hP2
                    have hbf := hbz.trans (kd.below (by omega) (fun _ h => h.elim))
                    have szf : we.heap.size ≤ wz.drew.heap.size := by have : wz.drew.heap.size = wz.heap.size := rfl; omega
                    have hlen : q'.length ≤ q'.length := Nat.le_refl _
                    refine ⟨⟨by omega, by omega⟩, ⟨k + 1, st + 1, _, _, _, _, by simp, by simp, by simp, by omega, by omega, ?_, hRf, hPf1, hPf2, hbf, szf⟩, by rw [h16]; simp only [intOf]; omega⟩
                    rw [hf']; exact hin
              · have hn : q'[k]? = none := List.getElem?_eq_none (by omega)
                have hf : ∃ f, c.ins.length + 1 - k = f + 1 := ⟨c.ins.length - k, by omega⟩
                obtain ⟨f, hf⟩ := hf
                rw [hf, inner_end hn] at hin
                subst hin
                dsimp only at hout
                refine storeK_of hRS.phB (by simp) rfl ?_
                intro wn hwn
                have szn := hwn.size
                simp -dsimp only [push_cast, Nat.reduceAdd, Nat.reduceLeDiff, Nat.reduceBEq, decide_true, ne_eq, eq_self, not_true_eq_false, not_false_eq_true, true_imp_iff, false_imp_iff, Int.reduceNe, Int.reduceEq, Int.reduceLT, Int.reduceLE, Bool.not_true, Bool.not_false]
                have honN := hRS.on.keptX hwn.kept (fun g hg h => (hRS.n1 g hg).2 h)
                have hbN : Below w1.heap.size w1 wn := hbv.trans (hwn.kept.below (by omega) (fun _ h => by omega))
                refine ⟨⟨by omega, by omega⟩, ⟨i + 1, st, nx, _, by simp, by simp, by omega, by omega, fun hne => ?_, fun he => ?_, hwn.blk, honN, hP2, fun g hg => (hRS.n1 g hg).2, hbN, by omega⟩, by rw [h9]; simp only [intOf]; omega⟩
                · rcases Nat.lt_or_ge i ps.length with hlt_i | hge_i
                  · refine ⟨by omega, ?_⟩
                    rw [if_neg (by rintro (h | h); omega; exact hne h)] at hout
                    exact hout
                  · exfalso
                    rw [List.getElem?_eq_none (by omega)] at hR0
                    exact hne (inner_none_nx _ _ _ _ _ _ _ _ hR0.symm)
                · rw [if_pos (.inr he)] at hout
                  exact hout.symm
      · have hqe : q = [] := List.eq_nil_of_length_eq_zero (by omega)
        have hvm := hq0 hqe
        rw [hvm]
        simp -dsimp only [push_cast, Nat.reduceAdd, Nat.reduceLeDiff, Nat.reduceBEq, decide_true, ne_eq, eq_self, not_true_eq_false, not_false_eq_true, true_imp_iff, false_imp_iff, Int.reduceNe, Int.reduceEq, Int.reduceLT, Int.reduceLE, Bool.not_true, Bool.not_false]
        exact hLx
end Go.Proofs.YtimjpijbcnjaaaaDoor
