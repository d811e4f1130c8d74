import Derived.Test.YtimjpijbcnjaaaaDoorImr3
namespace Go.Proofs.YtimjpijbcnjaaaaDoor
open Go.Vc Go.Proofs Go.RowKit Cae
set_option maxRecDepth 100000
set_option linter.unusedSimpArgs false
set_option linter.unusedVariables false
attribute [local irreducible] wpL callK valK unitK runK Fun Sl Own vc vcOps opK pureK
set_option maxHeartbeats 16000000

theorem tlist_step {α : Type} {f : St → α × St} {k : Nat} {y : St} {acc all : List α} {z : St} (hk : 0 < k) (hb : y.bad = false) (h1 : acc ++ (tlist f k y).1 = all) (h2 : (tlist f k y).2 = z) :
    (acc ++ [(f y).1]) ++ (tlist f (k - 1) (f y).2).1 = all ∧ (tlist f (k - 1) (f y).2).2 = z := by
  obtain ⟨k, rfl⟩ : ∃ n, k = n + 1 := ⟨k - 1, by omega⟩
  rw [tlist, if_neg (by rw [hb]; simp)] at h1 h2
  exact ⟨by rw [← h1, Nat.add_sub_cancel]; simp, h2⟩
theorem tlist_done {α : Type} {f : St → α × St} {k : Nat} {y : St} {acc all : List α} {z : St} (hk : k = 0 ∨ y.bad = true) (h1 : acc ++ (tlist f k y).1 = all) (h2 : (tlist f k y).2 = z) : acc = all ∧ y = z := by
  have e : tlist f k y = ([], y) := by
    cases k with
    | zero => rfl
    | succ k =>
      rcases hk with hk | hk
      · cases hk
      · rw [tlist, if_pos hk]
  rw [e] at h1 h2
  exact ⟨by simpa using h1, h2⟩
theorem tshr_list {α : Type} {f : St → α × St} (hf : Shr f) : ∀ n, Shr (tlist f n)
  | 0, x => Nat.le_refl _
  | n + 1, x => by
    rw [tlist]
    split
    · exact Nat.le_refl _
    · exact Nat.le_trans (tshr_list hf n _) (hf x)
theorem tshr_range : Shr trange := fun x => Nat.le_trans (tnum_len _ _) (tnum_len _ x)
theorem tshr_set : Shr tset := fun x => Nat.le_trans (tshr_list tshr_range _ _) (tnum_len _ x)
theorem tshr_sets : Shr tsets := fun x => Nat.le_trans (tshr_list tshr_set _ _) (tnum_len _ x)
theorem tshr_ins : Shr tins := fun x => Nat.le_trans (tnum_len _ _) (Nat.le_trans (tnum_len _ _) (tnum_len _ x))
theorem tshr_inss : Shr tinss := fun x => Nat.le_trans (tshr_list tshr_ins _ _) (tnum_len _ x)
theorem tshr_code : Shr tcode := fun x => Nat.le_trans (tshr_inss _) (tshr_sets x)

attribute [local irreducible] tnum


theorem tcode_c (x : St) (p : Nat) (w : World) (hs : x.s.length < 1000000000) (hB : rdT w p x) :
    Fun Tryd.prog 73 [.pointer (some ⟨p, 0, none⟩)] w fun r w' => CodeV (fun j => j < w.heap.size) w' r (tcode x).1 ∧ rdT w' p (tcode x).2 ∧ Kept (· = p) w w' := by
  have hpl : p < w.heap.size := Blk.lt (e := 114) (cs := [str x.s, .bool x.bad]) hB
  refine fun_of_vcC Tryd.func73 rfl (by kernel_rfl) [.cell 2 25] rfl ?_
  simp -dsimp only [push_cast, fr0, Tryd.ntmps73, List.length_cons, List.length_nil, Nat.reduceAdd, Nat.reduceSub, Nat.reduceBEq, List.replicate_succ, List.replicate_zero]
  refine allocK (z := [.slice none 0 0, .slice none 0 0]) (by kernel_rfl) ?_
  intro w1 hw1
  simp -dsimp only [push_cast, Nat.reduceAdd, Nat.reduceLeDiff, Nat.reduceBEq, decide_true]
  refine allocK (z := [.slice none 0 0, .slice none 0 0]) (by kernel_rfl) ?_
  intro w2 hw2
  have sz1 := hw1.size
  have sz2 := hw2.size
  have hB2 : rdT w2 p x := Blk.kept (e := 114) (Blk.kept (e := 114) hB (Kept.new hw1 (X := fun _ => False)) id) (Kept.new hw2 (X := fun _ => False)) id
  simp -dsimp only [push_cast, Nat.reduceAdd, Nat.reduceLeDiff, Nat.reduceBEq, decide_true]
  refine callK_of (tnum_c 2000 x p w2 hs hB2) ?_
  rintro _ w3 ⟨rfl, hw3⟩
  have sz3 := hw3.size
  have hr3 : Blk w3 w.heap.size 25 [.slice none 0 0, .slice none 0 0] := (hw1.blk.kept (Kept.new hw2 (X := fun _ => False)) id).kept hw3.kept (by show ¬ w.heap.size = p; omega)
  have hc3 : Blk w3 w1.heap.size 25 [.slice none 0 0, .slice none 0 0] := hw2.blk.kept hw3.kept (by show ¬ w1.heap.size = p; omega)
  have hk3 : Kept (· = p) w w3 := ((Kept.new hw1 (X := (· = p))).trans (Kept.new hw2) (fun _ _ h => h)).trans hw3.kept (fun _ _ h => h)
  have hmv := tnum_val 2000 x
  have hml := tnum_len 2000 x
  simp -dsimp only [push_cast, Nat.reduceAdd, Nat.reduceLeDiff, Nat.reduceBEq, decide_true]
  refine wpL_loop [4, 5, 6, 7, 13, 14, 15, 16, 17, 18, 19, 20, 21, 22, 23, 24, 25, 26, 27, 28, 29, 30, 31, 32, 33, 34, 35, 36, 37, 38, 39, 40, 41, 42, 43, 44, 45, 46, 47, 48, 49, 50, 51] (fun z wx => ∃ (k : Nat) (y : St) (sets : List (List Rg)) (svs : List SV) (sv : SV),
    z 4 = .int .i64 k ∧ y.s.length ≤ x.s.length ∧ sets ++ (tlist tset k y).1 = (tsets x).1 ∧ (tlist tset k y).2 = (tsets x).2 ∧
    rdT wx p y ∧ Blk wx w1.heap.size 25 [sv.v, .slice none 0 0] ∧ Blk wx w.heap.size 25 [.slice none 0 0, .slice none 0 0] ∧ Own w2.heap.size 76 1 encSV wx sv.v svs ∧ svs.length = sets.length ∧ sets.length + k = (tnum 2000 x).1 ∧
    (∀ (j : Nat) (s : List Rg), sets[j]? = some s → ∃ u, svs[j]? = some u ∧ Sl (fun j => j < w2.heap.size ∨ sv.v.ownBlock = some j) 2 (En encR) wx u.v s) ∧ Kept (· = p) w wx ∧ w2.heap.size ≤ wx.heap.size) (fun z _ => (intOf (z 4)).toNat) ?_ ?_
  · exact ⟨(tnum 2000 x).1, (tnum 2000 x).2, [], [], ⟨none, 0, 0⟩, rfl, hml, rfl, rfl, hw3.blk, hc3, hr3, Own.nil (enc := encSV) _ _ (fun _ => rfl) _, rfl, by simp, by simp, hk3, by omega⟩
  · intro z wx hI
    obtain ⟨k, y, sets, svs, sv, h4, hy, hr1, hr2, hBx, hcx, hrx, hox, hlen, hsl, hel, hkx, hszx⟩ := hI
    have hBx' : Blk wx p 114 [str y.s, .bool y.bad] := hBx
    have fa : wx.cell? ⟨p, 1, none⟩ = some (.bool y.bad) := hBx'.cell rfl
    rcases Nat.eq_zero_or_pos k with hk0 | hk0
    · have h4' : z 4 = .int .i64 0 := by rw [h4, hk0]; rfl
      have hstop : k = 0 ∨ y.bad = true := .inl hk0
      simp -dsimp only [push_cast, Nat.reduceAdd, Nat.reduceLeDiff, Nat.reduceBEq, decide_true, ne_eq, eq_self, not_true_eq_false, not_false_eq_true, true_imp_iff, false_imp_iff, Int.reduceNe, Int.reduceEq, Int.reduceLT, Int.reduceLE, Bool.not_true, Bool.not_false, h4']
      have hdone := tlist_done (f := tset) (k := k) hstop hr1 hr2
      have hrs := hdone.1
      have hye := hdone.2
      subst hrs
      subst hye
      refine callK_of (tnum_c 2000 (tsets x).2 p wx (by omega) hBx) ?_
      rintro _ wb ⟨rfl, hwb⟩
      have szb := hwb.size
      have hmv2 := tnum_val 2000 (tsets x).2
      have hml2 := tnum_len 2000 (tsets x).2
      have hcb : Blk wb w1.heap.size 25 [sv.v, .slice none 0 0] := hcx.kept hwb.kept (by show ¬ w1.heap.size = p; omega)
      have hrb : Blk wb w.heap.size 25 [.slice none 0 0, .slice none 0 0] := hrx.kept hwb.kept (by show ¬ w.heap.size = p; omega)
      have hpo : ∀ g, sv.v.ownBlock = some g → ¬ g = p := fun g hg h => by have := (hox.block g hg).1; omega
      have hob := hox.keptX hwb.kept hpo
      have helb : ∀ (j : Nat) (s : List Rg), (tsets x).1[j]? = some s → ∃ u, svs[j]? = some u ∧ Sl (fun j => j < w2.heap.size ∨ sv.v.ownBlock = some j) 2 (En encR) wb u.v s := fun j s hj => by
        obtain ⟨u, h1, h2⟩ := hel j s hj
        exact ⟨u, h1, Sl.kept h2 hwb.kept (fun k hk => .inl (by subst hk; omega))⟩
      simp -dsimp only [push_cast, Nat.reduceAdd, Nat.reduceLeDiff, Nat.reduceBEq, decide_true]
      refine wpL_loop [8, 9, 10, 54, 55, 56, 57, 58, 59, 60, 61, 62, 63, 64, 65, 66, 67, 68, 69, 70, 71, 72, 73, 74, 75, 76, 77, 78] (fun z' wy => ∃ (m : Nat) (y2 : St) (ins : List I3) (iv : SV), z' 8 = .int .i64 m ∧ y2.s.length ≤ x.s.length ∧ ins ++ (tlist tins m y2).1 = (tinss (tsets x).2).1 ∧ (tlist tins m y2).2 = (tinss (tsets x).2).2 ∧
        rdT wy p y2 ∧ Blk wy w1.heap.size 25 [sv.v, iv.v] ∧ Blk wy w.heap.size 25 [.slice none 0 0, .slice none 0 0] ∧ Own wb.heap.size 37 3 encIn wy iv.v ins ∧ ins.length + m = (tnum 2000 (tsets x).2).1 ∧ Kept (fun j => j = p ∨ j = w1.heap.size) wb wy) (fun z' _ => (intOf (z' 8)).toNat) ?_ ?_
      · exact ⟨(tnum 2000 (tsets x).2).1, (tnum 2000 (tsets x).2).2, [], ⟨none, 0, 0⟩, rfl, by omega, rfl, rfl, hwb.blk, hcb, hrb, Own.nil (enc := encIn) _ _ (fun _ => rfl) _, by simp, Kept.refl _ _⟩
      · intro z' wy hI
        obtain ⟨m, y2, ins, iv, h8, hy2, hq1, hq2, hBy, hcy, hry, hoy, hil, hky⟩ := hI
        have szy := hky.size
        have hBy' : Blk wy p 114 [str y2.s, .bool y2.bad] := hBy
        have fb : wy.cell? ⟨p, 1, none⟩ = some (.bool y2.bad) := hBy'.cell rfl
        have cc : cellsAt wy ⟨w1.heap.size, 0, none⟩ 0 2 = some [sv.v, iv.v] := hcy.cellsAt
        rcases Nat.eq_zero_or_pos m with hm0 | hm0
        · have h8' : z' 8 = .int .i64 0 := by rw [h8, hm0]; rfl
          have hstop2 : m = 0 ∨ y2.bad = true := .inl hm0
          simp -dsimp only [push_cast, Nat.reduceAdd, Nat.reduceLeDiff, Nat.reduceBEq, decide_true, ne_eq, eq_self, not_true_eq_false, not_false_eq_true, true_imp_iff, false_imp_iff, Int.reduceNe, Int.reduceEq, Int.reduceLT, Int.reduceLE, Bool.not_true, Bool.not_false, h8', cc]
          have hdone := tlist_done (f := tins) (k := m) hstop2 hq1 hq2
          have hrs := hdone.1
          have hye := hdone.2
          subst hrs
          subst hye
          refine storeAgg (n := 2) (by kernel_rfl) hry rfl (by simp) (by simp [SV.v, Value.oneCell']) ?_
          intro w9 hw9
          have c9 : cellsAt w9 ⟨w.heap.size, 0, none⟩ 0 2 = some [sv.v, iv.v] := hw9.blk.cellsAt
          simp -dsimp only [push_cast, Nat.reduceAdd, Nat.reduceLeDiff, Nat.reduceBEq, decide_true, c9]
          have sz9 := hw9.size
          have kb : Kept (fun j => j = p ∨ j = w1.heap.size ∨ j = w.heap.size) wb w9 := (hky.weaken (fun _ _ h => by omega)).trans hw9.kept (fun _ _ h => .inr (.inr h))
          have hXk : ∀ j, (j = p ∨ j = w1.heap.size ∨ j = w.heap.size) → j < w2.heap.size ∨ sv.v.ownBlock = some j := fun j h => .inl (by omega)
          refine ⟨⟨sv.v, iv.v, rfl, ?_, ?_⟩, Blk.kept (e := 114) hBy hw9.kept (by omega), ?_⟩
          · have hos : Own w2.heap.size 76 1 encSV w9 sv.v svs := hob.keptX kb (fun g hg h => by
              have := (hox.block g hg).1
              omega)
            refine Sl.narrow (ownRead (R := SetR (fun j => j < w2.heap.size) w9) hos hlen (fun j s hj => ?_)) (by omega) (fun cs s h => ?_) (fun b _ hb => by omega)
            · obtain ⟨u, h1, h2⟩ := helb j s hj
              exact ⟨u, h1, u.v, rfl, (Sl.kept h2 kb hXk).weaken (fun b hb => .inl hb)⟩
            · obtain ⟨u, rfl, h⟩ := h
              exact ⟨u, rfl, h.weaken (fun b hb => by omega)⟩
          · have hoi := hoy.keptX hw9.kept (fun g hg h => by have := (hoy.block g hg).1; omega)
            exact hoi.sl.weaken (fun b hb => by omega)
          · exact (hkx.trans hwb.kept (fun _ _ h => h)).trans kb (fun k hk h => by omega)
        · have hmp : ((0 : Int) < (m : Int)) = True := eq_true (by omega)
          cases hyb2 : y2.bad with
          | true =>
            have hstop2 : m = 0 ∨ y2.bad = true := .inr hyb2
            rw [hyb2] at fb
            simp -dsimp only [push_cast, Nat.reduceAdd, Nat.reduceLeDiff, Nat.reduceBEq, decide_true, ne_eq, eq_self, not_true_eq_false, not_false_eq_true, true_imp_iff, false_imp_iff, Int.reduceNe, Int.reduceEq, Int.reduceLT, Int.reduceLE, Bool.not_true, Bool.not_false, h8, hmp, fb, cc, decide_true]
            have hdone := tlist_done (f := tins) (k := m) hstop2 hq1 hq2
            have hrs := hdone.1
            have hye := hdone.2
            subst hrs
            subst hye
            refine storeAgg (n := 2) (by kernel_rfl) hry rfl (by simp) (by simp [SV.v, Value.oneCell']) ?_
            intro w9 hw9
            have c9 : cellsAt w9 ⟨w.heap.size, 0, none⟩ 0 2 = some [sv.v, iv.v] := hw9.blk.cellsAt
            simp -dsimp only [push_cast, Nat.reduceAdd, Nat.reduceLeDiff, Nat.reduceBEq, decide_true, c9]
            have sz9 := hw9.size
            have kb : Kept (fun j => j = p ∨ j = w1.heap.size ∨ j = w.heap.size) wb w9 := (hky.weaken (fun _ _ h => by omega)).trans hw9.kept (fun _ _ h => .inr (.inr h))
            have hXk : ∀ j, (j = p ∨ j = w1.heap.size ∨ j = w.heap.size) → j < w2.heap.size ∨ sv.v.ownBlock = some j := fun j h => .inl (by omega)
            refine ⟨⟨sv.v, iv.v, rfl, ?_, ?_⟩, Blk.kept (e := 114) hBy hw9.kept (by omega), ?_⟩
            · have hos : Own w2.heap.size 76 1 encSV w9 sv.v svs := hob.keptX kb (fun g hg h => by
                have := (hox.block g hg).1
                omega)
              refine Sl.narrow (ownRead (R := SetR (fun j => j < w2.heap.size) w9) hos hlen (fun j s hj => ?_)) (by omega) (fun cs s h => ?_) (fun b _ hb => by omega)
              · obtain ⟨u, h1, h2⟩ := helb j s hj
                exact ⟨u, h1, u.v, rfl, (Sl.kept h2 kb hXk).weaken (fun b hb => .inl hb)⟩
              · obtain ⟨u, rfl, h⟩ := h
                exact ⟨u, rfl, h.weaken (fun b hb => by omega)⟩
            · have hoi := hoy.keptX hw9.kept (fun g hg h => by have := (hoy.block g hg).1; omega)
              exact hoi.sl.weaken (fun b hb => by omega)
            · exact (hkx.trans hwb.kept (fun _ _ h => h)).trans kb (fun k hk h => by omega)
          | false =>
            rw [hyb2] at fb
            simp -dsimp only [push_cast, Nat.reduceAdd, Nat.reduceLeDiff, Nat.reduceBEq, decide_true, ne_eq, eq_self, not_true_eq_false, not_false_eq_true, true_imp_iff, false_imp_iff, Int.reduceNe, Int.reduceEq, Int.reduceLT, Int.reduceLE, Bool.not_true, Bool.not_false, h8, hmp, fb, decide_true]
            refine callK_of (tnum_c 9 y2 p wy (by omega) hBy) ?_
            rintro _ w3 ⟨rfl, hw3⟩
            have sz3 := hw3.size
            have hl3 := tnum_len 9 y2
            simp -dsimp only [push_cast, Nat.reduceAdd, Nat.reduceLeDiff, Nat.reduceBEq, decide_true, ne_eq, eq_self, not_true_eq_false, not_false_eq_true, true_imp_iff, false_imp_iff, Int.reduceNe, Int.reduceEq, Int.reduceLT, Int.reduceLE, Bool.not_true, Bool.not_false]
            refine callK_of (tnum_c 4194304 (tnum 9 y2).2 p w3 (by omega) hw3.blk) ?_
            rintro _ w4 ⟨rfl, hw4⟩
            have sz4 := hw4.size
            have hl4 := tnum_len 4194304 (tnum 9 y2).2
            have hc4 : Blk w4 w1.heap.size 25 [sv.v, iv.v] := (hcy.kept hw3.kept (by show ¬ w1.heap.size = p; omega)).kept hw4.kept (by show ¬ w1.heap.size = p; omega)
            have hr4 : Blk w4 w.heap.size 25 [.slice none 0 0, .slice none 0 0] := (hry.kept hw3.kept (by show ¬ w.heap.size = p; omega)).kept hw4.kept (by show ¬ w.heap.size = p; omega)
            simp -dsimp only [push_cast, Nat.reduceAdd, Nat.reduceLeDiff, Nat.reduceBEq, decide_true, ne_eq, eq_self, not_true_eq_false, not_false_eq_true, true_imp_iff, false_imp_iff, Int.reduceNe, Int.reduceEq, Int.reduceLT, Int.reduceLE, Bool.not_true, Bool.not_false]
            refine wpL_last (fun w' => Blk w' w1.heap.size 25 [sv.v, iv.v]) mixed (by kernel_rfl) (List.cons_ne_nil _ _) hc4.drew ?_
            have f1 : w4.drew.cell? ⟨w1.heap.size, 1, none⟩ = some iv.v := hc4.drew.cell rfl
            simp -dsimp only [push_cast, Nat.reduceAdd, Nat.reduceLeDiff, Nat.reduceBEq, decide_true, f1]
            refine ⟨fun w'' hC => by rw [hC.cell (o := 1) rfl]; exact rfl, ?_⟩
            have hB4 : rdT w4.drew p (tnum 4194304 (tnum 9 y2).2).2 := hw4.blk
            refine callK_of (tnum_c 4194304 (tnum 4194304 (tnum 9 y2).2).2 p w4.drew (by omega) hB4) ?_
            rintro _ w5 ⟨rfl, hw5⟩
            have sz5 : w5.heap.size = w4.heap.size := hw5.size
            have hl5 := tnum_len 4194304 (tnum 4194304 (tnum 9 y2).2).2
            have hc5 := hc4.drew.kept hw5.kept (by show ¬ w1.heap.size = p; omega)
            have hr5 := hr4.drew.kept hw5.kept (by show ¬ w.heap.size = p; omega)
            refine ⟨hc5, ?_⟩
            simp -dsimp only [push_cast, Nat.reduceAdd, Nat.reduceLeDiff, Nat.reduceBEq, decide_true]
            refine rowK elI_23 rfl rfl (by omega) ?_
            intro w6 hw6
            have sz6 := hw6.size
            have hc6 := hc5.kept (Kept.new hw6 (X := fun _ => False)) id
            have hr6 := hr5.kept (Kept.new hw6 (X := fun _ => False)) id
            refine ⟨hc6, ?_⟩
            simp -dsimp only [push_cast, Nat.reduceAdd, Nat.reduceLeDiff, Nat.reduceBEq, decide_true]
            have hib : ∀ g, iv.v.ownBlock = some g → wb.heap.size ≤ g := fun g hg => (hoy.block g hg).1
            have hip : ∀ g, iv.v.ownBlock = some g → ¬ g = p := fun g hg h => by have := hib g hg; omega
            have kd : Kept (· = p) w4 w4.drew := (Kept.refl _ _).drew
            have ho6 := ((((hoy.keptX hw3.kept hip).keptX hw4.kept hip).keptX kd hip).keptX hw5.kept hip).new hw6
            have hmb := tnum_val 2000 (tsets x).2
            refine appendK2 (base := wb.heap.size) [(tins y2).1] (enc := encIn) elI_23 ho6 rfl (fun j u hu => by simpa using hw6.cell hu) encIn_one (by simp only [List.length_cons, List.length_nil]; omega) (by omega) ?_
            intro v' w7 ho7 hgrow hne
            have hk7 : Kept (fun k => iv.v.ownBlock = some k) w6 w7 := Kept.grown hgrow (fun _ h => h)
            have hsh2 := ho7.slice
            obtain ⟨a', c', rfl⟩ := hsh2
            have hB7 : rdT w7 p (tins y2).2 := (hw5.blk.kept (Kept.new hw6 (X := fun _ => False)) id).kept hk7 (fun h => hip p h rfl)
            have hc7 := hc6.kept hk7 (fun h => by have := hib _ h; omega)
            have hr7 := hr6.kept hk7 (fun h => by have := hib _ h; omega)
            refine ⟨hc7, ?_⟩
            simp -dsimp only [push_cast, Nat.reduceAdd, Nat.reduceLeDiff, Nat.reduceBEq, decide_true]
            refine storeK_of hc7 (by simp) rfl ?_
            intro w8 hw8
            refine ⟨trivial, ?_⟩
            simp -dsimp only [push_cast, Nat.reduceAdd, Nat.reduceLeDiff, Nat.reduceBEq, decide_true]
            have sz7 := hk7.size
            have sz8 := hw8.size
            have hst := tlist_step (f := tins) hm0 hyb2 hq1 hq2
            have ek : (m : Int) - 1 = ((m - 1 : Nat) : Int) := by omega
            rw [ek]
            refine ⟨⟨by omega, by omega⟩, ⟨m - 1, (tins y2).2, ins ++ [(tins y2).1], ⟨a', (ins ++ [(tins y2).1]).length, c'⟩, rfl, ?_, hst.1, hst.2, Blk.kept (e := 114) hB7 hw8.kept (by omega), hw8.blk, hr7.kept hw8.kept (by show ¬ w.heap.size = w1.heap.size; omega), ho7.keptX hw8.kept (fun g hg h => ?_), by simp only [List.length_append, List.length_cons, List.length_nil]; omega, ?_⟩, by rw [h8]; simp only [intOf]; omega⟩
            · have := tshr_ins y2; omega
            · rcases hne g hg with h' | h'
              · have := hib g h'; omega
              · omega
            · have k1 : Kept (fun j => j = p ∨ j = w1.heap.size ∨ wb.heap.size ≤ j) wy w5 := ((hw3.kept.trans hw4.kept (fun _ _ h => h)).trans (kd.trans hw5.kept (fun _ _ h => h)) (fun _ _ h => h)).weaken (fun _ _ h => .inl h)
              have k2 : Kept (fun j => j = p ∨ j = w1.heap.size ∨ wb.heap.size ≤ j) w5 w6 := Kept.new hw6
              have k3 : Kept (fun j => j = p ∨ j = w1.heap.size ∨ wb.heap.size ≤ j) w6 w7 := hk7.weaken (fun k _ h => .inr (.inr (hib k h)))
              have k4 : Kept (fun j => j = p ∨ j = w1.heap.size ∨ wb.heap.size ≤ j) w7 w8 := hw8.kept.weaken (fun k _ h => .inr (.inl h))
              exact hky.trans ((k1.trans k2 (fun _ _ h => h)).trans (k3.trans k4 (fun _ _ h => h)) (fun _ _ h => h)) (fun k hk h => by omega)
    · have hkp : ((0 : Int) < (k : Int)) = True := eq_true (by omega)
      cases hyb : y.bad with
      | true =>
        have hstop : k = 0 ∨ y.bad = true := .inr hyb
        rw [hyb] at fa
        simp -dsimp only [push_cast, Nat.reduceAdd, Nat.reduceLeDiff, Nat.reduceBEq, decide_true, ne_eq, eq_self, not_true_eq_false, not_false_eq_true, true_imp_iff, false_imp_iff, Int.reduceNe, Int.reduceEq, Int.reduceLT, Int.reduceLE, Bool.not_true, Bool.not_false, h4, hkp, fa, decide_true]
        have hdone := tlist_done (f := tset) (k := k) hstop hr1 hr2
        have hrs := hdone.1
        have hye := hdone.2
        subst hrs
        subst hye
        refine callK_of (tnum_c 2000 (tsets x).2 p wx (by omega) hBx) ?_
        rintro _ wb ⟨rfl, hwb⟩
        have szb := hwb.size
        have hmv2 := tnum_val 2000 (tsets x).2
        have hml2 := tnum_len 2000 (tsets x).2
        have hcb : Blk wb w1.heap.size 25 [sv.v, .slice none 0 0] := hcx.kept hwb.kept (by show ¬ w1.heap.size = p; omega)
        have hrb : Blk wb w.heap.size 25 [.slice none 0 0, .slice none 0 0] := hrx.kept hwb.kept (by show ¬ w.heap.size = p; omega)
        have hpo : ∀ g, sv.v.ownBlock = some g → ¬ g = p := fun g hg h => by have := (hox.block g hg).1; omega
        have hob := hox.keptX hwb.kept hpo
        have helb : ∀ (j : Nat) (s : List Rg), (tsets x).1[j]? = some s → ∃ u, svs[j]? = some u ∧ Sl (fun j => j < w2.heap.size ∨ sv.v.ownBlock = some j) 2 (En encR) wb u.v s := fun j s hj => by
          obtain ⟨u, h1, h2⟩ := hel j s hj
          exact ⟨u, h1, Sl.kept h2 hwb.kept (fun k hk => .inl (by subst hk; omega))⟩
        simp -dsimp only [push_cast, Nat.reduceAdd, Nat.reduceLeDiff, Nat.reduceBEq, decide_true]
        refine wpL_loop [8, 9, 10, 54, 55, 56, 57, 58, 59, 60, 61, 62, 63, 64, 65, 66, 67, 68, 69, 70, 71, 72, 73, 74, 75, 76, 77, 78] (fun z' wy => ∃ (m : Nat) (y2 : St) (ins : List I3) (iv : SV), z' 8 = .int .i64 m ∧ y2.s.length ≤ x.s.length ∧ ins ++ (tlist tins m y2).1 = (tinss (tsets x).2).1 ∧ (tlist tins m y2).2 = (tinss (tsets x).2).2 ∧
          rdT wy p y2 ∧ Blk wy w1.heap.size 25 [sv.v, iv.v] ∧ Blk wy w.heap.size 25 [.slice none 0 0, .slice none 0 0] ∧ Own wb.heap.size 37 3 encIn wy iv.v ins ∧ ins.length + m = (tnum 2000 (tsets x).2).1 ∧ Kept (fun j => j = p ∨ j = w1.heap.size) wb wy) (fun z' _ => (intOf (z' 8)).toNat) ?_ ?_
        · exact ⟨(tnum 2000 (tsets x).2).1, (tnum 2000 (tsets x).2).2, [], ⟨none, 0, 0⟩, rfl, by omega, rfl, rfl, hwb.blk, hcb, hrb, Own.nil (enc := encIn) _ _ (fun _ => rfl) _, by simp, Kept.refl _ _⟩
        · intro z' wy hI
          obtain ⟨m, y2, ins, iv, h8, hy2, hq1, hq2, hBy, hcy, hry, hoy, hil, hky⟩ := hI
          have szy := hky.size
          have hBy' : Blk wy p 114 [str y2.s, .bool y2.bad] := hBy
          have fb : wy.cell? ⟨p, 1, none⟩ = some (.bool y2.bad) := hBy'.cell rfl
          have cc : cellsAt wy ⟨w1.heap.size, 0, none⟩ 0 2 = some [sv.v, iv.v] := hcy.cellsAt
          rcases Nat.eq_zero_or_pos m with hm0 | hm0
          · have h8' : z' 8 = .int .i64 0 := by rw [h8, hm0]; rfl
            have hstop2 : m = 0 ∨ y2.bad = true := .inl hm0
            simp -dsimp only [push_cast, Nat.reduceAdd, Nat.reduceLeDiff, Nat.reduceBEq, decide_true, ne_eq, eq_self, not_true_eq_false, not_false_eq_true, true_imp_iff, false_imp_iff, Int.reduceNe, Int.reduceEq, Int.reduceLT, Int.reduceLE, Bool.not_true, Bool.not_false, h8', cc]
            have hdone := tlist_done (f := tins) (k := m) hstop2 hq1 hq2
            have hrs := hdone.1
            have hye := hdone.2
            subst hrs
            subst hye
            refine storeAgg (n := 2) (by kernel_rfl) hry rfl (by simp) (by simp [SV.v, Value.oneCell']) ?_
            intro w9 hw9
            have c9 : cellsAt w9 ⟨w.heap.size, 0, none⟩ 0 2 = some [sv.v, iv.v] := hw9.blk.cellsAt
            simp -dsimp only [push_cast, Nat.reduceAdd, Nat.reduceLeDiff, Nat.reduceBEq, decide_true, c9]
            have sz9 := hw9.size
            have kb : Kept (fun j => j = p ∨ j = w1.heap.size ∨ j = w.heap.size) wb w9 := (hky.weaken (fun _ _ h => by omega)).trans hw9.kept (fun _ _ h => .inr (.inr h))
            have hXk : ∀ j, (j = p ∨ j = w1.heap.size ∨ j = w.heap.size) → j < w2.heap.size ∨ sv.v.ownBlock = some j := fun j h => .inl (by omega)
            refine ⟨⟨sv.v, iv.v, rfl, ?_, ?_⟩, Blk.kept (e := 114) hBy hw9.kept (by omega), ?_⟩
            · have hos : Own w2.heap.size 76 1 encSV w9 sv.v svs := hob.keptX kb (fun g hg h => by
                have := (hox.block g hg).1
                omega)
              refine Sl.narrow (ownRead (R := SetR (fun j => j < w2.heap.size) w9) hos hlen (fun j s hj => ?_)) (by omega) (fun cs s h => ?_) (fun b _ hb => by omega)
              · obtain ⟨u, h1, h2⟩ := helb j s hj
                exact ⟨u, h1, u.v, rfl, (Sl.kept h2 kb hXk).weaken (fun b hb => .inl hb)⟩
              · obtain ⟨u, rfl, h⟩ := h
                exact ⟨u, rfl, h.weaken (fun b hb => by omega)⟩
            · have hoi := hoy.keptX hw9.kept (fun g hg h => by have := (hoy.block g hg).1; omega)
              exact hoi.sl.weaken (fun b hb => by omega)
            · exact (hkx.trans hwb.kept (fun _ _ h => h)).trans kb (fun k hk h => by omega)
          · have hmp : ((0 : Int) < (m : Int)) = True := eq_true (by omega)
            cases hyb2 : y2.bad with
            | true =>
              have hstop2 : m = 0 ∨ y2.bad = true := .inr hyb2
              rw [hyb2] at fb
              simp -dsimp only [push_cast, Nat.reduceAdd, Nat.reduceLeDiff, Nat.reduceBEq, decide_true, ne_eq, eq_self, not_true_eq_false, not_false_eq_true, true_imp_iff, false_imp_iff, Int.reduceNe, Int.reduceEq, Int.reduceLT, Int.reduceLE, Bool.not_true, Bool.not_false, h8, hmp, fb, cc, decide_true]
              have hdone := tlist_done (f := tins) (k := m) hstop2 hq1 hq2
              have hrs := hdone.1
              have hye := hdone.2
              subst hrs
              subst hye
              refine storeAgg (n := 2) (by kernel_rfl) hry rfl (by simp) (by simp [SV.v, Value.oneCell']) ?_
              intro w9 hw9
              have c9 : cellsAt w9 ⟨w.heap.size, 0, none⟩ 0 2 = some [sv.v, iv.v] := hw9.blk.cellsAt
              simp -dsimp only [push_cast, Nat.reduceAdd, Nat.reduceLeDiff, Nat.reduceBEq, decide_true, c9]
              have sz9 := hw9.size
              have kb : Kept (fun j => j = p ∨ j = w1.heap.size ∨ j = w.heap.size) wb w9 := (hky.weaken (fun _ _ h => by omega)).trans hw9.kept (fun _ _ h => .inr (.inr h))
              have hXk : ∀ j, (j = p ∨ j = w1.heap.size ∨ j = w.heap.size) → j < w2.heap.size ∨ sv.v.ownBlock = some j := fun j h => .inl (by omega)
              refine ⟨⟨sv.v, iv.v, rfl, ?_, ?_⟩, Blk.kept (e := 114) hBy hw9.kept (by omega), ?_⟩
              · have hos : Own w2.heap.size 76 1 encSV w9 sv.v svs := hob.keptX kb (fun g hg h => by
                  have := (hox.block g hg).1
                  omega)
                refine Sl.narrow (ownRead (R := SetR (fun j => j < w2.heap.size) w9) hos hlen (fun j s hj => ?_)) (by omega) (fun cs s h => ?_) (fun b _ hb => by omega)
                · obtain ⟨u, h1, h2⟩ := helb j s hj
                  exact ⟨u, h1, u.v, rfl, (Sl.kept h2 kb hXk).weaken (fun b hb => .inl hb)⟩
                · obtain ⟨u, rfl, h⟩ := h
                  exact ⟨u, rfl, h.weaken (fun b hb => by omega)⟩
              · have hoi := hoy.keptX hw9.kept (fun g hg h => by have := (hoy.block g hg).1; omega)
                exact hoi.sl.weaken (fun b hb => by omega)
              · exact (hkx.trans hwb.kept (fun _ _ h => h)).trans kb (fun k hk h => by omega)
            | false =>
              rw [hyb2] at fb
              simp -dsimp only [push_cast, Nat.reduceAdd, Nat.reduceLeDiff, Nat.reduceBEq, decide_true, ne_eq, eq_self, not_true_eq_false, not_false_eq_true, true_imp_iff, false_imp_iff, Int.reduceNe, Int.reduceEq, Int.reduceLT, Int.reduceLE, Bool.not_true, Bool.not_false, h8, hmp, fb, decide_true]
              refine callK_of (tnum_c 9 y2 p wy (by omega) hBy) ?_
              rintro _ w3 ⟨rfl, hw3⟩
              have sz3 := hw3.size
              have hl3 := tnum_len 9 y2
              simp -dsimp only [push_cast, Nat.reduceAdd, Nat.reduceLeDiff, Nat.reduceBEq, decide_true, ne_eq, eq_self, not_true_eq_false, not_false_eq_true, true_imp_iff, false_imp_iff, Int.reduceNe, Int.reduceEq, Int.reduceLT, Int.reduceLE, Bool.not_true, Bool.not_false]
              refine callK_of (tnum_c 4194304 (tnum 9 y2).2 p w3 (by omega) hw3.blk) ?_
              rintro _ w4 ⟨rfl, hw4⟩
              have sz4 := hw4.size
              have hl4 := tnum_len 4194304 (tnum 9 y2).2
              have hc4 : Blk w4 w1.heap.size 25 [sv.v, iv.v] := (hcy.kept hw3.kept (by show ¬ w1.heap.size = p; omega)).kept hw4.kept (by show ¬ w1.heap.size = p; omega)
              have hr4 : Blk w4 w.heap.size 25 [.slice none 0 0, .slice none 0 0] := (hry.kept hw3.kept (by show ¬ w.heap.size = p; omega)).kept hw4.kept (by show ¬ w.heap.size = p; omega)
              simp -dsimp only [push_cast, Nat.reduceAdd, Nat.reduceLeDiff, Nat.reduceBEq, decide_true, ne_eq, eq_self, not_true_eq_false, not_false_eq_true, true_imp_iff, false_imp_iff, Int.reduceNe, Int.reduceEq, Int.reduceLT, Int.reduceLE, Bool.not_true, Bool.not_false]
              refine wpL_last (fun w' => Blk w' w1.heap.size 25 [sv.v, iv.v]) mixed (by kernel_rfl) (List.cons_ne_nil _ _) hc4.drew ?_
              have f1 : w4.drew.cell? ⟨w1.heap.size, 1, none⟩ = some iv.v := hc4.drew.cell rfl
              simp -dsimp only [push_cast, Nat.reduceAdd, Nat.reduceLeDiff, Nat.reduceBEq, decide_true, f1]
              refine ⟨fun w'' hC => by rw [hC.cell (o := 1) rfl]; exact rfl, ?_⟩
              have hB4 : rdT w4.drew p (tnum 4194304 (tnum 9 y2).2).2 := hw4.blk
              refine callK_of (tnum_c 4194304 (tnum 4194304 (tnum 9 y2).2).2 p w4.drew (by omega) hB4) ?_
              rintro _ w5 ⟨rfl, hw5⟩
              have sz5 : w5.heap.size = w4.heap.size := hw5.size
              have hl5 := tnum_len 4194304 (tnum 4194304 (tnum 9 y2).2).2
              have hc5 := hc4.drew.kept hw5.kept (by show ¬ w1.heap.size = p; omega)
              have hr5 := hr4.drew.kept hw5.kept (by show ¬ w.heap.size = p; omega)
              refine ⟨hc5, ?_⟩
              simp -dsimp only [push_cast, Nat.reduceAdd, Nat.reduceLeDiff, Nat.reduceBEq, decide_true]
              refine rowK elI_23 rfl rfl (by omega) ?_
              intro w6 hw6
              have sz6 := hw6.size
              have hc6 := hc5.kept (Kept.new hw6 (X := fun _ => False)) id
              have hr6 := hr5.kept (Kept.new hw6 (X := fun _ => False)) id
              refine ⟨hc6, ?_⟩
              simp -dsimp only [push_cast, Nat.reduceAdd, Nat.reduceLeDiff, Nat.reduceBEq, decide_true]
              have hib : ∀ g, iv.v.ownBlock = some g → wb.heap.size ≤ g := fun g hg => (hoy.block g hg).1
              have hip : ∀ g, iv.v.ownBlock = some g → ¬ g = p := fun g hg h => by have := hib g hg; omega
              have kd : Kept (· = p) w4 w4.drew := (Kept.refl _ _).drew
              have ho6 := ((((hoy.keptX hw3.kept hip).keptX hw4.kept hip).keptX kd hip).keptX hw5.kept hip).new hw6
              have hmb := tnum_val 2000 (tsets x).2
              refine appendK2 (base := wb.heap.size) [(tins y2).1] (enc := encIn) elI_23 ho6 rfl (fun j u hu => by simpa using hw6.cell hu) encIn_one (by simp only [List.length_cons, List.length_nil]; omega) (by omega) ?_
              intro v' w7 ho7 hgrow hne
              have hk7 : Kept (fun k => iv.v.ownBlock = some k) w6 w7 := Kept.grown hgrow (fun _ h => h)
              have hsh2 := ho7.slice
              obtain ⟨a', c', rfl⟩ := hsh2
              have hB7 : rdT w7 p (tins y2).2 := (hw5.blk.kept (Kept.new hw6 (X := fun _ => False)) id).kept hk7 (fun h => hip p h rfl)
              have hc7 := hc6.kept hk7 (fun h => by have := hib _ h; omega)
              have hr7 := hr6.kept hk7 (fun h => by have := hib _ h; omega)
              refine ⟨hc7, ?_⟩
              simp -dsimp only [push_cast, Nat.reduceAdd, Nat.reduceLeDiff, Nat.reduceBEq, decide_true]
              refine storeK_of hc7 (by simp) rfl ?_
              intro w8 hw8
              refine ⟨trivial, ?_⟩
              simp -dsimp only [push_cast, Nat.reduceAdd, Nat.reduceLeDiff, Nat.reduceBEq, decide_true]
              have sz7 := hk7.size
              have sz8 := hw8.size
              have hst := tlist_step (f := tins) hm0 hyb2 hq1 hq2
              have ek : (m : Int) - 1 = ((m - 1 : Nat) : Int) := by omega
              rw [ek]
              refine ⟨⟨by omega, by omega⟩, ⟨m - 1, (tins y2).2, ins ++ [(tins y2).1], ⟨a', (ins ++ [(tins y2).1]).length, c'⟩, rfl, ?_, hst.1, hst.2, Blk.kept (e := 114) hB7 hw8.kept (by omega), hw8.blk, hr7.kept hw8.kept (by show ¬ w.heap.size = w1.heap.size; omega), ho7.keptX hw8.kept (fun g hg h => ?_), by simp only [List.length_append, List.length_cons, List.length_nil]; omega, ?_⟩, by rw [h8]; simp only [intOf]; omega⟩
              · have := tshr_ins y2; omega
              · rcases hne g hg with h' | h'
                · have := hib g h'; omega
                · omega
              · have k1 : Kept (fun j => j = p ∨ j = w1.heap.size ∨ wb.heap.size ≤ j) wy w5 := ((hw3.kept.trans hw4.kept (fun _ _ h => h)).trans (kd.trans hw5.kept (fun _ _ h => h)) (fun _ _ h => h)).weaken (fun _ _ h => .inl h)
                have k2 : Kept (fun j => j = p ∨ j = w1.heap.size ∨ wb.heap.size ≤ j) w5 w6 := Kept.new hw6
                have k3 : Kept (fun j => j = p ∨ j = w1.heap.size ∨ wb.heap.size ≤ j) w6 w7 := hk7.weaken (fun k _ h => .inr (.inr (hib k h)))
                have k4 : Kept (fun j => j = p ∨ j = w1.heap.size ∨ wb.heap.size ≤ j) w7 w8 := hw8.kept.weaken (fun k _ h => .inr (.inl h))
                exact hky.trans ((k1.trans k2 (fun _ _ h => h)).trans (k3.trans k4 (fun _ _ h => h)) (fun _ _ h => h)) (fun k hk h => by omega)
      | false =>
        rw [hyb] at fa
        simp -dsimp only [push_cast, Nat.reduceAdd, Nat.reduceLeDiff, Nat.reduceBEq, decide_true, ne_eq, eq_self, not_true_eq_false, not_false_eq_true, true_imp_iff, false_imp_iff, Int.reduceNe, Int.reduceEq, Int.reduceLT, Int.reduceLE, Bool.not_true, Bool.not_false, h4, hkp, fa, decide_true]
        refine callK_of (tnum_c 4194304 y p wx (by omega) hBx) ?_
        rintro _ wa ⟨rfl, hwa⟩
        have sza := hwa.size
        have hya := tnum_len 4194304 y
        have hyv := tnum_val 4194304 y
        simp -dsimp only [push_cast, Nat.reduceAdd, Nat.reduceLeDiff, Nat.reduceBEq, decide_true, ne_eq, eq_self, not_true_eq_false, not_false_eq_true, true_imp_iff, false_imp_iff, Int.reduceNe, Int.reduceEq, Int.reduceLT, Int.reduceLE, Bool.not_true, Bool.not_false]
        refine wpL_loop [5, 6, 7, 26, 27, 28, 29, 30, 31, 32, 33, 34, 35, 36, 37, 38, 39, 40, 41, 42, 43, 44, 45] (fun z' wy => ∃ (m : Nat) (y2 : St) (rs : List Rg), z' 6 = .int .i64 m ∧ y2.s.length ≤ x.s.length ∧ rs ++ (tlist trange m y2).1 = (tset y).1 ∧ (tlist trange m y2).2 = (tset y).2 ∧
          rdT wy p y2 ∧ Own wa.heap.size 79 2 encR wy (z' 5) rs ∧ rs.length + m = (tnum 4194304 y).1 ∧ Kept (· = p) wa wy) (fun z' _ => (intOf (z' 6)).toNat) ?_ ?_
        · exact ⟨(tnum 4194304 y).1, (tnum 4194304 y).2, [], rfl, by omega, rfl, rfl, hwa.blk, Own.nil (enc := encR) _ _ (fun _ => rfl) _, by simp, Kept.refl _ _⟩
        · intro z' wy hI
          obtain ⟨m, y2, rs, h6, hy2, hq1, hq2, hBy, hoy, hrl, hky⟩ := hI
          have szy := hky.size
          have hBy' : Blk wy p 114 [str y2.s, .bool y2.bad] := hBy
          have fb : wy.cell? ⟨p, 1, none⟩ = some (.bool y2.bad) := hBy'.cell rfl
          have hkxy : Kept (· = p) wx wy := hwa.kept.trans hky (fun _ _ h => h)
          have hcy : Blk wy w1.heap.size 25 [sv.v, .slice none 0 0] := hcx.kept hkxy (by show ¬ w1.heap.size = p; omega)
          have cy0 : wy.cell? ⟨w1.heap.size, 0, none⟩ = some sv.v := hcy.cell rfl
          have hpo : ∀ g, sv.v.ownBlock = some g → ¬ g = p := fun g hg h => by have := (hox.block g hg).1; omega
          have hoxy := hox.keptX hkxy hpo
          rcases Nat.eq_zero_or_pos m with hm0 | hm0
          · have h6' : z' 6 = .int .i64 0 := by rw [h6, hm0]; rfl
            have hstop2 : m = 0 ∨ y2.bad = true := .inl hm0
            have hsh := hoy.slice
            obtain ⟨sa, sc, hz5⟩ := hsh
            rw [hz5] at hoy
            simp -dsimp only [push_cast, Nat.reduceAdd, Nat.reduceLeDiff, Nat.reduceBEq, decide_true, ne_eq, eq_self, not_true_eq_false, not_false_eq_true, true_imp_iff, false_imp_iff, Int.reduceNe, Int.reduceEq, Int.reduceLT, Int.reduceLE, Bool.not_true, Bool.not_false, h6', hz5, cy0]
            have hdone := tlist_done (f := trange) (k := m) hstop2 hq1 hq2
            have hrs := hdone.1
            have hy2e := hdone.2
            subst hrs
            subst hy2e
            refine rowK elI_22 rfl rfl (by omega) ?_
            intro wd hwd
            have szd := hwd.size
            simp -dsimp only [push_cast, Nat.reduceAdd, Nat.reduceLeDiff, Nat.reduceBEq, decide_true]
            have helx : ∀ (j : Nat) (s : List Rg), sets[j]? = some s → ∃ u, svs[j]? = some u ∧ Sl (fun j => j < w2.heap.size ∨ sv.v.ownBlock = some j) 2 (En encR) wy u.v s := fun j s hj => by
              obtain ⟨u, h1, h2⟩ := hel j s hj
              exact ⟨u, h1, Sl.kept h2 hkxy (fun k hk => .inl (by subst hk; omega))⟩
            have hnew : Sl (fun j => j < w2.heap.size ∨ sv.v.ownBlock = some j) 2 (En encR) wy (SV.v ⟨sa, (tset y).1.length, sc⟩) (tset y).1 := Sl.narrow hoy.sl (by omega) (fun _ _ h => h) (fun b _ hb => by
              rcases hb with hb | hb
              · omega
              · have := (hox.block b hb).2; omega)
            have hel2 := append_get (Pr := fun _ (u : SV) s => Sl (fun j => j < w2.heap.size ∨ sv.v.ownBlock = some j) 2 (En encR) wy u.v s) hlen helx hnew
            refine appendK2 (base := w2.heap.size) [(⟨sa, (tset y).1.length, sc⟩ : SV)] (enc := encSV) elI_22 (hoxy.new hwd) rfl (fun j u hu => by simpa using hwd.cell hu) encSV_one (by simp only [List.length_cons, List.length_nil]; omega) (by omega) ?_
            intro v' we hoe hgrow hne
            have hke : Kept (fun k => sv.v.ownBlock = some k) wd we := Kept.grown hgrow (fun _ h => h)
            have hsh2 := hoe.slice
            obtain ⟨a', c', rfl⟩ := hsh2
            have hBe : rdT we p (tset y).2 := (Blk.kept (e := 114) hBy (Kept.new hwd (X := fun _ => False)) id).kept hke (fun h => hpo p h rfl)
            have hto : ∀ g, sv.v.ownBlock = some g → w2.heap.size ≤ g := fun g hg => (hox.block g hg).1
            have hce : Blk we w1.heap.size 25 [sv.v, .slice none 0 0] := (hcy.kept (Kept.new hwd (X := fun _ => False)) id).kept hke (fun h => by have := hto _ h; omega)
            have hre : Blk we w.heap.size 25 [.slice none 0 0, .slice none 0 0] := ((hrx.kept hkxy (by show ¬ w.heap.size = p; omega)).kept (Kept.new hwd (X := fun _ => False)) id).kept hke (fun h => by have := hto _ h; omega)
            simp -dsimp only [push_cast, Nat.reduceAdd, Nat.reduceLeDiff, Nat.reduceBEq, decide_true]
            refine storeK_of hce (by simp) rfl ?_
            intro wf hwf
            have hnt : ∀ g, (Value.slice a' (svs ++ [(⟨sa, (tset y).1.length, sc⟩ : SV)]).length c').ownBlock = some g → ¬ g = w1.heap.size := fun g hg h => by
              rcases hne g hg with h' | h'
              · have := hto g h'; omega
              · omega
            simp -dsimp only [push_cast, Nat.reduceAdd, Nat.reduceLeDiff, Nat.reduceBEq, decide_true]
            have hst := tlist_step (f := tset) hk0 hyb hr1 hr2
            have szf := hwf.size
            have sze := hke.size
            have ek : (k : Int) - 1 = ((k - 1 : Nat) : Int) := by omega
            rw [ek]
            refine ⟨⟨by omega, by omega⟩, ⟨k - 1, (tset y).2, sets ++ [(tset y).1], svs ++ [(⟨sa, (tset y).1.length, sc⟩ : SV)], ⟨a', (svs ++ [(⟨sa, (tset y).1.length, sc⟩ : SV)]).length, c'⟩, rfl, ?_, hst.1, hst.2, Blk.kept (e := 114) hBe hwf.kept (by omega), hwf.blk, hre.kept hwf.kept (by show ¬ w.heap.size = w1.heap.size; omega), hoe.keptX hwf.kept hnt, by simp [hlen], by simp only [List.length_append, List.length_cons, List.length_nil]; omega, ?_, ?_, by omega⟩, by rw [h4]; simp only [intOf]; omega⟩
            · have := tshr_set y; omega
            · intro j s hj
              obtain ⟨u, h1, h2⟩ := hel2 j s hj
              refine ⟨u, h1, ?_⟩
              have h3 : Sl (fun j => (j < w2.heap.size ∨ sv.v.ownBlock = some j) ∨ (Value.slice a' (svs ++ [(⟨sa, (tset y).1.length, sc⟩ : SV)]).length c').ownBlock = some j) 2 (En encR) wd u.v s :=
                Sl.narrow (Sl.kept h2 (Kept.new hwd (X := fun _ => False)) (fun _ h => h.elim)) (by omega) (fun _ _ h => h) (fun b hb hh => by
                  rcases hh with hh | hh
                  · exact hh
                  · rcases hne b hh with h' | h'
                    · exact .inr h'
                    · omega)
              have h4 := Sl.kept h3 hke (fun k hk => .inl (.inr hk))
              have h5 := Sl.kept h4 hwf.kept (fun k hk => .inl (.inl (by omega)))
              exact h5.weaken (fun b hb => by
                rcases hb with hb | hb
                · exact .inl (.inl hb)
                · exact .inr hb)
            · have k1 : Kept (fun k => w.heap.size ≤ k) wy wd := Kept.new hwd
              have k2 : Kept (fun k => w.heap.size ≤ k) wd we := hke.weaken (fun k _ h => by have := hto k h; omega)
              have k3 : Kept (fun k => w.heap.size ≤ k) we wf := hwf.kept.weaken (fun k _ h => by omega)
              exact (hkx.trans hkxy (fun _ _ h => h)).trans ((k1.trans k2 (fun _ _ h => h)).trans k3 (fun _ _ h => h)) (fun k hk h => by omega)
          · have hmp : ((0 : Int) < (m : Int)) = True := eq_true (by omega)
            cases hyb2 : y2.bad with
            | true =>
              have hstop2 : m = 0 ∨ y2.bad = true := .inr hyb2
              have hsh := hoy.slice
              obtain ⟨sa, sc, hz5⟩ := hsh
              rw [hz5] at hoy
              rw [hyb2] at fb
              simp -dsimp only [push_cast, Nat.reduceAdd, Nat.reduceLeDiff, Nat.reduceBEq, decide_true, ne_eq, eq_self, not_true_eq_false, not_false_eq_true, true_imp_iff, false_imp_iff, Int.reduceNe, Int.reduceEq, Int.reduceLT, Int.reduceLE, Bool.not_true, Bool.not_false, h6, hmp, fb, hz5, cy0, decide_true]
              have hdone := tlist_done (f := trange) (k := m) hstop2 hq1 hq2
              have hrs := hdone.1
              have hy2e := hdone.2
              subst hrs
              subst hy2e
              refine rowK elI_22 rfl rfl (by omega) ?_
              intro wd hwd
              have szd := hwd.size
              simp -dsimp only [push_cast, Nat.reduceAdd, Nat.reduceLeDiff, Nat.reduceBEq, decide_true]
              have helx : ∀ (j : Nat) (s : List Rg), sets[j]? = some s → ∃ u, svs[j]? = some u ∧ Sl (fun j => j < w2.heap.size ∨ sv.v.ownBlock = some j) 2 (En encR) wy u.v s := fun j s hj => by
                obtain ⟨u, h1, h2⟩ := hel j s hj
                exact ⟨u, h1, Sl.kept h2 hkxy (fun k hk => .inl (by subst hk; omega))⟩
              have hnew : Sl (fun j => j < w2.heap.size ∨ sv.v.ownBlock = some j) 2 (En encR) wy (SV.v ⟨sa, (tset y).1.length, sc⟩) (tset y).1 := Sl.narrow hoy.sl (by omega) (fun _ _ h => h) (fun b _ hb => by
                rcases hb with hb | hb
                · omega
                · have := (hox.block b hb).2; omega)
              have hel2 := append_get (Pr := fun _ (u : SV) s => Sl (fun j => j < w2.heap.size ∨ sv.v.ownBlock = some j) 2 (En encR) wy u.v s) hlen helx hnew
              refine appendK2 (base := w2.heap.size) [(⟨sa, (tset y).1.length, sc⟩ : SV)] (enc := encSV) elI_22 (hoxy.new hwd) rfl (fun j u hu => by simpa using hwd.cell hu) encSV_one (by simp only [List.length_cons, List.length_nil]; omega) (by omega) ?_
              intro v' we hoe hgrow hne
              have hke : Kept (fun k => sv.v.ownBlock = some k) wd we := Kept.grown hgrow (fun _ h => h)
              have hsh2 := hoe.slice
              obtain ⟨a', c', rfl⟩ := hsh2
              have hBe : rdT we p (tset y).2 := (Blk.kept (e := 114) hBy (Kept.new hwd (X := fun _ => False)) id).kept hke (fun h => hpo p h rfl)
              have hto : ∀ g, sv.v.ownBlock = some g → w2.heap.size ≤ g := fun g hg => (hox.block g hg).1
              have hce : Blk we w1.heap.size 25 [sv.v, .slice none 0 0] := (hcy.kept (Kept.new hwd (X := fun _ => False)) id).kept hke (fun h => by have := hto _ h; omega)
              have hre : Blk we w.heap.size 25 [.slice none 0 0, .slice none 0 0] := ((hrx.kept hkxy (by show ¬ w.heap.size = p; omega)).kept (Kept.new hwd (X := fun _ => False)) id).kept hke (fun h => by have := hto _ h; omega)
              simp -dsimp only [push_cast, Nat.reduceAdd, Nat.reduceLeDiff, Nat.reduceBEq, decide_true]
              refine storeK_of hce (by simp) rfl ?_
              intro wf hwf
              have hnt : ∀ g, (Value.slice a' (svs ++ [(⟨sa, (tset y).1.length, sc⟩ : SV)]).length c').ownBlock = some g → ¬ g = w1.heap.size := fun g hg h => by
                rcases hne g hg with h' | h'
                · have := hto g h'; omega
                · omega
              simp -dsimp only [push_cast, Nat.reduceAdd, Nat.reduceLeDiff, Nat.reduceBEq, decide_true]
              have hst := tlist_step (f := tset) hk0 hyb hr1 hr2
              have szf := hwf.size
              have sze := hke.size
              have ek : (k : Int) - 1 = ((k - 1 : Nat) : Int) := by omega
              rw [ek]
              refine ⟨⟨by omega, by omega⟩, ⟨k - 1, (tset y).2, sets ++ [(tset y).1], svs ++ [(⟨sa, (tset y).1.length, sc⟩ : SV)], ⟨a', (svs ++ [(⟨sa, (tset y).1.length, sc⟩ : SV)]).length, c'⟩, rfl, ?_, hst.1, hst.2, Blk.kept (e := 114) hBe hwf.kept (by omega), hwf.blk, hre.kept hwf.kept (by show ¬ w.heap.size = w1.heap.size; omega), hoe.keptX hwf.kept hnt, by simp [hlen], by simp only [List.length_append, List.length_cons, List.length_nil]; omega, ?_, ?_, by omega⟩, by rw [h4]; simp only [intOf]; omega⟩
              · have := tshr_set y; omega
              · intro j s hj
                obtain ⟨u, h1, h2⟩ := hel2 j s hj
                refine ⟨u, h1, ?_⟩
                have h3 : Sl (fun j => (j < w2.heap.size ∨ sv.v.ownBlock = some j) ∨ (Value.slice a' (svs ++ [(⟨sa, (tset y).1.length, sc⟩ : SV)]).length c').ownBlock = some j) 2 (En encR) wd u.v s :=
                  Sl.narrow (Sl.kept h2 (Kept.new hwd (X := fun _ => False)) (fun _ h => h.elim)) (by omega) (fun _ _ h => h) (fun b hb hh => by
                    rcases hh with hh | hh
                    · exact hh
                    · rcases hne b hh with h' | h'
                      · exact .inr h'
                      · omega)
                have h4 := Sl.kept h3 hke (fun k hk => .inl (.inr hk))
                have h5 := Sl.kept h4 hwf.kept (fun k hk => .inl (.inl (by omega)))
                exact h5.weaken (fun b hb => by
                  rcases hb with hb | hb
                  · exact .inl (.inl hb)
                  · exact .inr hb)
              · have k1 : Kept (fun k => w.heap.size ≤ k) wy wd := Kept.new hwd
                have k2 : Kept (fun k => w.heap.size ≤ k) wd we := hke.weaken (fun k _ h => by have := hto k h; omega)
                have k3 : Kept (fun k => w.heap.size ≤ k) we wf := hwf.kept.weaken (fun k _ h => by omega)
                exact (hkx.trans hkxy (fun _ _ h => h)).trans ((k1.trans k2 (fun _ _ h => h)).trans k3 (fun _ _ h => h)) (fun k hk h => by omega)
            | false =>
              rw [hyb2] at fb
              simp -dsimp only [push_cast, Nat.reduceAdd, Nat.reduceLeDiff, Nat.reduceBEq, decide_true, ne_eq, eq_self, not_true_eq_false, not_false_eq_true, true_imp_iff, false_imp_iff, Int.reduceNe, Int.reduceEq, Int.reduceLT, Int.reduceLE, Bool.not_true, Bool.not_false, h6, hmp, fb, decide_true]
              refine callK_of (tnum_c 4194304 y2 p wy (by omega) hBy) ?_
              rintro _ wb ⟨rfl, hwb⟩
              have szb := hwb.size
              have hlb := tnum_len 4194304 y2
              simp -dsimp only [push_cast, Nat.reduceAdd, Nat.reduceLeDiff, Nat.reduceBEq, decide_true, ne_eq, eq_self, not_true_eq_false, not_false_eq_true, true_imp_iff, false_imp_iff, Int.reduceNe, Int.reduceEq, Int.reduceLT, Int.reduceLE, Bool.not_true, Bool.not_false]
              refine callK_of (tnum_c 4194304 (tnum 4194304 y2).2 p wb (by omega) hwb.blk) ?_
              rintro _ wc ⟨rfl, hwc⟩
              have szc := hwc.size
              have hlc := tnum_len 4194304 (tnum 4194304 y2).2
              simp -dsimp only [push_cast, Nat.reduceAdd, Nat.reduceLeDiff, Nat.reduceBEq, decide_true, ne_eq, eq_self, not_true_eq_false, not_false_eq_true, true_imp_iff, false_imp_iff, Int.reduceNe, Int.reduceEq, Int.reduceLT, Int.reduceLE, Bool.not_true, Bool.not_false]
              refine rowK elI_76 rfl rfl (by omega) ?_
              intro wd hwd
              have szd := hwd.size
              simp -dsimp only [push_cast, Nat.reduceAdd, Nat.reduceLeDiff, Nat.reduceBEq, decide_true]
              have hpo2 : ∀ g, (z' 5).ownBlock = some g → ¬ g = p := fun g hg h => by have := (hoy.block g hg).1; omega
              have hod := ((hoy.keptX hwb.kept hpo2).keptX hwc.kept hpo2).new hwd
              refine appendK2 (base := wa.heap.size) [(trange y2).1] (enc := encR) elI_76 hod rfl (fun j u hu => by simpa using hwd.cell hu) encR_one (by simp only [List.length_cons, List.length_nil]; omega) (by omega) ?_
              intro v' we hoe hge hne
              have hke : Kept (fun k => (z' 5).ownBlock = some k) wd we := Kept.grown hge (fun _ h => h)
              have hBe : rdT we p (trange y2).2 := (hwc.blk.kept (Kept.new hwd (X := fun _ => False)) id).kept hke (fun h => hpo2 p h rfl)
              simp -dsimp only [push_cast, Nat.reduceAdd, Nat.reduceLeDiff, Nat.reduceBEq, decide_true]
              have hst := tlist_step (f := trange) hm0 hyb2 hq1 hq2
              have ek : (m : Int) - 1 = ((m - 1 : Nat) : Int) := by omega
              rw [ek]
              refine ⟨⟨by omega, by omega⟩, ⟨m - 1, (trange y2).2, rs ++ [(trange y2).1], rfl, ?_, hst.1, hst.2, hBe, hoe, by simp only [List.length_append, List.length_cons, List.length_nil]; omega, ?_⟩, by rw [h6]; simp only [intOf]; omega⟩
              · have := tshr_range y2; omega
              · refine (hky.trans (hwb.kept.trans hwc.kept (fun _ _ h => h)) (fun _ _ h => h)).trans ((Kept.new hwd (X := fun k => (z' 5).ownBlock = some k)).trans hke (fun _ _ h => h)) (fun k hk h => ?_)
                have := (hoy.block k h).1; omega
end Go.Proofs.YtimjpijbcnjaaaaDoor
