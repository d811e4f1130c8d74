import Derived.Test.YtimjpijbcnjaaaaDoorImg4
namespace Go.Proofs.YtimjpijbcnjaaaaDoor
open Go.Vc Go.Proofs Go.RowKit Cae
set_option maxRecDepth 100000
set_option linter.unusedSimpArgs false
set_option linter.unusedVariables false
attribute [local irreducible] wpL callK valK unitK runK Fun Sl Own vc vcOps opK pureK
set_option maxHeartbeats 4000000

/-- A slice, as a value that a cell holds. -/
structure SV where
  a : Option Addr
  n : Nat
  c : Nat
def SV.v (s : SV) : Value := .slice s.a s.n s.c
def encSV (s : SV) : List Value := [s.v]
theorem encSV_one : ∀ x, ∀ u ∈ encSV x, u.oneCell' = true := by simp [encSV, SV.v, Value.oneCell']
theorem encR_one : ∀ x, ∀ u ∈ encR x, u.oneCell' = true := by simp [encR, Value.oneCell']
theorem encIn_one : ∀ x, ∀ u ∈ encIn x, u.oneCell' = true := by simp [encIn, Value.oneCell']

/-- What is owned, read with what its elements lead to. -/
theorem ownRead {α β : Type} {base k : Nat} {e : TypeId} {enc : α → List Value} {R : List Value → β → Prop} {w : World} {v : Value} {us : List α} {l : List β} (h : Own base e k enc w v us) (hl : us.length = l.length)
    (hR : ∀ (i : Nat) (x : β), l[i]? = some x → ∃ u, us[i]? = some u ∧ R (enc u) x) : Sl (· < base) k R w v l := by
  have hs := h.sl
  unfold Sl at hs ⊢
  obtain ⟨a, c, he, hc, hh⟩ := hs
  refine ⟨a, c, by rw [he, hl], by omega, fun i x hx => ?_⟩
  obtain ⟨u, hu, hr⟩ := hR i x hx
  obtain ⟨b, o, cs, ha, hb, hcs, hcell, rfl⟩ := hh i u hu
  exact ⟨b, o, _, ha, hb, hcs, hcell, hr⟩
theorem append_get {α β : Type} {Pr : Nat → α → β → Prop} {us : List α} {l : List β} {u : α} {x : β} (hl : us.length = l.length) (h : ∀ (i : Nat) (y : β), l[i]? = some y → ∃ v, us[i]? = some v ∧ Pr i v y) (hx : Pr l.length u x) :
    ∀ (i : Nat) (y : β), (l ++ [x])[i]? = some y → ∃ v, (us ++ [u])[i]? = some v ∧ Pr i v y := by
  intro i y hy
  rcases Nat.lt_trichotomy i l.length with hlt | heq | hgt
  · rw [List.getElem?_append_left hlt] at hy
    obtain ⟨v, h1, h2⟩ := h i y hy
    exact ⟨v, by rw [List.getElem?_append_left (by omega)]; exact h1, h2⟩
  · subst heq
    rw [List.getElem?_append_right (Nat.le_refl _), Nat.sub_self] at hy
    simp at hy; subst hy
    exact ⟨u, by rw [List.getElem?_append_right (by omega), hl, Nat.sub_self]; rfl, hx⟩
  · rw [List.getElem?_eq_none (by simp; omega)] at hy; cases hy

def Shr {α : Type} (f : St → α × St) : Prop := ∀ x, (f x).2.s.length ≤ x.s.length
theorem shr_num : Shr rnum := rnum_len
theorem shr_many : Shr rmany := rmany_len
theorem shr_list {α : Type} {f : St → α × St} (hf : Shr f) : ∀ n, Shr (rlist f n)
  | 0, x => Nat.le_refl _
  | n + 1, x => Nat.le_trans (shr_list hf n _) (hf x)
theorem shr_range : Shr rrange := fun x => Nat.le_trans (shr_num _) (shr_num x)
theorem shr_set : Shr rset := fun x => Nat.le_trans (shr_list shr_range _ _) (shr_many x)
theorem shr_sets : Shr rsets := fun x => Nat.le_trans (shr_list shr_set _ _) (shr_many x)
theorem shr_ins : Shr rins := fun x => Nat.le_trans (shr_num _) (Nat.le_trans (shr_num _) (shr_num x))
theorem shr_inss : Shr rinss := fun x => Nat.le_trans (shr_list shr_ins _ _) (shr_many x)
theorem shr_code : Shr rcode := fun x => Nat.le_trans (shr_inss _) (shr_sets x)
theorem rlist_step {α : Type} {f : St → α × St} {n i : Nat} {y : St} {acc all : List α} {z : St} (hi : i < n) (h1 : acc ++ (rlist f (n - i) y).1 = all) (h2 : (rlist f (n - i) y).2 = z) :
    (acc ++ [(f y).1]) ++ (rlist f (n - (i + 1)) (f y).2).1 = all ∧ (rlist f (n - (i + 1)) (f y).2).2 = z := by
  rw [show n - i = (n - (i + 1)) + 1 by omega] at h1 h2
  simp only [rlist] at h1 h2
  exact ⟨by rw [← h1]; simp, h2⟩
theorem rlist_done {α : Type} {f : St → α × St} {n i : Nat} {y : St} {acc all : List α} {z : St} (hi : n ≤ i) (h1 : acc ++ (rlist f (n - i) y).1 = all) (h2 : (rlist f (n - i) y).2 = z) : acc = all ∧ y = z := by
  rw [show n - i = 0 by omega] at h1 h2
  simp only [rlist, List.append_nil] at h1 h2
  exact ⟨h1, h2⟩

theorem rcode_c (x : St) (p : Nat) (w : World) (hs : x.s.length < 1000000000) (hB : rdB w p x) :
    Fun Tryd.prog 76 [.pointer (some ⟨p, 0, none⟩)] w fun r w' => CodeV (fun j => j < w.heap.size) w' r (rcode x).1 ∧ rdB w' p (rcode x).2 ∧ Kept (· = p) w w' := by
  have hpl : p < w.heap.size := Blk.lt (e := 119) (cs := [str x.s, .bool x.bad]) hB
  refine fun_of_vcC Tryd.func76 rfl (by kernel_rfl) [.cell 2 25] rfl ?_
  simp -dsimp only [push_cast, fr0, Tryd.ntmps76, List.length_cons, List.length_nil, Nat.reduceAdd, Nat.reduceSub, Nat.reduceBEq, List.replicate_succ, List.replicate_zero]
  refine allocK (z := [.slice none 0 0, .slice none 0 0]) (by kernel_rfl) ?_
  intro w1 hw1
  have hB1 : rdB w1 p x := Blk.kept (e := 119) hB (Kept.new hw1 (X := fun _ => False)) id
  simp -dsimp only [push_cast, Nat.reduceAdd, Nat.reduceLeDiff, Nat.reduceBEq, decide_true]
  refine callK_of (rmany_c x p w1 hs hB1) ?_
  rintro _ w2 ⟨rfl, hw2⟩
  have sz1 := hw1.size
  have sz2 := hw2.size
  have hc2 : Blk w2 w.heap.size 25 [.slice none 0 0, .slice none 0 0] := hw1.blk.kept hw2.kept (by show ¬ w.heap.size = p; omega)
  have hk2 : Kept (· = p) w w2 := (Kept.new hw1).trans hw2.kept (fun _ _ h => h)
  have hmv := rmany_val x
  have hml := rmany_len x
  simp -dsimp only [push_cast, Nat.reduceAdd, Nat.reduceLeDiff, Nat.reduceBEq, decide_true]
  refine wpL_loop [3, 6, 7, 8, 9, 10, 11, 12, 13, 14, 15, 16, 17, 18, 19, 20, 21, 22, 23, 24, 25, 26, 27] (fun z wx => ∃ (i : Nat) (y : St) (sets : List (List Rg)) (svs : List SV) (sv : SV),
    z 6 = .int .i64 i ∧ i ≤ (rmany x).1 ∧ y.s.length ≤ x.s.length ∧ sets ++ (rlist rset ((rmany x).1 - i) y).1 = (rsets x).1 ∧ (rlist rset ((rmany x).1 - i) y).2 = (rsets x).2 ∧
    rdB wx p y ∧ Blk wx w.heap.size 25 [sv.v, .slice none 0 0] ∧ Own w1.heap.size 76 1 encSV wx sv.v svs ∧ svs.length = sets.length ∧ sets.length = i ∧
    (∀ (j : Nat) (s : List Rg), sets[j]? = some s → ∃ u, svs[j]? = some u ∧ Sl (fun j => j < w1.heap.size ∨ sv.v.ownBlock = some j) 2 (En encR) wx u.v s) ∧ Kept (· = p) w wx ∧ w1.heap.size ≤ wx.heap.size) (fun z _ => (rmany x).1 - (intOf (z 6)).toNat) ?_ ?_
  · exact ⟨0, (rmany x).2, [], [], ⟨none, 0, 0⟩, rfl, Nat.zero_le _, hml, rfl, rfl, hw2.blk, hc2, Own.nil (enc := encSV) _ _ (fun _ => rfl) _, rfl, rfl, by simp, hk2, by omega⟩
  · intro z wx hI
    obtain ⟨i, y, sets, svs, sv, h6, hi, hy, hr1, hr2, hBx, hcx, hox, hlen, hsl, hel, hkx, hszx⟩ := hI
    simp -dsimp only [push_cast, Nat.reduceAdd, Nat.reduceLeDiff, Nat.reduceBEq, decide_true, h6]
    refine ⟨fun hlt => ?_, fun hge => ?_⟩
    · refine callK_of (rmany_c y p wx (by omega) hBx) ?_
      rintro _ wa ⟨rfl, hwa⟩
      have sza := hwa.size
      have hya := rmany_len y
      have hyv := rmany_val y
      simp -dsimp only [push_cast, Nat.reduceAdd, Nat.reduceLeDiff, Nat.reduceBEq, decide_true]
      refine wpL_loop [3, 10, 11, 12, 13, 14, 15, 16, 17, 18, 19, 20] (fun z' wy => ∃ (j : Nat) (y2 : St) (rs : List Rg), z' 10 = .int .i64 j ∧ j ≤ (rmany y).1 ∧ y2.s.length ≤ x.s.length ∧ rs ++ (rlist rrange ((rmany y).1 - j) y2).1 = (rset y).1 ∧ (rlist rrange ((rmany y).1 - j) y2).2 = (rset y).2 ∧
        rdB wy p y2 ∧ Own wa.heap.size 79 2 encR wy (z' 3) rs ∧ rs.length = j ∧ Kept (· = p) wa wy) (fun z' _ => (rmany y).1 - (intOf (z' 10)).toNat) ?_ ?_
      · exact ⟨0, (rmany y).2, [], rfl, Nat.zero_le _, by omega, rfl, rfl, hwa.blk, Own.nil (enc := encR) _ _ (fun _ => rfl) _, rfl, Kept.refl _ _⟩
      · intro z' wy hI
        obtain ⟨j, y2, rs, h10, hj, hy2, hq1, hq2, hBy, hoy, hrl, hky⟩ := hI
        have szy := hky.size
        simp -dsimp only [push_cast, Nat.reduceAdd, Nat.reduceLeDiff, Nat.reduceBEq, decide_true, h10]
        refine ⟨fun hlt2 => ?_, fun hge2 => ?_⟩
        · refine callK_of (rnum_c y2 p wy (by omega) hBy) ?_
          rintro _ wb ⟨rfl, hwb⟩
          have szb := hwb.size
          have hlb := rnum_len y2
          simp -dsimp only [push_cast, Nat.reduceAdd, Nat.reduceLeDiff, Nat.reduceBEq, decide_true]
          refine callK_of (rnum_c (rnum y2).2 p wb (by omega) hwb.blk) ?_
          rintro _ wc ⟨rfl, hwc⟩
          have szc := hwc.size
          have hlc := rnum_len (rnum y2).2
          simp -dsimp only [push_cast, Nat.reduceAdd, Nat.reduceLeDiff, Nat.reduceBEq, decide_true]
          refine rowK elI_76 rfl rfl (by omega) ?_
          intro wd hwd
          have szd := hwd.size
          simp -dsimp only [push_cast, Nat.reduceAdd, Nat.reduceLeDiff, Nat.reduceBEq, decide_true]
          have hpo : ∀ g, (z' 3).ownBlock = some g → ¬ g = p := fun g hg h => by have := (hoy.block g hg).1; omega
          have hod := ((hoy.keptX hwb.kept hpo).keptX hwc.kept hpo).new hwd
          refine appendK2 (base := wa.heap.size) [((rnum y2).1, (rnum (rnum y2).2).1)] (enc := encR) elI_76 hod rfl (fun j u hu => by simpa using hwd.cell hu) encR_one (by simp only [List.length_cons, List.length_nil]; omega) (by omega) ?_
          intro v' we hoe hge hne
          have hke : Kept (fun k => (z' 3).ownBlock = some k) wd we := Kept.grown hge (fun _ h => h)
          have hBe : rdB we p (rrange y2).2 := (hwc.blk.kept (Kept.new hwd (X := fun _ => False)) id).kept hke (fun h => hpo p h rfl)
          simp -dsimp only [push_cast, Nat.reduceAdd, Nat.reduceLeDiff, Nat.reduceBEq, decide_true]
          have hst := rlist_step (f := rrange) (i := j) (by omega) hq1 hq2
          refine ⟨⟨by omega, by omega⟩, ⟨j + 1, (rrange y2).2, rs ++ [(rrange y2).1], rfl, by omega, ?_, hst.1, hst.2, hBe, hoe, by simp [hrl], ?_⟩, by rw [h10]; simp only [intOf]; omega⟩
          · have := shr_range y2; omega
          · refine (hky.trans (hwb.kept.trans hwc.kept (fun _ _ h => h)) (fun _ _ h => h)).trans ((Kept.new hwd (X := fun k => (z' 3).ownBlock = some k)).trans hke (fun _ _ h => h)) (fun k hk h => ?_)
            have := (hoy.block k h).1; omega
        · have hdone := rlist_done (f := rrange) (i := j) (by omega) hq1 hq2
          have hrs := hdone.1
          have hy2e := hdone.2
          subst hrs
          subst hy2e
          have hsh := hoy.slice
          obtain ⟨sa, sc, hz3⟩ := hsh
          rw [hz3] at hoy
          have hkxy : Kept (· = p) wx wy := hwa.kept.trans hky (fun _ _ h => h)
          have hcy : Blk wy w.heap.size 25 [sv.v, .slice none 0 0] := hcx.kept hkxy (by show ¬ w.heap.size = p; omega)
          have cy0 : wy.cell? ⟨w.heap.size, 0, none⟩ = some sv.v := hcy.cell rfl
          have hpo : ∀ g, sv.v.ownBlock = some g → ¬ g = p := fun g hg h => by have := (hox.block g hg).1; omega
          have hoxy := hox.keptX hkxy hpo
          simp -dsimp only [push_cast, Nat.reduceAdd, Nat.reduceLeDiff, Nat.reduceBEq, decide_true, hz3, cy0]
          refine rowK elI_22 rfl rfl (by omega) ?_
          intro wd hwd
          have szd := hwd.size
          have szy := hky.size
          simp -dsimp only [push_cast, Nat.reduceAdd, Nat.reduceLeDiff, Nat.reduceBEq, decide_true]
          have helx : ∀ (j : Nat) (s : List Rg), sets[j]? = some s → ∃ u, svs[j]? = some u ∧ Sl (fun j => j < w1.heap.size ∨ sv.v.ownBlock = some j) 2 (En encR) wy u.v s := fun j s hj => by
            obtain ⟨u, h1, h2⟩ := hel j s hj
            exact ⟨u, h1, Sl.kept h2 hkxy (fun k hk => .inl (by subst hk; omega))⟩
          have hnew : Sl (fun j => j < w1.heap.size ∨ sv.v.ownBlock = some j) 2 (En encR) wy (SV.v ⟨sa, (rset y).1.length, sc⟩) (rset y).1 := Sl.narrow hoy.sl (by omega) (fun _ _ h => h) (fun b _ hb => by
            rcases hb with hb | hb
            · omega
            · have := (hox.block b hb).2; omega)
          have hel2 := append_get (Pr := fun _ (u : SV) s => Sl (fun j => j < w1.heap.size ∨ sv.v.ownBlock = some j) 2 (En encR) wy u.v s) hlen helx hnew
          refine appendK2 (base := w1.heap.size) [(⟨sa, (rset y).1.length, sc⟩ : SV)] (enc := encSV) elI_22 (hoxy.new hwd) rfl (fun j u hu => by simpa using hwd.cell hu) encSV_one (by simp only [List.length_cons, List.length_nil]; omega) (by omega) ?_
          intro v' we hoe hgrow hne
          have hke : Kept (fun k => sv.v.ownBlock = some k) wd we := Kept.grown hgrow (fun _ h => h)
          have hsh2 := hoe.slice
          obtain ⟨a', c', rfl⟩ := hsh2
          have hBe : rdB we p (rset y).2 := (Blk.kept (e := 119) hBy (Kept.new hwd (X := fun _ => False)) id).kept hke (fun h => hpo p h rfl)
          have hto : ∀ g, sv.v.ownBlock = some g → ¬ g = w.heap.size := fun g hg h => by have := (hox.block g hg).1; omega
          have hce : Blk we w.heap.size 25 [sv.v, .slice none 0 0] := (hcy.kept (Kept.new hwd (X := fun _ => False)) id).kept hke (fun h => hto _ h rfl)
          simp -dsimp only [push_cast, Nat.reduceAdd, Nat.reduceLeDiff, Nat.reduceBEq, decide_true]
          refine storeK_of hce (by simp) rfl ?_
          intro wf hwf
          have hnt : ∀ g, (Value.slice a' (svs ++ [(⟨sa, (rset y).1.length, sc⟩ : SV)]).length c').ownBlock = some g → ¬ g = w.heap.size := fun g hg h => by
            rcases hne g hg with h' | h'
            · exact hto g h' h
            · omega
          simp -dsimp only [push_cast, Nat.reduceAdd, Nat.reduceLeDiff, Nat.reduceBEq, decide_true]
          have hst := rlist_step (f := rset) (i := i) (by omega) hr1 hr2
          have szf := hwf.size
          have sze := hke.size
          refine ⟨⟨by omega, by omega⟩, ⟨i + 1, (rset y).2, sets ++ [(rset y).1], svs ++ [(⟨sa, (rset y).1.length, sc⟩ : SV)], ⟨a', (svs ++ [(⟨sa, (rset y).1.length, sc⟩ : SV)]).length, c'⟩, rfl, by omega, ?_, hst.1, hst.2, Blk.kept (e := 119) hBe hwf.kept (by omega), hwf.blk, hoe.keptX hwf.kept hnt, by simp [hlen], by simp [hsl], ?_, ?_, by omega⟩, by rw [h6]; simp only [intOf]; omega⟩
          · have := shr_set y; omega
          · intro j s hj
            obtain ⟨u, h1, h2⟩ := hel2 j s hj
            refine ⟨u, h1, ?_⟩
            have h3 : Sl (fun j => (j < w1.heap.size ∨ sv.v.ownBlock = some j) ∨ (Value.slice a' (svs ++ [(⟨sa, (rset y).1.length, sc⟩ : SV)]).length c').ownBlock = some j) 2 (En encR) wd u.v s :=
              Sl.narrow (Sl.kept h2 (Kept.new hwd (X := fun _ => False)) (fun _ h => h.elim)) (by omega) (fun _ _ h => h) (fun b hb hh => by
                rcases hh with hh | hh
                · exact hh
                · rcases hne b hh with h' | h'
                  · exact .inr h'
                  · omega)
            have h4 := Sl.kept h3 hke (fun k hk => .inl (.inr hk))
            have h5 := Sl.kept h4 hwf.kept (fun k hk => .inl (.inl (by omega)))
            exact h5.weaken (fun b hb => by
              rcases hb with hb | hb
              · exact .inl (.inl hb)
              · exact .inr hb)
          · have h1 : Kept (fun k => w.heap.size ≤ k) wy wd := Kept.new hwd
            have h2 : Kept (fun k => w.heap.size ≤ k) wd we := hke.weaken (fun k _ h => by have := (hox.block k h).1; omega)
            have h3 : Kept (fun k => w.heap.size ≤ k) we wf := hwf.kept.weaken (fun k _ h => by omega)
            exact (hkx.trans hkxy (fun _ _ h => h)).trans ((h1.trans h2 (fun _ _ h => h)).trans h3 (fun _ _ h => h)) (fun k hk h => by omega)
    · have hdone := rlist_done (f := rset) (i := i) (by omega) hr1 hr2
      have hrs := hdone.1
      have hye := hdone.2
      subst hrs
      subst hye
      refine callK_of (rmany_c (rsets x).2 p wx (by omega) hBx) ?_
      rintro _ wb ⟨rfl, hwb⟩
      have szb := hwb.size
      have hmv2 := rmany_val (rsets x).2
      have hml2 := rmany_len (rsets x).2
      have hcb : Blk wb w.heap.size 25 [sv.v, .slice none 0 0] := hcx.kept hwb.kept (by show ¬ w.heap.size = p; omega)
      have hpo : ∀ g, sv.v.ownBlock = some g → ¬ g = p := fun g hg h => by have := (hox.block g hg).1; omega
      have hob := hox.keptX hwb.kept hpo
      have helb : ∀ (j : Nat) (s : List Rg), (rsets x).1[j]? = some s → ∃ u, svs[j]? = some u ∧ Sl (fun j => j < w1.heap.size ∨ sv.v.ownBlock = some j) 2 (En encR) wb u.v s := fun j s hj => by
        obtain ⟨u, h1, h2⟩ := hel j s hj
        exact ⟨u, h1, Sl.kept h2 hwb.kept (fun k hk => .inl (by subst hk; omega))⟩
      simp -dsimp only [push_cast, Nat.reduceAdd, Nat.reduceLeDiff, Nat.reduceBEq, decide_true]
      refine wpL_loop [30, 31, 32, 33, 34, 35, 36, 37, 38, 39, 40, 41, 42, 43, 44] (fun z' wy => ∃ (i : Nat) (y2 : St) (ins : List I3) (iv : SV), z' 30 = .int .i64 i ∧ i ≤ (rmany (rsets x).2).1 ∧ y2.s.length ≤ x.s.length ∧ ins ++ (rlist rins ((rmany (rsets x).2).1 - i) y2).1 = (rinss (rsets x).2).1 ∧ (rlist rins ((rmany (rsets x).2).1 - i) y2).2 = (rinss (rsets x).2).2 ∧
        rdB wy p y2 ∧ Blk wy w.heap.size 25 [sv.v, iv.v] ∧ Own wb.heap.size 37 3 encIn wy iv.v ins ∧ ins.length = i ∧ Kept (fun j => j = p ∨ j = w.heap.size) wb wy) (fun z' _ => (rmany (rsets x).2).1 - (intOf (z' 30)).toNat) ?_ ?_
      · exact ⟨0, (rmany (rsets x).2).2, [], ⟨none, 0, 0⟩, rfl, Nat.zero_le _, by omega, rfl, rfl, hwb.blk, hcb, Own.nil (enc := encIn) _ _ (fun _ => rfl) _, rfl, Kept.refl _ _⟩
      · intro z' wy hI
        obtain ⟨i, y2, ins, iv, h30, hi2, hy2, hq1, hq2, hBy, hcy, hoy, hil, hky⟩ := hI
        have szy := hky.size
        simp -dsimp only [push_cast, Nat.reduceAdd, Nat.reduceLeDiff, Nat.reduceBEq, decide_true, h30]
        refine ⟨fun hlt2 => ?_, fun hge2 => ?_⟩
        · refine wpL_last (fun w' => Blk w' w.heap.size 25 [sv.v, iv.v]) mixed (by kernel_rfl) (List.cons_ne_nil _ _) hcy.drew ?_
          have f1 : wy.drew.cell? ⟨w.heap.size, 1, none⟩ = some iv.v := hcy.drew.cell rfl
          simp -dsimp only [push_cast, Nat.reduceAdd, Nat.reduceLeDiff, Nat.reduceBEq, decide_true, f1]
          refine ⟨fun w'' hC => by rw [hC.cell (o := 1) rfl]; exact rfl, ?_⟩
          refine callK_of (rnum_c y2 p wy.drew (by omega) hBy) ?_
          rintro _ w3 ⟨rfl, hw3⟩
          have sz3 : w3.heap.size = wy.heap.size := hw3.size
          have hl3 := rnum_len y2
          have hc3 := hcy.drew.kept hw3.kept (by show ¬ w.heap.size = p; omega)
          refine ⟨hc3, ?_⟩
          simp -dsimp only [push_cast, Nat.reduceAdd, Nat.reduceLeDiff, Nat.reduceBEq, decide_true]
          refine callK_of (rnum_c (rnum y2).2 p w3 (by omega) hw3.blk) ?_
          rintro _ w4 ⟨rfl, hw4⟩
          have sz4 := hw4.size
          have hl4 := rnum_len (rnum y2).2
          have hc4 := hc3.kept hw4.kept (by show ¬ w.heap.size = p; omega)
          refine ⟨hc4, ?_⟩
          simp -dsimp only [push_cast, Nat.reduceAdd, Nat.reduceLeDiff, Nat.reduceBEq, decide_true]
          refine callK_of (rnum_c (rnum (rnum y2).2).2 p w4 (by omega) hw4.blk) ?_
          rintro _ w5 ⟨rfl, hw5⟩
          have sz5 := hw5.size
          have hl5 := rnum_len (rnum (rnum y2).2).2
          have hc5 := hc4.kept hw5.kept (by show ¬ w.heap.size = p; omega)
          refine ⟨hc5, ?_⟩
          simp -dsimp only [push_cast, Nat.reduceAdd, Nat.reduceLeDiff, Nat.reduceBEq, decide_true]
          refine rowK elI_23 rfl rfl (by omega) ?_
          intro w6 hw6
          have sz6 := hw6.size
          have hc6 := hc5.kept (Kept.new hw6 (X := fun _ => False)) id
          refine ⟨hc6, ?_⟩
          simp -dsimp only [push_cast, Nat.reduceAdd, Nat.reduceLeDiff, Nat.reduceBEq, decide_true]
          have hip : ∀ g, iv.v.ownBlock = some g → ¬ g = p := fun g hg h => by have := (hoy.block g hg).1; omega
          have hit : ∀ g, iv.v.ownBlock = some g → ¬ g = w.heap.size := fun g hg h => by have := (hoy.block g hg).1; omega
          have kd : Kept (· = p) wy wy.drew := (Kept.refl _ _).drew
          have ho6 := ((((hoy.keptX kd hip).keptX hw3.kept hip).keptX hw4.kept hip).keptX hw5.kept hip).new hw6
          refine appendK2 (base := wb.heap.size) [(rins y2).1] (enc := encIn) elI_23 ho6 rfl (fun j u hu => by simpa using hw6.cell hu) encIn_one (by simp only [List.length_cons, List.length_nil]; omega) (by omega) ?_
          intro v' w7 ho7 hgrow hne
          have hk7 : Kept (fun k => iv.v.ownBlock = some k) w6 w7 := Kept.grown hgrow (fun _ h => h)
          have hsh2 := ho7.slice
          obtain ⟨a', c', rfl⟩ := hsh2
          have hB7 : rdB w7 p (rins y2).2 := (hw5.blk.kept (Kept.new hw6 (X := fun _ => False)) id).kept hk7 (fun h => hip p h rfl)
          have hc7 := hc6.kept hk7 (fun h => hit _ h rfl)
          refine ⟨hc7, ?_⟩
          simp -dsimp only [push_cast, Nat.reduceAdd, Nat.reduceLeDiff, Nat.reduceBEq, decide_true]
          refine storeK_of hc7 (by simp) rfl ?_
          intro w8 hw8
          refine ⟨trivial, ?_⟩
          simp -dsimp only [push_cast, Nat.reduceAdd, Nat.reduceLeDiff, Nat.reduceBEq, decide_true]
          have sz7 := hk7.size
          have sz8 := hw8.size
          have hst := rlist_step (f := rins) (i := i) (by omega) hq1 hq2
          refine ⟨⟨by omega, by omega⟩, ⟨i + 1, (rins y2).2, ins ++ [(rins y2).1], ⟨a', (ins ++ [(rins y2).1]).length, c'⟩, rfl, by omega, ?_, hst.1, hst.2, Blk.kept (e := 119) hB7 hw8.kept (by omega), hw8.blk, ho7.keptX hw8.kept (fun g hg h => ?_), by simp [hil], ?_⟩, by rw [h30]; simp only [intOf]; omega⟩
          · have := shr_ins y2; omega
          · rcases hne g hg with h' | h'
            · exact hit g h' h
            · omega
          · have k1 : Kept (fun j => j = p ∨ j = w.heap.size ∨ wb.heap.size ≤ j) wy w5 := (kd.trans (hw3.kept.trans (hw4.kept.trans hw5.kept (fun _ _ h => h)) (fun _ _ h => h)) (fun _ _ h => h)).weaken (fun _ _ h => .inl h)
            have k2 : Kept (fun j => j = p ∨ j = w.heap.size ∨ wb.heap.size ≤ j) w5 w6 := Kept.new hw6
            have k3 : Kept (fun j => j = p ∨ j = w.heap.size ∨ wb.heap.size ≤ j) w6 w7 := hk7.weaken (fun k _ h => .inr (.inr (hoy.block k h).1))
            have k4 : Kept (fun j => j = p ∨ j = w.heap.size ∨ wb.heap.size ≤ j) w7 w8 := hw8.kept.weaken (fun k _ h => .inr (.inl h))
            exact hky.trans ((k1.trans k2 (fun _ _ h => h)).trans (k3.trans k4 (fun _ _ h => h)) (fun _ _ h => h)) (fun k hk h => by omega)
        · have hdone := rlist_done (f := rins) (i := i) (by omega) hq1 hq2
          have hrs := hdone.1
          have hye := hdone.2
          subst hrs
          subst hye
          have cc : cellsAt wy ⟨w.heap.size, 0, none⟩ 0 2 = some [sv.v, iv.v] := hcy.cellsAt
          simp -dsimp only [push_cast, Nat.reduceAdd, Nat.reduceLeDiff, Nat.reduceBEq, decide_true, cc]
          refine storeAgg (n := 2) (by kernel_rfl) hcy rfl (by simp) (by simp [SV.v, Value.oneCell']) ?_
          intro w9 hw9
          have c9 : cellsAt w9 ⟨w.heap.size, 0, none⟩ 0 2 = some [sv.v, iv.v] := hw9.blk.cellsAt
          simp -dsimp only [push_cast, Nat.reduceAdd, Nat.reduceLeDiff, Nat.reduceBEq, decide_true, c9]
          have sz9 := hw9.size
          have kb : Kept (fun j => j = p ∨ j = w.heap.size) wb w9 := hky.trans hw9.kept (fun _ _ h => .inr h)
          have hXk : ∀ j, (j = p ∨ j = w.heap.size) → j < w1.heap.size ∨ sv.v.ownBlock = some j := fun j h => .inl (by omega)
          refine ⟨⟨sv.v, iv.v, rfl, ?_, ?_⟩, Blk.kept (e := 119) hBy hw9.kept (by omega), ?_⟩
          · have hos : Own w1.heap.size 76 1 encSV w9 sv.v svs := hob.keptX kb (fun g hg h => by
              have := (hox.block g hg).1
              omega)
            refine Sl.narrow (ownRead (R := SetR (fun j => j < w1.heap.size) w9) hos hlen (fun j s hj => ?_)) (by omega) (fun cs s h => ?_) (fun b _ hb => by omega)
            · obtain ⟨u, h1, h2⟩ := helb j s hj
              exact ⟨u, h1, u.v, rfl, (Sl.kept h2 kb hXk).weaken (fun b hb => .inl hb)⟩
            · obtain ⟨u, rfl, h⟩ := h
              exact ⟨u, rfl, h.weaken (fun b hb => by omega)⟩
          · have hoi := hoy.keptX hw9.kept (fun g hg h => by have := (hoy.block g hg).1; omega)
            exact hoi.sl.weaken (fun b hb => by omega)
          · exact (hkx.trans hwb.kept (fun _ _ h => h)).trans kb (fun k hk h => by omega)
end Go.Proofs.YtimjpijbcnjaaaaDoor
