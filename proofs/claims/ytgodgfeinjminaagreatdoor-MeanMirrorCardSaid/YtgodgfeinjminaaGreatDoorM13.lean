/- Texts of this claim, merged: Pmir, At0, RvP, Psub, MnH, MnI, MnJ. -/
import Derived.Test.YtgodgfeinjminaaGreatDoorM10
import Derived.Test.YtgodgfeinjminaaGreatDoorM1
import Derived.Test.YtgodgfeinjminaaGreatDoorM7
import Derived.Test.YtgodgfeinjminaaGreatDoorM11
import Derived.Test.YtgodgfeinjminaaGreatDoorM12
section
set_option linter.unusedSimpArgs false
set_option linter.unusedVariables false
namespace Cae

/-! What a pattern in the mirror is. -/
theorem mirPs_map : ∀ l : List PatP, mirPs l = l.map mirP
  | [] => rfl
  | x :: l => by rw [mirPs, mirPs_map l]; rfl
theorem join_len2 (l : List (List UInt8)) (sep : List UInt8) : (Go.Lib.join l sep).length = sep.length * (l.length - 1) + (l.map List.length).sum := by
  cases l with
  | nil => rfl
  | cons x r => rw [Go.Lib.join_length]; simp [Go.Lib.lens]
theorem inPar_len2 (b : Bool) (s : List UInt8) : (inPar b s).length = s.length + if b then 2 else 0 := by
  unfold inPar
  cases b <;> simp
mutual
theorem pt_mir : ∀ (x : PatP) (n : Nat), (patText (mirP x) n).length = (patText x n).length
  | .one k, n => rfl
  | .any, n => rfl
  | .edge, n => rfl
  | .cat l, n => by
    simp only [mirP, patText, inPar_len2, join_len2, texts_map, List.length_map, List.length_reverse, List.map_reverse, List.sum_reverse]
    have h := pts_mir l 2
    rw [texts_map, texts_map] at h
    rw [h, mirPs_map, List.length_map]
  | .alt l, n => by
    simp only [mirP, patText, inPar_len2, join_len2, texts_map, List.length_map]
    have h := pts_mir l 1
    rw [texts_map, texts_map] at h
    rw [h, mirPs_map, List.length_map]
  | .many x lo hi, n => by
    simp only [mirP, patText, List.length_append]
    rw [pt_mir x 2]
theorem pts_mir : ∀ (l : List PatP) (n : Nat), (patTexts (mirPs l) n).map List.length = (patTexts l n).map List.length
  | [], n => rfl
  | x :: l, n => by
    simp only [mirPs, patTexts, List.map_cons]
    rw [pt_mir x n, pts_mir l n]
end
theorem patsOk_all : ∀ {l : List PatP}, PatsOk l ↔ ∀ x ∈ l, PatOk x
  | [] => by simp [PatsOk]
  | x :: l => by simp only [PatsOk, patsOk_all (l := l), List.forall_mem_cons]
mutual
theorem ok_mir : ∀ x : PatP, PatOk x → PatOk (mirP x)
  | .one k, h => h
  | .any, h => h
  | .edge, h => h
  | .cat l, h => by
    simp only [PatOk] at h
    simp only [mirP, PatOk]
    have := oks_mir l h
    rw [patsOk_all] at this ⊢
    intro y hy
    exact this y (List.mem_reverse.1 hy)
  | .alt l, h => by
    simp only [PatOk] at h
    simp only [mirP, PatOk]
    exact oks_mir l h
  | .many x lo hi, h => by
    simp only [PatOk] at h
    simp only [mirP, PatOk]
    exact ⟨ok_mir x h.1, h.2⟩
theorem oks_mir : ∀ l : List PatP, PatsOk l → PatsOk (mirPs l)
  | [], h => h
  | x :: l, h => by
    simp only [PatsOk] at h
    simp only [mirPs, PatsOk]
    exact ⟨ok_mir x h.1, oks_mir l h.2⟩
end
theorem patsS_none {nm : NamesP} : ∀ {l : List PatP}, patsS nm l = none ↔ ∀ x ∈ l, patS nm x = none
  | [] => by simp [patsS]
  | x :: l => by
    rw [patsS, List.forall_mem_cons, ← patsS_none (l := l)]
    cases patS nm x with
    | some e => simp
    | none => simp
mutual
theorem pat_mir {nm : NamesP} : ∀ x : PatP, patS nm x = none → patS nm (mirP x) = none
  | .one k, h => h
  | .any, h => h
  | .edge, h => h
  | .cat l, h => by
    simp only [patS] at h
    simp only [mirP, patS]
    have := pats_mir l h
    rw [patsS_none] at this ⊢
    intro y hy
    exact this y (List.mem_reverse.1 hy)
  | .alt l, h => by
    simp only [patS] at h
    simp only [mirP, patS]
    exact pats_mir l h
  | .many x lo hi, h => by
    simp only [patS] at h
    simp only [mirP, patS]
    exact pat_mir x h
theorem pats_mir {nm : NamesP} : ∀ l : List PatP, patsS nm l = none → patsS nm (mirPs l) = none
  | [], h => h
  | x :: l, h => by
    rw [patsS_none, List.forall_mem_cons] at h
    rw [mirPs, patsS_none, List.forall_mem_cons]
    exact ⟨pat_mir x h.1, patsS_none.1 (pats_mir l (patsS_none.2 h.2))⟩
end
theorem rulesS_none {nm : NamesP} : ∀ {l : List RuleP}, rulesS nm l = none ↔ ∀ r ∈ l, patS nm r.before = none ∧ patS nm r.after = none
  | [] => by simp [rulesS]
  | r :: l => by
    rw [rulesS, List.forall_mem_cons, ← rulesS_none (l := l), ruleS]
    cases patS nm r.before with
    | some e => simp
    | none =>
      cases patS nm r.after with
      | some e => simp
      | none => simp
end Cae
end
section
namespace Go.Vc
theorem Own.at0 {α : Type} {base k : Nat} {e : TypeId} {enc : α → List Value} {w : World} {b o n c : Nat} {l : List α} (h : Vc.Own base e k enc w (.slice (some ⟨b, o, none⟩) n c) l) : o = 0 := by
  rcases h.1.2 with ⟨he, _⟩ | ⟨g, cap, cr, he, _⟩
  · cases he
  · cases he; rfl
end Go.Vc
end
section
namespace Go.Proofs.YtgodgfeinjminaaGreatDoor
open Go.Vc Go.Proofs Go.RowKit Cae
set_option maxRecDepth 100000
set_option linter.unusedSimpArgs false
set_option linter.unusedVariables false
attribute [local irreducible] wpL callK valK unitK runK Fun Sl Vc.Own vc vcOps opK pureK
set_option maxHeartbeats 8000000
theorem PatsV.below {X : Nat → Prop} {w w' : World} {l : List PatP} {vs : List Nat} (h : PatsV X w vs l) (hb : Below w.heap.size w w') : PatsV X w' vs l :=
  PatsV.mono (X := fun b => X b ∨ w.heap.size ≤ b) (Y := fun b => w.heap.size ≤ b) (Kept.of_below hb (fun i h1 h2 => h1)) (fun _ h => .inr h) (fun _ h => .inl h) h.top
theorem PatsV.reverse {X : Nat → Prop} {w : World} : ∀ {l : List PatP} {vs : List Nat}, PatsV X w vs l → PatsV X w vs.reverse l.reverse
  | [], [], _ => by simp only [List.reverse_nil, PatsV]
  | [], _ :: _, h => by simp only [PatsV] at h
  | _ :: _, [], h => by simp only [PatsV] at h
  | x :: l, v :: vs, h => by
    simp only [PatsV] at h
    rw [List.reverse_cons, List.reverse_cons]
    exact PatsV.snoc (PatsV.reverse h.2) h.1
theorem reverseP_c (l : List Nat) (base : Nat) (v : Value) (w : World) (hn : l.length < 1000000000) (ho : Vc.Own base 36 1 encP w v l) (hb0 : base ≤ w.heap.size) :
    Fun Tryz.prog 23 [v] w fun _ w' => Vc.Own base 36 1 encP w' v l.reverse ∧ Kept (fun j => v.ownBlock = some j) w w' := by
  obtain ⟨a, c, rfl⟩ := ho.slice
  refine fun_of_vc Tryz.func23 rfl (by kernel_rfl) [] rfl ?_
  simp -dsimp (maxSteps := 4000000) only [push_cast, fr0, Tryz.ntmps23, List.length_cons, List.length_nil, Nat.reduceAdd, Nat.reduceSub, Nat.reduceBEq, List.replicate_succ, List.replicate_zero]
  refine ⟨⟨by omega, by omega⟩, ?_⟩
  refine wpL_loop [2, 3, 7, 8, 9, 10, 11, 12, 13, 14, 15, 16, 17, 18, 19, 20, 21, 22, 23, 24, 25, 26, 27] (fun z wx => ∃ (i : Nat) (cur : List Nat), z 2 = .int .i64 i ∧ z 3 = .int .i64 ((l.length : Int) - 1 - i) ∧ 2 * i ≤ l.length ∧ cur.length = l.length ∧ (∀ k, k < l.length → cur[k]? = if k < i ∨ l.length - i ≤ k then l[l.length - 1 - k]? else l[k]?) ∧ Vc.Own base 36 1 encP wx (.slice a l.length c) cur ∧ Kept (fun j => (Value.slice a l.length c).ownBlock = some j) w wx) (fun z _ => l.length - (intOf (z 2)).toNat) ?_ ?_
  · exact ⟨0, l, rfl, by simp [at_], by omega, rfl, fun k hk => by rw [if_neg (by omega)], ho, Kept.refl _ _⟩
  · intro z wx hI
    obtain ⟨i, cur, h2, h3, hi, hcl, hcur, hox, hb⟩ := hI
    have szx := hb.size
    simp -dsimp only [push_cast, Nat.reduceAdd, Nat.reduceLeDiff, Nat.reduceBEq, Int.reduceNe, Int.reduceEq, Int.reduceLT, Int.reduceLE, h2, h3]
    refine ⟨fun hlt => ?_, fun hge => ?_⟩
    · have hex : ∃ (x y : Nat) (g : Nat), cur[i]? = some x ∧ cur[l.length - 1 - i]? = some y ∧ a = some ⟨g, 0, none⟩ ∧ wx.cell? ⟨g, i, none⟩ = some (ptrP x) ∧ wx.cell? ⟨g, l.length - 1 - i, none⟩ = some (ptrP y) := by
        obtain ⟨x, hx, _⟩ := lt_get (l := cur) (i := i) (by omega)
        obtain ⟨y, hy, _⟩ := lt_get (l := cur) (i := l.length - 1 - i) (by omega)
        have hgx := hox.sl.get hx
        have hgy := hox.sl.get hy
        obtain ⟨b, o, e, _, hcx⟩ := hgx
        obtain ⟨b', o', e', _, hcy⟩ := hgy
        rw [e] at e'
        cases e'
        have ho0 : o = 0 := Vc.Own.at0 (by rw [← e]; exact hox)
        subst ho0
        exact ⟨x, y, b, hx, hy, e, by simpa using hcx 0 _ rfl, by simpa using hcy 0 _ rfl⟩
      obtain ⟨x, y, g, hx, hy, he, cx, cy⟩ := hex
      subst he
      have ej : ((l.length : Int) - 1 - i) = ((l.length - 1 - i : Nat) : Int) := by omega
      rw [ej]
      unfold ptrP at cx cy
      refine wpL_told [0, 1, 2, 3, 4, 5, 6, 7, 8, 9, 10, 11, 12] 13 [14, 15] (fun w' => w' = wx.drew) mixed (by kernel_rfl) rfl ?_
      have cx' : wx.drew.cell? ⟨g, i, none⟩ = some (.pointer (some ⟨x, 0, none⟩)) := cx
      have cy' : wx.drew.cell? ⟨g, l.length - 1 - i, none⟩ = some (.pointer (some ⟨y, 0, none⟩)) := cy
      have hod : Vc.Own base 36 1 encP wx.drew (.slice (some ⟨g, 0, none⟩) l.length c) cur := hox.keptX (Kept.refl (fun _ => False) _).drew (fun _ _ h => h)
      simp -dsimp only [push_cast, Nat.reduceAdd, Nat.reduceLeDiff, Nat.reduceBEq, Int.reduceNe, Int.reduceEq, Int.reduceLT, Int.reduceLE, cx', cy']
      refine ⟨⟨by omega, by omega⟩, fun w'' hC => by rw [hC, cy']; exact rfl, ⟨by omega, by omega⟩, fun w'' hC => by rw [hC, cx']; exact rfl, ⟨by omega, by omega⟩, ?_⟩
      refine storeOwn (i := i) (y := y) hod rfl (by omega) rfl rfl ?_
      intro w1 ho1 hk1 sz1
      refine ⟨trivial, ?_⟩
      simp -dsimp only [push_cast, Nat.reduceAdd, Nat.reduceLeDiff, Nat.reduceBEq, Int.reduceNe, Int.reduceEq, Int.reduceLT, Int.reduceLE]
      refine ⟨⟨by omega, by omega⟩, ?_⟩
      have hl1 : l.length - 1 - i < (cur.set i y).length := by rw [List.length_set]; omega
      have el1 : (cur.set i y).length = cur.length := List.length_set
      refine storeOwn (i := l.length - 1 - i) (y := x) ho1 rfl hl1 rfl rfl ?_
      intro w2 ho2 hk2 sz2
      have hkd : Kept (fun j => (Value.slice (some ⟨g, 0, none⟩) l.length c).ownBlock = some j) wx w2 := (((Kept.refl (fun j => j = g) wx).drew).trans hk1 (fun _ _ h => h)).trans hk2 (fun _ _ h => h) |>.weaken (fun j _ h => by rw [h]; rfl)
      refine ⟨trivial, ?_⟩
      simp -dsimp only [push_cast, Nat.reduceAdd, Nat.reduceLeDiff, Nat.reduceBEq, Int.reduceNe, Int.reduceEq, Int.reduceLT, Int.reduceLE]
      refine ⟨⟨by omega, by omega⟩, ⟨by omega, by omega⟩, ⟨i + 1, (cur.set i y).set (l.length - 1 - i) x, rfl, by congr 1; omega, by omega, by rw [List.length_set, List.length_set]; exact hcl, fun k hk => ?_, ho2, hb.trans hkd (fun _ _ h => h)⟩, by rw [h2]; simp only [intOf]; omega⟩
      rw [List.getElem?_set, List.getElem?_set]
      have hci := hcur i (by omega)
      have hcj := hcur (l.length - 1 - i) (by omega)
      rw [if_neg (by omega)] at hci hcj
      rw [hx] at hci
      rw [hy] at hcj
      by_cases e1 : l.length - 1 - i = k
      · rw [if_pos e1, if_pos hl1, if_pos (by omega), hci]
        congr 1; omega
      · rw [if_neg e1]
        by_cases e2 : i = k
        · rw [if_pos e2, if_pos (by omega), if_pos (by omega), hcj]
          congr 1; omega
        · rw [if_neg e2, hcur k hk]
          by_cases e3 : k < i ∨ l.length - i ≤ k
          · rw [if_pos e3, if_pos (by omega)]
          · rw [if_neg e3, if_neg (by omega)]
    · have hrev : cur = l.reverse := by
        apply List.ext_getElem?
        intro k
        by_cases hk : k < l.length
        · rw [hcur k hk, List.getElem?_reverse hk]
          split
          · rfl
          · congr 1; omega
        · rw [List.getElem?_eq_none (by omega), List.getElem?_eq_none (by rw [List.length_reverse]; omega)]
      subst hrev
      exact ⟨hox, hb⟩
end Go.Proofs.YtgodgfeinjminaaGreatDoor
end
section
set_option linter.unusedSimpArgs false
namespace Cae
/-- The parts that a pattern has. -/
def subsP : PatP → List PatP
  | .cat l => l
  | .alt l => l
  | .many x _ _ => [x]
  | _ => []
theorem wd_sub {x y : PatP} (h : y ∈ subsP x) : wd y ≤ wd x := by
  cases x with
  | one k => cases h
  | any => cases h
  | edge => cases h
  | cat l => exact wd_in_cat.2.2 y h
  | alt l => exact wd_in_alt.2.2 y h
  | many x lo hi => obtain rfl := List.mem_singleton.1 h; exact wd_in_many
theorem subs_len (x : PatP) : (subsP x).length ≤ wd x + 1 := by
  cases x with
  | one k => simp [subsP]
  | any => simp [subsP]
  | edge => simp [subsP]
  | cat l => have := (wd_in_cat (l := l)).2.1; simp only [subsP]; omega
  | alt l => have := (wd_in_alt (l := l)).2.1; simp only [subsP]; omega
  | many x lo hi => simp [subsP]
end Cae
end
section
namespace Cae
mutual
theorem wd_mir : ∀ x : PatP, wd (mirP x) = wd x
  | .one k => rfl
  | .any => rfl
  | .edge => rfl
  | .cat l => by
    have h := wds_mir l
    have h1 : wds (mirPs l).reverse = wds (mirPs l) := Nat.le_antisymm (wds_le fun x hx => wds_mem (List.mem_reverse.1 hx)) (wds_le fun x hx => wds_mem (List.mem_reverse.2 hx))
    rw [mirP, wd, wd, List.length_reverse, h1, h.1, h.2]
  | .alt l => by have h := wds_mir l; rw [mirP, wd, wd, h.1, h.2]
  | .many x lo hi => by rw [mirP, wd, wd, wd_mir x]
theorem wds_mir : ∀ l : List PatP, (mirPs l).length = l.length ∧ wds (mirPs l) = wds l
  | [] => ⟨rfl, rfl⟩
  | x :: l => by
    have h := wds_mir l
    rw [mirPs, List.length_cons, List.length_cons, h.1, wds, wds, wd_mir x, h.2]
    exact ⟨rfl, rfl⟩
end
end Cae
namespace Go.Proofs.YtgodgfeinjminaaGreatDoor
open Go.Vc Go.Proofs Go.RowKit Cae
set_option maxRecDepth 100000
set_option linter.unusedSimpArgs false
set_option linter.unusedVariables false
attribute [local irreducible] wpL callK valK unitK runK Fun Sl Vc.Own vc vcOps opK pureK
set_option maxHeartbeats 8000000
/-- The cells of a pattern, and its parts. -/
def PatCel (X : Nat → Prop) (w : World) (v : Value) (x : PatP) (b : Nat) (code lo hi : Int) (ka : Option Addr) (sv : Value) (vs : List Nat) : Prop :=
  v = .pointer (some ⟨b, 0, none⟩) ∧ ¬ X b ∧ Blk w b 40 [.int .i64 code, .pointer ka, sv, .int .i64 lo, .int .i64 hi] ∧ Sl X 1 (En encP) w sv vs ∧ PatsV X w vs (subsP x) ∧ (code = 4 ↔ ∃ l, x = .cat l) ∧
  (∀ (X' : Nat → Prop) (w' : World) (b' : Nat) (ov : Value) (us : List Nat), (∀ c, X' c → X c ∨ w.heap.size ≤ c) → Below w.heap.size w w' → ¬ X' b' → Blk w' b' 40 [.int .i64 code, .pointer ka, ov, .int .i64 lo, .int .i64 hi] → Sl X' 1 (En encP) w' ov us → PatsV X' w' us (subsP (mirP x)) → (subsP x = [] → ov = .slice none 0 0) → PatV X' w' (.pointer (some ⟨b', 0, none⟩)) (mirP x))
theorem PatV.parts {X : Nat → Prop} {w : World} {v : Value} {x : PatP} (h : PatV X w v x) : ∃ b code lo hi ka sv vs, PatCel X w v x b code lo hi ka sv vs := by
  cases x with
  | one k =>
    simp only [PatV] at h
    obtain ⟨b, u, hv, hb, hB, hk⟩ := h
    obtain ⟨kb, rfl, hkb⟩ := hk.ptr
    refine ⟨b, _, _, _, _, _, [], hv, hb, hB, Sl.nil _ _ _ _ _ _, by simp only [subsP, PatsV], ⟨fun h => by simp at h, fun ⟨l, h⟩ => by cases h⟩, ?_⟩
    intro X' w' b' ov us hX hbw hb' hB' _ _ hov
    rw [hov rfl] at hB'
    simp only [mirP, PatV]
    exact ⟨b', _, rfl, hb', hB', (hk.top.mono (Kept.refl (fun _ => False) w) (fun _ h => h.elim) (fun c hc => hX c hc)).below hbw⟩
  | any =>
    simp only [PatV] at h
    obtain ⟨b, hv, hb, hB⟩ := h
    refine ⟨b, _, _, _, _, _, [], hv, hb, hB, Sl.nil _ _ _ _ _ _, by simp only [subsP, PatsV], ⟨fun h => by simp at h, fun ⟨l, h⟩ => by cases h⟩, ?_⟩
    intro X' w' b' ov us hX hbw hb' hB' _ _ hov
    rw [hov rfl] at hB'
    simp only [mirP, PatV]
    exact ⟨b', rfl, hb', hB'⟩
  | edge =>
    simp only [PatV] at h
    obtain ⟨b, hv, hb, hB⟩ := h
    refine ⟨b, _, _, _, _, _, [], hv, hb, hB, Sl.nil _ _ _ _ _ _, by simp only [subsP, PatsV], ⟨fun h => by simp at h, fun ⟨l, h⟩ => by cases h⟩, ?_⟩
    intro X' w' b' ov us hX hbw hb' hB' _ _ hov
    rw [hov rfl] at hB'
    simp only [mirP, PatV]
    exact ⟨b', rfl, hb', hB'⟩
  | cat l =>
    simp only [PatV] at h
    obtain ⟨b, sv, vs, hv, hb, hB, hs, hl⟩ := h
    refine ⟨b, _, _, _, _, _, vs, hv, hb, hB, hs, hl, ⟨fun _ => ⟨l, rfl⟩, fun _ => rfl⟩, ?_⟩
    intro X' w' b' ov us hX hbw hb' hB' hs' hu _
    simp only [mirP, PatV]
    simp only [mirP, subsP] at hu
    exact ⟨b', ov, us, rfl, hb', hB', hs', hu⟩
  | alt l =>
    simp only [PatV] at h
    obtain ⟨b, sv, vs, hv, hb, hB, hs, hl⟩ := h
    refine ⟨b, _, _, _, _, _, vs, hv, hb, hB, hs, hl, ⟨fun h => by simp at h, fun ⟨l, h⟩ => by cases h⟩, ?_⟩
    intro X' w' b' ov us hX hbw hb' hB' hs' hu _
    simp only [mirP, PatV]
    simp only [mirP, subsP] at hu
    exact ⟨b', ov, us, rfl, hb', hB', hs', hu⟩
  | many y lo hi =>
    simp only [PatV] at h
    obtain ⟨b, sv, u, hv, hb, hB, hs, hl⟩ := h
    refine ⟨b, _, _, _, _, _, [u], hv, hb, hB, hs, by simp only [subsP, PatsV]; exact ⟨hl, trivial⟩, ⟨fun h => by simp at h, fun ⟨l, h⟩ => by cases h⟩, ?_⟩
    intro X' w' b' ov us hX hbw hb' hB' hs' hu _
    simp only [mirP, PatV]
    simp only [mirP, subsP] at hu
    match us, hu with
    | [u'], hu =>
      simp only [PatsV] at hu
      exact ⟨b', ov, u', rfl, hb', hB', hs', hu.1⟩
    | [], hu => simp only [PatsV] at hu
    | _ :: _ :: _, hu => simp only [PatsV] at hu; exact hu.2.elim
/-- The pattern in the mirror. -/
def MirC (x : PatP) : Prop := wd x ≤ 100000 → ∀ (X : Nat → Prop) (v : Value) (w : World), PatV X w v x → Fun Tryz.prog 11 [v] w fun r w' => PatV (fun b => X b ∧ b < w.heap.size) w' r (mirP x) ∧ Below w.heap.size w w'
theorem mir_of (x : PatP) (hall : ∀ y ∈ subsP x, MirC y) : MirC x := by
  intro hpn X v w hV
  have hP0 := hV.top.parts
  obtain ⟨xb, code, lo, hi, ka, sv, vs, rfl, hnX, hB, hs, hP, h4, hend⟩ := hP0
  have hsh := hs.shape
  obtain ⟨sa, sc, rfl, hsc⟩ := hsh
  have hvl := hP.len
  have hsl := subs_len x
  have hxb := hB.lt
  refine fun_of_vc Tryz.func11 rfl (by kernel_rfl) [2] rfl ?_
  simp -dsimp (maxSteps := 4000000) only [push_cast, fr0, Tryz.ntmps11, List.length_cons, List.length_nil, Nat.reduceAdd, Nat.reduceSub, Nat.reduceBEq, List.replicate_succ, List.replicate_zero]
  have f0 : w.drew.cell? ⟨xb, 0, none⟩ = some (.int .i64 code) := hB.cell rfl
  have f1 : w.drew.cell? ⟨xb, 1, none⟩ = some (.pointer ka) := hB.cell rfl
  have f3 : w.drew.cell? ⟨xb, 3, none⟩ = some (.int .i64 lo) := hB.cell rfl
  have f4 : w.drew.cell? ⟨xb, 4, none⟩ = some (.int .i64 hi) := hB.cell rfl
  refine wpL_drawN (fun w' => Blk w' xb 40 [.int .i64 code, .pointer ka, .slice sa vs.length sc, .int .i64 lo, .int .i64 hi]) mixed (by kernel_rfl) hB.drew ?_
  simp -dsimp only [push_cast, Nat.reduceAdd, Nat.reduceLeDiff, Nat.reduceBEq, Int.reduceNe, Int.reduceEq, Int.reduceLT, Int.reduceLE, f0, f1, f3, f4]
  refine ⟨fun w'' h => by rw [h.cell (o := 0) rfl]; exact rfl, fun w'' h => by rw [h.cell (o := 1) rfl]; exact rfl, fun w'' h => by rw [h.cell (o := 3) rfl]; exact rfl, fun w'' h => by rw [h.cell (o := 4) rfl]; exact rfl, ?_⟩
  refine boxK_of ?_
  intro w1 hw1
  have hw1 : New w.drew w1 40 [.int .i64 code, .pointer ka, .slice none 0 0, .int .i64 lo, .int .i64 hi] := hw1
  have z1 : w1.heap.size = w.heap.size + 1 := hw1.size
  have hb1 : Below w.heap.size w w1 := (below_drew w).trans (hw1.below.mono (Nat.le_refl _))
  have Y1 : Blk w1 w.heap.size 40 [.int .i64 code, .pointer ka, .slice none 0 0, .int .i64 lo, .int .i64 hi] := hw1.blk
  refine ⟨hB.below hb1 hB.lt, ?_⟩
  simp -dsimp only [push_cast, Nat.reduceAdd, Nat.reduceLeDiff, Nat.reduceBEq, Int.reduceNe, Int.reduceEq, Int.reduceLT, Int.reduceLE]
  refine wpL_loop [4, 23, 24, 25, 26, 27, 28, 29, 30, 31, 32, 33, 34, 35, 36, 37, 38, 39, 40, 41, 42, 43, 44, 45, 46, 47, 48] (fun z wx => ∃ (i : Nat) (ov : Value) (us : List Nat), z 4 = .int .i64 i ∧ i ≤ vs.length ∧ Blk wx w.heap.size 40 [.int .i64 code, .pointer ka, ov, .int .i64 lo, .int .i64 hi] ∧ Vc.Own w1.heap.size 36 1 encP wx ov us ∧ PatsV (fun b => b = w.heap.size ∨ ov.ownBlock = some b ∨ (X b ∧ b < w.heap.size)) wx us (((subsP x).take i).map mirP) ∧ Below w.heap.size w wx ∧ w1.heap.size ≤ wx.heap.size ∧ (i = 0 → ov = .slice none 0 0)) (fun z _ => vs.length - (intOf (z 4)).toNat) ?_ ?_
  · exact ⟨0, _, [], rfl, Nat.zero_le _, Y1, Vc.Own.nil (enc := encP) _ _ (fun _ => rfl) _, by simp only [List.take_zero, List.map_nil, PatsV], hb1, Nat.le_refl _, fun _ => rfl⟩
  · intro z wx hI
    obtain ⟨i, ov, us, h4', hi', hY, hO, hU, hbx, zx, hov⟩ := hI
    have hBx := hB.below hbx hB.lt
    have g2 : wx.cell? ⟨xb, 2, none⟩ = some (.slice sa vs.length sc) := hBx.cell rfl
    simp -dsimp only [push_cast, Nat.reduceAdd, Nat.reduceLeDiff, Nat.reduceBEq, Int.reduceNe, Int.reduceEq, Int.reduceLT, Int.reduceLE, h4', g2]
    refine ⟨fun hlt => ?_, fun hge => ?_⟩
    · obtain ⟨y, hy, hym, _, ht⟩ := lt_get (l := subsP x) (i := i) (by omega)
      obtain ⟨u, hu, hVy⟩ := hP.nth hy
      have hVy := hVy.below hbx
      obtain ⟨b1, o, rfl, hnb, hcell⟩ := (hs.below hbx).get hu
      have c0 : wx.drew.cell? ⟨b1, o + i, none⟩ = some (.pointer (some ⟨u, 0, none⟩)) := by simpa [encP, ptrP] using hcell 0 _ rfl
      have hb1l : b1 < w.heap.size := by have h := hs.get hu; obtain ⟨b1', o', e, _, hc'⟩ := h; cases e; exact World.block_lt_of_cell? w ⟨b1, o + i * 1 + 0, none⟩ (hc' 0 _ rfl)
      refine wpL_lastN (fun w' => Blk w' w.heap.size 40 [.int .i64 code, .pointer ka, ov, .int .i64 lo, .int .i64 hi] ∧ Blk w' xb 40 [.int .i64 code, .pointer ka, .slice (some ⟨b1, o, none⟩) vs.length sc, .int .i64 lo, .int .i64 hi] ∧ w'.cell? ⟨b1, o + i, none⟩ = some (.pointer (some ⟨u, 0, none⟩))) mixed (by kernel_rfl) (by simp) ⟨hY.drew, hBx.drew, c0⟩ ?_
      have d2 : wx.drew.cell? ⟨w.drew.heap.size, 2, none⟩ = some ov := hY.drew.cell rfl
      have e2 : wx.drew.cell? ⟨xb, 2, none⟩ = some (.slice (some ⟨b1, o, none⟩) vs.length sc) := g2
      have hob := hO.block
      obtain ⟨oa, oc, rfl⟩ := hO.slice
      simp -dsimp only [push_cast, Nat.reduceAdd, Nat.reduceLeDiff, Nat.reduceBEq, Int.reduceNe, Int.reduceEq, Int.reduceLT, Int.reduceLE, d2, e2, c0]
      refine ⟨fun w'' h => by have e : w''.cell? ⟨w.drew.heap.size, 2, none⟩ = some _ := h.1.cell (o := 2) rfl; rw [e]; exact rfl, fun w'' h => by rw [h.2.1.cell (o := 2) rfl]; exact rfl, ⟨by omega, by omega⟩, fun w'' h => by rw [h.2.2]; exact rfl, ?_⟩
      have hbd := below_drew wx
      have hyn : wd y ≤ 100000 := by have := wd_sub hym; omega
      refine callK_of (hall y hym hyn _ _ wx.drew (hVy.below hbd)) ?_
      rintro r w2 ⟨hR, hb2⟩
      have hbx2 : Below wx.heap.size wx w2 := hbd.trans (hb2.mono (Nat.le_refl _))
      have z2 := hbx2.size
      have hY2 := hY.below hbx2 hY.lt
      have hB2 := hBx.below hbx2 hBx.lt
      have c2 : w2.cell? ⟨b1, o + i, none⟩ = some (.pointer (some ⟨u, 0, none⟩)) := (hbx2.cell (by show b1 < _; omega)).trans c0
      refine ⟨⟨hY2, hB2, c2⟩, ?_⟩
      obtain ⟨rb, rfl, hrb, hrn⟩ := hR.ptr
      simp -dsimp only [push_cast, Nat.reduceAdd, Nat.reduceLeDiff, Nat.reduceBEq, Int.reduceNe, Int.reduceEq, Int.reduceLT, Int.reduceLE]
      refine rowK elI_38 rfl rfl (by omega) ?_
      intro w3 hw3
      have z3 := hw3.size
      have hbx3 := hbx2.trans (hw3.below.mono z2)
      have hY3 := hY.below hbx3 hY.lt
      refine ⟨⟨hY3, hBx.below hbx3 hBx.lt, (hbx3.cell (by show b1 < _; omega)).trans c0⟩, ?_⟩
      have hO3 := hO.below hbx3
      simp -dsimp only [push_cast, Nat.reduceAdd, Nat.reduceLeDiff, Nat.reduceBEq, Int.reduceNe, Int.reduceEq, Int.reduceLT, Int.reduceLE]
      refine appendK2 (base := w1.heap.size) [rb] (enc := encP) elI_38 hO3 (by rfl) (fun j u hu => by rw [Nat.zero_add]; exact hw3.cell hu) encP_one (by have := hU.len; simp only [List.length_cons, List.length_nil, List.length_map, List.length_take] at this ⊢; omega) (by omega) ?_
      intro v4 w4 hO4 hg4 hn4
      have hk34 : Kept (fun j => (Value.slice oa us.length oc).ownBlock = some j) w3 w4 := Kept.grown hg4 (fun _ h => h)
      have z4 := hk34.size
      have hY4 := hY3.kept hk34 (fun h => by have := hob _ h; omega)
      have hB4 := (hBx.below hbx3 hBx.lt).kept hk34 (fun h => by have := hob _ h; omega)
      have c4 : w4.cell? ⟨b1, o + i, none⟩ = some (.pointer (some ⟨u, 0, none⟩)) := hk34.cell ((hbx3.cell (by show b1 < _; omega)).trans c0) (fun h => by have := hob b1 h; omega)
      refine ⟨⟨hY4, hB4, c4⟩, ?_⟩
      have hob4 := hO4.block
      obtain ⟨qa, qc, rfl⟩ := hO4.slice
      simp -dsimp only [push_cast, Nat.reduceAdd, Nat.reduceLeDiff, Nat.reduceBEq, Int.reduceNe, Int.reduceEq, Int.reduceLT, Int.reduceLE]
      refine storeK_of hY4 (by simp) rfl ?_
      intro w5 hw5
      have z5 := hw5.size
      have hY5 : Blk w5 w.heap.size 40 [.int .i64 code, .pointer ka, .slice qa (us ++ [rb]).length qc, .int .i64 lo, .int .i64 hi] := hw5.blk
      have hO5 := hO4.keptX hw5.kept (fun g hg h => by have := hob4 g hg; have h' : g = w.heap.size := h; omega)
      have hnew : ∀ g, (Value.slice qa (us ++ [rb]).length qc).ownBlock = some g → (Value.slice oa us.length oc).ownBlock = some g ∨ w3.heap.size ≤ g := hn4
      have hU3 := (hU.top.below hbx3)
      have hU4 : PatsV (fun b => b = w.heap.size ∨ (Value.slice qa (us ++ [rb]).length qc).ownBlock = some b ∨ (X b ∧ b < w.heap.size)) w4 us (((subsP x).take i).map mirP) := PatsV.mono hk34 (fun j h => .inl (.inr (.inl h))) (fun b h => by
        rcases h with h | h | h
        · exact .inl (.inl h)
        · rcases hnew b h with h | h
          · exact .inl (.inr (.inl h))
          · exact .inr (by omega)
        · exact .inl (.inr (.inr h))) hU3
      have hR3 := (hR.top.below hw3.below)
      have hR4 : PatV (fun b => b = w.heap.size ∨ (Value.slice qa (us ++ [rb]).length qc).ownBlock = some b ∨ (X b ∧ b < w.heap.size)) w4 (ptrP rb) (mirP y) := PatV.mono hk34 (fun j h => by
          have := hob j h
          exact .inl ⟨.inr (by omega), by show j < wx.heap.size; omega⟩) (fun b h => by
        rcases h with h | h | h
        · exact .inl ⟨.inr (by omega), by show b < wx.heap.size; omega⟩
        · rcases hnew b h with h | h
          · have := hob b h
            exact .inl ⟨.inr (by omega), by show b < wx.heap.size; omega⟩
          · exact .inr (by omega)
        · exact .inl ⟨.inl h.1, by show b < wx.heap.size; omega⟩) hR3
      have hbw4 : Below w.heap.size w w4 := hbx.trans ((hbx3.mono (by omega)).trans (hk34.below (by omega) (fun j h => by have := hob j h; omega)))
      have hbw5 : Below w.heap.size w w5 := hbw4.trans (hw5.kept.below (by omega) (fun j h => by have h' : j = w.heap.size := h; omega))
      have hls : ((subsP x).take (i + 1)).map mirP = ((subsP x).take i).map mirP ++ [mirP y] := by rw [ht, List.map_append]; rfl
      have hX5 : ∀ j, j = w.drew.heap.size → j = w.heap.size ∨ (Value.slice qa (us ++ [rb]).length qc).ownBlock = some j ∨ (X j ∧ j < w.heap.size) := fun j h => .inl h
      have hU5 := PatsV.snoc (PatsV.mono hw5.kept hX5 (fun _ h => h) hU4) (PatV.mono hw5.kept hX5 (fun _ h => h) hR4)
      rw [← hls] at hU5
      simp -dsimp only [push_cast, Nat.reduceAdd, Nat.reduceLeDiff, Nat.reduceBEq, Int.reduceNe, Int.reduceEq, Int.reduceLT, Int.reduceLE]
      exact ⟨⟨by omega, by omega⟩, ⟨i + 1, _, _, rfl, by omega, hY5, hO5, hU5, hbw5, by omega, fun h => by omega⟩, by rw [h4']; simp only [intOf]; omega⟩
    · rw [List.take_of_length_le (by omega), ← mirPs_map] at hU
      have g0 : wx.cell? ⟨xb, 0, none⟩ = some (.int .i64 code) := hBx.cell rfl
      have hob := hO.block
      have hul := hU.len
      have hX' : ∀ c, (X c ∧ c < w.heap.size) → (X c ∨ w.heap.size ≤ c) ∨ w.heap.size ≤ c := fun c h => .inl (.inl h.1)
      simp -dsimp only [push_cast, Nat.reduceAdd, Nat.reduceLeDiff, Nat.reduceBEq, Int.reduceNe, Int.reduceEq, Int.reduceLT, Int.reduceLE, g0]
      refine ⟨fun hc4 => ?_, fun hc4 => ?_⟩
      · obtain ⟨l, rfl⟩ := h4.1 hc4
        have g2' : wx.cell? ⟨w.drew.heap.size, 2, none⟩ = some ov := hY.cell rfl
        simp -dsimp only [push_cast, Nat.reduceAdd, Nat.reduceLeDiff, Nat.reduceBEq, Int.reduceNe, Int.reduceEq, Int.reduceLT, Int.reduceLE, g2']
        have hlen : us.length < 1000000000 := by
          have h1 : (mirPs l).length = l.length := by rw [mirPs_map, List.length_map]
          have h2 : us.length = (mirPs l).length := hul
          have h3 : (subsP (.cat l)).length = l.length := rfl
          omega
        refine callK_of (reverseP_c us _ ov wx hlen hO (by omega)) ?_
        rintro _ w2 ⟨hO2, hk2⟩
        have hY2 := hY.kept hk2 (fun h => by have := hob _ h; omega)
        have hbw2 := hbx.trans (hk2.below (by omega) (fun j h => by have := hob j h; omega))
        have hU2 := PatsV.reverse (PatsV.mono hk2 (fun j h => .inr (.inl h)) (fun b (h : X b ∧ b < w.heap.size) => .inr (.inr h)) hU)
        simp -dsimp only [push_cast, Nat.reduceAdd, Nat.reduceLeDiff, Nat.reduceBEq, Int.reduceNe, Int.reduceEq, Int.reduceLT, Int.reduceLE]
        refine ⟨hend (fun b => X b ∧ b < w.heap.size) w2 _ _ us.reverse hX' hbw2 (fun h => Nat.lt_irrefl _ h.2) hY2 (hO2.sl.weaken (fun b h => by have := h.2; omega)) hU2 (fun h0 => ?_), hbw2⟩
        have hl0 : l = [] := h0
        subst hl0
        have hi0 : i = 0 := by have h3 : (subsP (.cat [])).length = 0 := rfl; omega
        exact hov hi0
      · have hsub : subsP (mirP x) = mirPs (subsP x) := by
          cases x with
          | cat l => exact absurd (h4.2 ⟨l, rfl⟩) hc4
          | one k => rfl
          | any => rfl
          | edge => rfl
          | alt l => rfl
          | many y lo hi => rfl
        refine ⟨hend (fun b => X b ∧ b < w.heap.size) wx _ _ us hX' hbx (fun h => Nat.lt_irrefl _ h.2) hY (hO.sl.weaken (fun b h => by have := h.2; omega)) (by rw [hsub]; exact PatsV.mono (Kept.refl (fun _ => False) _) (fun _ h => h.elim) (fun b h => .inr (.inr h)) hU) (fun h0 => ?_), hbx⟩
        rw [h0] at hvl
        have hi0 : i = 0 := by have h3 : ([] : List PatP).length = 0 := rfl; omega
        exact hov hi0
mutual
theorem mir_c : ∀ x, MirC x
  | .one k => mir_of _ (fun y h => by cases h)
  | .any => mir_of _ (fun y h => by cases h)
  | .edge => mir_of _ (fun y h => by cases h)
  | .cat l => mir_of _ (mirs_c l)
  | .alt l => mir_of _ (mirs_c l)
  | .many x lo hi => mir_of _ (fun y h => by
    have h1 := mir_c x
    obtain rfl := List.mem_singleton.1 h
    exact h1)
theorem mirs_c : ∀ (l : List PatP) (x : PatP), x ∈ l → MirC x
  | [], x, h => by cases h
  | y :: l, x, h => by
    have hy := mir_c y
    rcases List.mem_cons.1 h with h | h
    · rw [h]; exact hy
    · exact mirs_c l x h
end
end Go.Proofs.YtgodgfeinjminaaGreatDoor
end
section
namespace Go.Proofs.YtgodgfeinjminaaGreatDoor
open Go.Vc Go.Proofs Go.RowKit Cae
set_option maxRecDepth 100000
set_option linter.unusedSimpArgs false
set_option linter.unusedVariables false
attribute [local irreducible] wpL callK valK unitK runK Fun Sl Vc.Own vc vcOps opK pureK
set_option maxHeartbeats 8000000
theorem reverseU_c (l : List U) (base : Nat) (v : Value) (w : World) (hn : l.length < 1000000000) (ho : Vc.Own base 48 3 encU w v l) (hb0 : base ≤ w.heap.size) :
    Fun Tryz.prog 13 [v] w fun _ w' => Vc.Own base 48 3 encU w' v l.reverse ∧ Kept (fun j => v.ownBlock = some j) w w' := by
  obtain ⟨a, c, rfl⟩ := ho.slice
  refine fun_of_vc Tryz.func13 rfl (by kernel_rfl) [] rfl ?_
  simp -dsimp (maxSteps := 4000000) only [push_cast, fr0, Tryz.ntmps13, List.length_cons, List.length_nil, Nat.reduceAdd, Nat.reduceSub, Nat.reduceBEq, List.replicate_succ, List.replicate_zero]
  refine ⟨⟨by omega, by omega⟩, ?_⟩
  refine wpL_loop [2, 3, 7, 8, 9, 10, 11, 12, 13, 14, 15, 16, 17, 18, 19, 20, 21, 22, 23, 24, 25, 26, 27] (fun z wx => ∃ (i : Nat) (cur : List U), z 2 = .int .i64 i ∧ z 3 = .int .i64 ((l.length : Int) - 1 - i) ∧ 2 * i ≤ l.length ∧ cur.length = l.length ∧ (∀ k, k < l.length → cur[k]? = if k < i ∨ l.length - i ≤ k then l[l.length - 1 - k]? else l[k]?) ∧ Vc.Own base 48 3 encU wx (.slice a l.length c) cur ∧ Kept (fun j => (Value.slice a l.length c).ownBlock = some j) w wx) (fun z _ => l.length - (intOf (z 2)).toNat) ?_ ?_
  · exact ⟨0, l, rfl, by simp [at_], by omega, rfl, fun k hk => by rw [if_neg (by omega)], ho, Kept.refl _ _⟩
  · intro z wx hI
    obtain ⟨i, cur, h2, h3, hi, hcl, hcur, hox, hb⟩ := hI
    have szx := hb.size
    simp -dsimp only [push_cast, Nat.reduceAdd, Nat.reduceLeDiff, Nat.reduceBEq, Int.reduceNe, Int.reduceEq, Int.reduceLT, Int.reduceLE, h2, h3]
    refine ⟨fun hlt => ?_, fun hge => ?_⟩
    · have hex : ∃ (x y : U) (g : Nat), cur[i]? = some x ∧ cur[l.length - 1 - i]? = some y ∧ a = some ⟨g, 0, none⟩ ∧ cellsAt wx ⟨g, i * 3, none⟩ 0 3 = some [.int .i64 x.p, .int .i64 x.at_, .int .i64 x.n] ∧ cellsAt wx ⟨g, (l.length - 1 - i) * 3, none⟩ 0 3 = some [.int .i64 y.p, .int .i64 y.at_, .int .i64 y.n] := by
        obtain ⟨x, hx, _⟩ := lt_get (l := cur) (i := i) (by omega)
        obtain ⟨y, hy, _⟩ := lt_get (l := cur) (i := l.length - 1 - i) (by omega)
        have hgx := hox.sl.get hx
        have hgy := hox.sl.get hy
        obtain ⟨b, o, e, _, hcx⟩ := hgx
        obtain ⟨b', o', e', _, hcy⟩ := hgy
        rw [e] at e'
        cases e'
        have ho0 : o = 0 := Vc.Own.at0 (by rw [← e]; exact hox)
        subst ho0
        exact ⟨x, y, b, hx, hy, e, cellsAt_of _ 0 (fun j u hu => by have := hcx j u (by simpa [encU] using hu); simpa using this), cellsAt_of _ 0 (fun j u hu => by have := hcy j u (by simpa [encU] using hu); simpa using this)⟩
      obtain ⟨x, y, g, hx, hy, he, cx, cy⟩ := hex
      subst he
      have ej : ((l.length : Int) - 1 - i) = ((l.length - 1 - i : Nat) : Int) := by omega
      rw [ej]
      refine wpL_told [0, 1, 2, 3, 4, 5, 6, 7, 8, 9, 10, 11, 12] 13 [14, 15] (fun w' => w' = wx.drew) mixed (by kernel_rfl) rfl ?_
      have cx' : cellsAt wx.drew ⟨g, i * 3, none⟩ 0 3 = some [.int .i64 x.p, .int .i64 x.at_, .int .i64 x.n] := cx
      have cy' : cellsAt wx.drew ⟨g, (l.length - 1 - i) * 3, none⟩ 0 3 = some [.int .i64 y.p, .int .i64 y.at_, .int .i64 y.n] := cy
      have hod : Vc.Own base 48 3 encU wx.drew (.slice (some ⟨g, 0, none⟩) l.length c) cur := hox.keptX (Kept.refl (fun _ => False) _).drew (fun _ _ h => h)
      simp -dsimp only [push_cast, Nat.reduceAdd, Nat.reduceLeDiff, Nat.reduceBEq, Int.reduceNe, Int.reduceEq, Int.reduceLT, Int.reduceLE, cx', cy']
      refine ⟨⟨by omega, by omega⟩, fun w'' hC => by rw [hC, cy']; exact rfl, ⟨by omega, by omega⟩, fun w'' hC => by rw [hC, cx']; exact rfl, ⟨by omega, by omega⟩, ?_⟩
      refine storeOwnA (xt := 48) (i := i) (y := y) (by kernel_rfl) hod rfl (by omega) rfl (by simp [Value.oneCell']) ?_
      intro w1 ho1 hk1 sz1
      refine ⟨trivial, ?_⟩
      simp -dsimp only [push_cast, Nat.reduceAdd, Nat.reduceLeDiff, Nat.reduceBEq, Int.reduceNe, Int.reduceEq, Int.reduceLT, Int.reduceLE]
      refine ⟨⟨by omega, by omega⟩, ?_⟩
      have hl1 : l.length - 1 - i < (cur.set i y).length := by rw [List.length_set]; omega
      have el1 : (cur.set i y).length = cur.length := List.length_set
      refine storeOwnA (xt := 48) (i := l.length - 1 - i) (y := x) (by kernel_rfl) ho1 rfl hl1 rfl (by simp [Value.oneCell']) ?_
      intro w2 ho2 hk2 sz2
      have hkd : Kept (fun j => (Value.slice (some ⟨g, 0, none⟩) l.length c).ownBlock = some j) wx w2 := (((Kept.refl (fun j => j = g) wx).drew).trans hk1 (fun _ _ h => h)).trans hk2 (fun _ _ h => h) |>.weaken (fun j _ h => by rw [h]; rfl)
      refine ⟨trivial, ?_⟩
      simp -dsimp only [push_cast, Nat.reduceAdd, Nat.reduceLeDiff, Nat.reduceBEq, Int.reduceNe, Int.reduceEq, Int.reduceLT, Int.reduceLE]
      refine ⟨⟨by omega, by omega⟩, ⟨by omega, by omega⟩, ⟨i + 1, (cur.set i y).set (l.length - 1 - i) x, rfl, by congr 1; omega, by omega, by rw [List.length_set, List.length_set]; exact hcl, fun k hk => ?_, ho2, hb.trans hkd (fun _ _ h => h)⟩, by rw [h2]; simp only [intOf]; omega⟩
      rw [List.getElem?_set, List.getElem?_set]
      have hci := hcur i (by omega)
      have hcj := hcur (l.length - 1 - i) (by omega)
      rw [if_neg (by omega)] at hci hcj
      rw [hx] at hci
      rw [hy] at hcj
      by_cases e1 : l.length - 1 - i = k
      · rw [if_pos e1, if_pos hl1, if_pos (by omega), hci]
        congr 1; omega
      · rw [if_neg e1]
        by_cases e2 : i = k
        · rw [if_pos e2, if_pos (by omega), if_pos (by omega), hcj]
          congr 1; omega
        · rw [if_neg e2, hcur k hk]
          by_cases e3 : k < i ∨ l.length - i ≤ k
          · rw [if_pos e3, if_pos (by omega)]
          · rw [if_neg e3, if_neg (by omega)]
    · have hrev : cur = l.reverse := by
        apply List.ext_getElem?
        intro k
        by_cases hk : k < l.length
        · rw [hcur k hk, List.getElem?_reverse hk]
          split
          · rfl
          · congr 1; omega
        · rw [List.getElem?_eq_none (by omega), List.getElem?_eq_none (by rw [List.length_reverse]; omega)]
      subst hrev
      exact ⟨hox, hb⟩
end Go.Proofs.YtgodgfeinjminaaGreatDoor
end
section
namespace Cae
open Go.Proofs.YtgodgfeinjminaaGreatDoor
def mirF (f : FileP) : FileP := ⟨f.classes, f.rules.map mirR, f.els⟩
theorem chk_mir (f : FileP) (h : chkS f = none) : chkS (mirF f) = none := by
  unfold chkS at h ⊢
  show (match namesS [] f.classes with | .error e => _ | .ok nm => (rulesS nm (f.rules.map mirR)).map _) = _
  cases hn : namesS [] f.classes with
  | error e => rw [hn] at h; cases h
  | ok nm =>
    rw [hn] at h
    dsimp only at h ⊢
    have h1 : rulesS nm f.rules = none := by
      cases hr : rulesS nm f.rules with
      | none => rfl
      | some e => rw [hr] at h; cases h
    have h2 : rulesS nm (f.rules.map mirR) = none := by
      rw [rulesS_none] at h1 ⊢
      intro r hr
      obtain ⟨c, hc, rfl⟩ := List.mem_map.1 hr
      exact ⟨pat_mir _ (h1 c hc).2, pat_mir _ (h1 c hc).1⟩
    rw [h2]
    rfl
theorem ptsU_rev (us : List U) : ptsU us.reverse = (ptsU us).reverse := by unfold ptsU; rw [List.map_reverse]
end Cae
namespace Go.Proofs.YtgodgfeinjminaaGreatDoor
open Go.Vc Go.Proofs Go.RowKit Cae
set_option maxRecDepth 100000
set_option linter.unusedSimpArgs false
set_option linter.unusedVariables false
attribute [local irreducible] wpL callK valK unitK runK Fun Sl Vc.Own vc vcOps opK pureK
set_option maxHeartbeats 8000000
theorem cloneU_c (l : List U) (hl : l.length < 1000000000) (X : Nat → Prop) (v : Value) (w : World) (hv : Sl X 3 (En encU) w v l) (ha : Arg v) :
    Fun Tryz.prog 12 [v] w fun r w' => Vc.Own w.heap.size 48 3 encU w' r l ∧ Below w.heap.size w w' := by
  obtain ⟨a, c, rfl, hc⟩ := hv.shape
  refine fun_of_vc Tryz.func12 rfl (by kernel_rfl) [2] rfl ?_
  simp -dsimp (maxSteps := 4000000) only [push_cast, fr0, Tryz.ntmps12, List.length_cons, List.length_nil, Nat.reduceAdd, Nat.reduceSub, Nat.reduceBEq, List.replicate_succ, List.replicate_zero]
  cases a with
  | none =>
    obtain ⟨h0, rfl⟩ := ha _ _ rfl
    have : l = [] := List.eq_nil_of_length_eq_zero h0
    subst this
    simp -dsimp only [push_cast, Nat.reduceAdd, Nat.reduceLeDiff, Nat.reduceBEq, Int.reduceNe, Int.reduceEq, Int.reduceLT, Int.reduceLE, eq_3n]
    exact ⟨Vc.Own.nil (enc := encU) _ _ (fun _ => rfl) _, Below.refl _ _⟩
  | some ad =>
    simp -dsimp only [push_cast, Nat.reduceAdd, Nat.reduceLeDiff, Nat.reduceBEq, Int.reduceNe, Int.reduceEq, Int.reduceLT, Int.reduceLE, eq_3s]
    refine rowK elI_29 rfl rfl (by omega) ?_
    intro w1 hw1
    have ho1 := hw1.own (base := w.heap.size) (k := 3) (n := 0) (enc := encU) (l := []) rfl rfl (fun _ => rfl) (Nat.le_refl _) (by omega)
    have sz1 := hw1.size
    simp -dsimp only [push_cast, Nat.reduceAdd, Nat.reduceLeDiff, Nat.reduceBEq, Int.reduceNe, Int.reduceEq, Int.reduceLT, Int.reduceLE]
    refine appendAny (base := w.heap.size) (enc := encU) (ys := l) elI_29 ho1 (hv.below hw1.below) (fun n c h => by cases h) (by simp [encU, Value.oneCell']) (by simp only [List.length_nil]; omega) (by omega) ?_
    intro v' w2 ho2 hg2 hb2
    rw [List.nil_append] at ho2
    simp -dsimp only [push_cast, Nat.reduceAdd, Nat.reduceLeDiff, Nat.reduceBEq, Int.reduceNe, Int.reduceEq, Int.reduceLT, Int.reduceLE]
    exact ⟨ho2, hw1.below.trans hb2⟩
theorem meanMirror_c (s t : List UInt8) (w : World) (hv : Vm w) : Fun Tryz.prog 4 [str s, str t] w fun r w' => r = .bool true ∧ Below w.heap.size w w' := by
  refine fun_of_vc Tryz.func4 rfl (by kernel_rfl) [4] rfl ?_
  simp -dsimp (maxSteps := 4000000) only [push_cast, fr0, Tryz.ntmps4, List.length_cons, List.length_nil, Nat.reduceAdd, Nat.reduceSub, Nat.reduceBEq, List.replicate_succ, List.replicate_zero]
  -- the beginning of each law: Below.refl _ _ what to do where the text is long
  refine ⟨fun hlong => Below.refl _ _, fun hshort => ?_⟩
  refine callK_of (meant_c w hv.d hv.e hv.v hv.l hv.g) ?_
  rintro _ w1 ⟨rfl, hb1⟩
  have z1 := hb1.size
  have hv1 := hv.below hb1
  simp -dsimp only [push_cast, Nat.reduceAdd, Nat.reduceLeDiff, Nat.reduceBEq, Int.reduceNe, Int.reduceEq, Int.reduceLT, Int.reduceLE]
  refine callK_of (rightF_c s w1 hv1.d hv1.e hv1.g) ?_
  rintro _ w2 ⟨⟨a1, n1, k1, a2, n2, k2, e, b, rfl, hright⟩, hb2⟩
  have z2 := hb2.size
  have hbw2 := hb1.trans (hb2.mono z1)
  simp -dsimp only [push_cast, Nat.reduceAdd, Nat.reduceLeDiff, Nat.reduceBEq, Int.reduceNe, Int.reduceEq, Int.reduceLT, Int.reduceLE]
  refine allocK (z := [.slice none 0 0, .slice none 0 0, .bool false]) (by kernel_rfl) ?_
  intro w3 hw3
  have z3 := hw3.size
  simp -dsimp only [push_cast, Nat.reduceAdd, Nat.reduceLeDiff, Nat.reduceBEq, Int.reduceNe, Int.reduceEq, Int.reduceLT, Int.reduceLE]
  refine storeAgg (n := 3) (by kernel_rfl) hw3.blk rfl (by simp) cells3 ?_
  intro w4 hw4
  have z4 := hw4.size
  have B4 : Blk w4 w2.heap.size 26 [.slice a1 n1 k1, .slice a2 n2 k2, .bool e] := hw4.blk
  have hb24 : Below w2.heap.size w2 w4 := hw3.below.trans (hw4.kept.below (by omega) (fun i h => by omega))
  have hbw4 := hbw2.trans (hb24.mono (by omega))
  have hv4 := hv.below hbw4
  have d4 : cellsAt w4 ⟨w2.heap.size, 0, none⟩ 0 3 = some [.slice a1 n1 k1, .slice a2 n2 k2, .bool e] := B4.cellsAt
  cases b with
  | false =>
    simp -dsimp only [push_cast, Nat.reduceAdd, Nat.reduceLeDiff, Nat.reduceBEq, Int.reduceNe, Int.reduceEq, Int.reduceLT, Int.reduceLE]
    exact hbw4
  | true =>
    obtain ⟨hs5, f, hpar, hchk, hV⟩ := hright rfl
    have hpo := parse_ok (by omega) hpar
    have hpp := parse_pn hpar (by omega)
    have hVT := hV
    obtain ⟨cv, rv, cs, rs, hag, S1, S2, A1, A2⟩ := hV
    have hsh1 := S1.shape
    obtain ⟨_, _, rfl, hcc⟩ := hsh1
    have hsh2 := S2.shape
    obtain ⟨_, _, rfl, hrc⟩ := hsh2
    simp only [Value.agg.injEq, Array.mk.injEq, List.cons.injEq, Value.slice.injEq, Value.bool.injEq, and_true] at hag
    obtain ⟨⟨rfl, rfl, rfl⟩, ⟨rfl, rfl, rfl⟩, rfl⟩ := hag
    have hrl := All2.len A2
    have A2t := A2.imp fun a c h => RulR.top h
    have hV4 := hVT.below hb24
    simp -dsimp only [push_cast, Nat.reduceAdd, Nat.reduceLeDiff, Nat.reduceBEq, Int.reduceNe, Int.reduceEq, Int.reduceLT, Int.reduceLE, d4]
    refine allocK (z := [.slice none 0 0, .slice none 0 0, .bool false]) (by kernel_rfl) ?_
    intro w5 hw5
    have z5 := hw5.size
    simp -dsimp only [push_cast, Nat.reduceAdd, Nat.reduceLeDiff, Nat.reduceBEq, Int.reduceNe, Int.reduceEq, Int.reduceLT, Int.reduceLE]
    refine storeAgg (n := 3) (by kernel_rfl) hw5.blk rfl (by simp) cells3 ?_
    intro w6 hw6
    have z6 := hw6.size
    simp -dsimp only [push_cast, Nat.reduceAdd, Nat.reduceLeDiff, Nat.reduceBEq, Int.reduceNe, Int.reduceEq, Int.reduceLT, Int.reduceLE]
    refine storeK_of hw6.blk (by simp) rfl ?_
    intro w8 hw8
    have z8 := hw8.size
    have hb48 : Below w4.heap.size w4 w8 := hw5.below.trans ((hw6.kept.below (by omega) (fun i h => by omega)).trans (hw8.kept.below (by omega) (fun i h => by omega)))
    have G8 : Blk w8 w4.heap.size 26 [.slice a1 cs.length k1, .slice none 0 0, .bool f.els] := hw8.blk
    have hB48 := hbw4.trans (hb48.mono (by omega))
    simp -dsimp only [push_cast, Nat.reduceAdd, Nat.reduceLeDiff, Nat.reduceBEq, Int.reduceNe, Int.reduceEq, Int.reduceLT, Int.reduceLE]
    refine wpL_loop [8, 9, 31, 32, 33, 34, 35, 36, 37, 38, 39, 40, 41, 42, 43, 44, 45, 46, 47, 48, 49, 50, 51, 52, 53, 54, 55, 56] (fun z wx => ∃ (i : Nat) (ov : Value) (ls : List (Nat × Bool × Nat × Nat)), z 8 = .int .i64 i ∧ i ≤ f.rules.length ∧ Blk wx w4.heap.size 26 [.slice a1 cs.length k1, ov, .bool f.els] ∧ Vc.Own w8.heap.size 42 4 encRu wx ov ls ∧ All2 (RulR (fun b => b = w4.heap.size ∨ ov.ownBlock = some b) wx) ls ((f.rules.take i).map mirR) ∧ Below w4.heap.size w4 wx ∧ w8.heap.size ≤ wx.heap.size) (fun z _ => f.rules.length - (intOf (z 8)).toNat) ?_ ?_
    · exact ⟨0, _, [], rfl, Nat.zero_le _, G8, Vc.Own.nil (enc := encRu) _ _ (fun _ => rfl) _, .nil, hb48, Nat.le_refl _⟩
    · intro z wx hI
      obtain ⟨i, ov, ls, h8, hi, hG, hO, hA, hb4x, zx⟩ := hI
      have hbx := hbw4.trans (hb4x.mono (by omega))
      have F1 : wx.cell? ⟨w2.heap.size, 1, none⟩ = some (.slice a2 rs.length k2) := (B4.below hb4x (by omega)).cell rfl
      simp -dsimp only [push_cast, Nat.reduceAdd, Nat.reduceLeDiff, Nat.reduceBEq, Int.reduceNe, Int.reduceEq, Int.reduceLT, Int.reduceLE, h8, F1]
      refine ⟨fun hlt => ?_, fun hge => ?_⟩
      · obtain ⟨c, hc, hcm, _, ht⟩ := lt_get (l := f.rules) (i := i) (by omega)
        obtain ⟨x, hx, hxp, hxb, hx1, hx2⟩ := all2_nth A2t hc
        have S2x := (S2.below hb24).below hb4x
        obtain ⟨b1, o, rfl, hnb, hcell⟩ := S2x.get hx
        obtain ⟨xp, xb, x1, x2⟩ := x
        simp only at hxp hxb hx1 hx2
        subst hxp; subst hxb
        have c4 : cellsAt wx ⟨b1, o + i * 4, none⟩ 0 4 = some [.int .i64 c.pos, .bool c.brk, .pointer (some ⟨x1, 0, none⟩), .pointer (some ⟨x2, 0, none⟩)] := cellsAt_of _ 0 (fun j u hu => by simpa [encRu, ptrP] using hcell j u hu)
        simp -dsimp only [push_cast, Nat.reduceAdd, Nat.reduceLeDiff, Nat.reduceBEq, Int.reduceNe, Int.reduceEq, Int.reduceLT, Int.reduceLE, c4]
        refine ⟨⟨by omega, by omega⟩, ?_⟩
        refine allocK (z := [.int .i64 0, .bool false, .pointer none, .pointer none]) (by kernel_rfl) ?_
        intro wa hwa
        have za := hwa.size
        simp -dsimp only [push_cast, Nat.reduceAdd, Nat.reduceLeDiff, Nat.reduceBEq, Int.reduceNe, Int.reduceEq, Int.reduceLT, Int.reduceLE]
        refine storeAgg (n := 4) (by kernel_rfl) hwa.blk rfl (by simp) (by simp [Value.oneCell']) ?_
        intro wb hwb
        have zb := hwb.size
        have Rb : Blk wb wx.heap.size 42 [.int .i64 c.pos, .bool c.brk, .pointer (some ⟨x1, 0, none⟩), .pointer (some ⟨x2, 0, none⟩)] := hwb.blk
        have hbxb : Below wx.heap.size wx wb := hwa.below.trans (hwb.kept.below (by omega) (fun i h => by omega))
        simp -dsimp only [push_cast, Nat.reduceAdd, Nat.reduceLeDiff, Nat.reduceBEq, Int.reduceNe, Int.reduceEq, Int.reduceLT, Int.reduceLE]
        refine wpL_told [0, 1, 2, 3, 4, 5, 6] 7 [8, 9] (fun w' => Blk w' wx.heap.size 42 [.int .i64 c.pos, .bool c.brk, .pointer (some ⟨x1, 0, none⟩), .pointer (some ⟨x2, 0, none⟩)]) mixed (by kernel_rfl) Rb.drew ?_
        have r2 : wb.drew.cell? ⟨wx.heap.size, 2, none⟩ = some (.pointer (some ⟨x1, 0, none⟩)) := Rb.drew.cell rfl
        have r3 : wb.drew.cell? ⟨wx.heap.size, 3, none⟩ = some (.pointer (some ⟨x2, 0, none⟩)) := Rb.drew.cell rfl
        simp -dsimp only [push_cast, Nat.reduceAdd, Nat.reduceLeDiff, Nat.reduceBEq, Int.reduceNe, Int.reduceEq, Int.reduceLT, Int.reduceLE, r2, r3]
        have hbd := below_drew wb
        have hbxd : Below wx.heap.size wx wb.drew := hbxb.trans (hbd.mono hbxb.size)
        have hb2d : Below w2.heap.size w2 wb.drew := hb24.trans ((hb4x.mono (by omega)).trans (hbxd.mono (by omega)))
        have V1 : PatV (fun b => w2.heap.size ≤ b) wb.drew (.pointer (some ⟨x1, 0, none⟩)) c.before := PatV.weak (hx1.below hb2d) (fun b h => .inr h)
        have V2 : PatV (fun b => w2.heap.size ≤ b) wb.drew (.pointer (some ⟨x2, 0, none⟩)) c.after := PatV.weak (hx2.below hb2d) (fun b h => .inr h)
        have hpc := hpp c hcm
        refine ⟨fun w'' h => by rw [h.cell (o := 3) rfl]; exact rfl, ?_⟩
        refine callK_of (mir_c c.after hpc.2 _ _ wb.drew V2) ?_
        rintro y2 wc ⟨hY2, hbc⟩
        have zc : wb.heap.size ≤ wc.heap.size := hbc.size
        have Rc := Rb.drew.below hbc Rb.lt
        have e2 : wc.cell? ⟨wx.heap.size, 2, none⟩ = some (.pointer (some ⟨x1, 0, none⟩)) := Rc.cell rfl
        refine ⟨Rc, ?_⟩
        obtain ⟨yb2, rfl, hyl2, hyn2⟩ := hY2.ptr
        simp -dsimp only [push_cast, Nat.reduceAdd, Nat.reduceLeDiff, Nat.reduceBEq, Int.reduceNe, Int.reduceEq, Int.reduceLT, Int.reduceLE, e2]
        refine ⟨fun w'' h => by rw [h.cell (o := 2) rfl]; exact rfl, ?_⟩
        refine callK_of (mir_c c.before hpc.1 _ _ wc (V1.below hbc)) ?_
        rintro y1 wd ⟨hY1, hbd'⟩
        have zd := hbd'.size
        have Rd' := Rc.below hbd' Rc.lt
        refine ⟨Rd', ?_⟩
        obtain ⟨yb1, rfl, hyl1, hyn1⟩ := hY1.ptr
        have hY2d := hY2.below hbd'
        simp -dsimp only [push_cast, Nat.reduceAdd, Nat.reduceLeDiff, Nat.reduceBEq, Int.reduceNe, Int.reduceEq, Int.reduceLT, Int.reduceLE]
        refine storeK_of Rd' (by simp) rfl ?_
        intro we hwe
        have ze := hwe.size
        simp -dsimp only [push_cast, Nat.reduceAdd, Nat.reduceLeDiff, Nat.reduceBEq, Int.reduceNe, Int.reduceEq, Int.reduceLT, Int.reduceLE]
        refine storeK_of hwe.blk (by simp) rfl ?_
        intro wf hwf
        have zf := hwf.size
        have Rf : Blk wf wx.heap.size 42 [.int .i64 c.pos, .bool c.brk, .pointer (some ⟨yb2, 0, none⟩), .pointer (some ⟨yb1, 0, none⟩)] := hwf.blk
        have kdf : Kept (fun j => j = wx.heap.size) wd wf := hwe.kept.trans hwf.kept (fun _ _ h => h)
        have hbxf : Below wx.heap.size wx wf := hbxd.trans ((hbc.mono (by show wx.heap.size ≤ wb.heap.size; omega)).trans ((hbd'.mono (by omega)).trans (kdf.below (by omega) (fun i h => by omega))))
        have zxf := hbxf.size
        have Gf := hG.below hbxf (by omega)
        have hOf := hO.below hbxf
        have g1 : wf.cell? ⟨w4.heap.size, 1, none⟩ = some ov := Gf.cell rfl
        have df : cellsAt wf ⟨wx.heap.size, 0, none⟩ 0 4 = some [.int .i64 c.pos, .bool c.brk, .pointer (some ⟨yb2, 0, none⟩), .pointer (some ⟨yb1, 0, none⟩)] := Rf.cellsAt
        have hob := hO.block
        have hY1f : PatV (fun b => b = w4.heap.size ∨ ov.ownBlock = some b) wf (ptrP yb1) (mirP c.before) := PatV.mono kdf (fun i h => by rw [h]; exact ⟨by omega, by omega⟩) (fun b h => by
          rcases h with h | h
          · exact ⟨by omega, by omega⟩
          · have := hob b h; exact ⟨by omega, by omega⟩) hY1
        have hY2f : PatV (fun b => b = w4.heap.size ∨ ov.ownBlock = some b) wf (ptrP yb2) (mirP c.after) := PatV.mono kdf (fun i h => by rw [h]; exact ⟨by omega, by show wx.heap.size < wb.heap.size; omega⟩) (fun b h => by
          rcases h with h | h
          · exact ⟨by omega, by show b < wb.heap.size; omega⟩
          · have := hob b h; exact ⟨by omega, by show b < wb.heap.size; omega⟩) hY2d
        have hAf : All2 (RulR (fun b => b = w4.heap.size ∨ ov.ownBlock = some b) wf) (ls ++ [(c.pos, c.brk, yb2, yb1)]) ((f.rules.take (i + 1)).map mirR) := by
          rw [ht, List.map_append]
          refine All2.snoc (hA.imp fun a d h => ⟨h.1, h.2.1, h.2.2.1.below hbxf, h.2.2.2.below hbxf⟩) ?_
          exact ⟨rfl, rfl, hY2f, hY1f⟩
        have hll := All2.len hA
        rw [List.length_map, List.length_take] at hll
        simp -dsimp only [push_cast, Nat.reduceAdd, Nat.reduceLeDiff, Nat.reduceBEq, Int.reduceNe, Int.reduceEq, Int.reduceLT, Int.reduceLE, g1, df]
        refine rowK elI_24 rfl rfl (by omega) ?_
        intro wr hwr
        have zr := hwr.size
        simp -dsimp only [push_cast, Nat.reduceAdd, Nat.reduceLeDiff, Nat.reduceBEq, Int.reduceNe, Int.reduceEq, Int.reduceLT, Int.reduceLE]
        refine appendK2 (base := w8.heap.size) [(c.pos, c.brk, yb2, yb1)] (enc := encRu) elI_24 (hOf.new hwr) (by rfl) (fun j u hu => by rw [Nat.zero_add]; exact hwr.cell hu) encRu_one (by simp only [List.length_cons, List.length_nil]; omega) (by omega) ?_
        intro vq wq hOq hgq hnq
        have hkq : Kept (fun j => ov.ownBlock = some j) wr wq := Kept.grown hgq (fun _ h => h)
        have Gq := (Gf.below hwr.below (by omega)).kept hkq (fun h => by have := hob _ h; omega)
        have zq := hkq.size
        have hAr : All2 (RulR (fun b => (b = w4.heap.size ∨ ov.ownBlock = some b) ∨ wf.heap.size ≤ b) wr) (ls ++ [(c.pos, c.brk, yb2, yb1)]) ((f.rules.take (i + 1)).map mirR) := hAf.imp fun a d h => ⟨h.1, h.2.1, h.2.2.1.top.below hwr.below, h.2.2.2.top.below hwr.below⟩
        have hobq := hOq.block
        obtain ⟨qa, qc, rfl⟩ := hOq.slice
        have hcl : ∀ b, (b = w4.heap.size ∨ (Value.slice qa (ls ++ [(c.pos, c.brk, yb2, yb1)]).length qc).ownBlock = some b) → (b = w4.heap.size ∨ ov.ownBlock = some b) ∨ wf.heap.size ≤ b := fun b h => by
          rcases h with h | h
          · exact .inl (.inl h)
          · rcases hnq b h with h | h
            · exact .inl (.inr h)
            · exact .inr (by omega)
        simp -dsimp only [push_cast, Nat.reduceAdd, Nat.reduceLeDiff, Nat.reduceBEq, Int.reduceNe, Int.reduceEq, Int.reduceLT, Int.reduceLE]
        refine storeK_of Gq (by simp) rfl ?_
        intro wg hwg
        have zg := hwg.size
        have Gg : Blk wg w4.heap.size 26 [.slice a1 cs.length k1, .slice qa (ls ++ [(c.pos, c.brk, yb2, yb1)]).length qc, .bool f.els] := hwg.blk
        have hOg := hOq.keptX hwg.kept (fun g hg h => by have := hobq g hg; have h' : g = w4.heap.size := h; omega)
        have krg : Kept (fun j => j = w4.heap.size ∨ ov.ownBlock = some j) wr wg := (hkq.weaken (fun j _ h => .inr h)).trans hwg.kept (fun j _ h => .inl h)
        have hAg : All2 (RulR (fun b => b = w4.heap.size ∨ (Value.slice qa (ls ++ [(c.pos, c.brk, yb2, yb1)]).length qc).ownBlock = some b) wg) (ls ++ [(c.pos, c.brk, yb2, yb1)]) ((f.rules.take (i + 1)).map mirR) := hAr.imp fun a d h => RulR.mono krg (fun j h => .inl h) hcl h
        have hb4g : Below w4.heap.size w4 wg := hb4x.trans ((hbxf.mono (by omega)).trans ((hwr.below.mono (by omega)).trans (krg.below (by omega) (fun g h => by
          rcases h with h | h
          · omega
          · have := hob g h; omega))))
        simp -dsimp only [push_cast, Nat.reduceAdd, Nat.reduceLeDiff, Nat.reduceBEq, Int.reduceNe, Int.reduceEq, Int.reduceLT, Int.reduceLE]
        exact ⟨⟨by omega, by omega⟩, ⟨i + 1, _, _, rfl, by omega, Gg, hOg, hAg, hb4g, by omega⟩, by rw [h8]; simp only [intOf]; omega⟩
      · rw [List.take_of_length_le (by omega)] at hA
        have hll := All2.len hA
        rw [List.length_map] at hll
        have hul := udec_length t.length t 0 rfl
        refine callK_of (decode_c t (by omega) wx (hv.below hbx).l) ?_
        rintro uv wy ⟨hU, hby⟩
        have zy := hby.size
        have hbwy := hbx.trans (hby.mono (by omega))
        have haU : Arg uv := hU.nilArg
        obtain ⟨ua, uc, rfl⟩ := hU.slice
        simp -dsimp only [push_cast, Nat.reduceAdd, Nat.reduceLeDiff, Nat.reduceBEq, Int.reduceNe, Int.reduceEq, Int.reduceLT, Int.reduceLE]
        refine callK_of (cloneU_c (udec 0 t) (by omega) (fun _ => False) _ wy (hU.sl.weaken (fun _ h => h.elim)) haU) ?_
        rintro cv wz ⟨hC, hbz⟩
        have zz := hbz.size
        have hbwz := hbwy.trans (hbz.mono (by omega))
        have hcb := hC.block
        simp -dsimp only [push_cast, Nat.reduceAdd, Nat.reduceLeDiff, Nat.reduceBEq, Int.reduceNe, Int.reduceEq, Int.reduceLT, Int.reduceLE]
        refine callK_of (reverseU_c (udec 0 t) _ cv wz (by omega) hC (by omega)) ?_
        rintro _ wa ⟨hD, hka⟩
        have za := hka.size
        have hbya : Below wy.heap.size wy wa := hbz.trans (hka.below (by omega) (fun i h => (hcb i h).1))
        have zya := hbya.size
        have hbxa := hby.trans (hbya.mono (by omega))
        have hb4a := hb4x.trans (hbxa.mono (by omega))
        have hbwa := hbwy.trans (hbya.mono (by omega))
        have hUa := hU.below hbya
        obtain ⟨da, dc, rfl⟩ := hD.slice
        have Fa := B4.below hb4a (by omega)
        have Ga := hG.below hbxa (by omega)
        have dF : cellsAt wa ⟨w2.heap.size, 0, none⟩ 0 3 = some [.slice a1 cs.length k1, .slice a2 rs.length k2, .bool f.els] := Fa.cellsAt
        have hVa : FileV (fun _ => False) wa (.agg #[.slice a1 cs.length k1, .slice a2 rs.length k2, .bool f.els]) f := (hV4.below hb4a).mono (Kept.refl (fun _ => False) _) (fun _ h => h.elim) (fun _ h => h.elim)
        simp -dsimp only [push_cast, Nat.reduceAdd, Nat.reduceLeDiff, Nat.reduceBEq, Int.reduceNe, Int.reduceEq, Int.reduceLT, Int.reduceLE, dF]
        refine callK_of (breaks_c f hpo.1 hpp (by omega) (by omega) (udec 0 t) (by omega) (fun _ => False) _ _ wa hVa (hUa.sl.weaken (fun _ h => h.elim))) ?_
        rintro _ wb ⟨hAb, hbb⟩
        have zb := hbb.size
        unfold BrkR at hAb
        rw [hchk] at hAb
        obtain ⟨nm, av, hnm, rfl, hAO⟩ := hAb
        obtain ⟨aa, ac, rfl⟩ := hAO.slice
        have hbxb := hbxa.trans (hbb.mono (by omega))
        have hb4b := hb4a.trans (hbb.mono (by omega))
        have Gb := Ga.below hbb (by omega)
        obtain ⟨ga, gc, rfl⟩ := hO.slice
        have dG : cellsAt wb ⟨w4.heap.size, 0, none⟩ 0 3 = some [.slice a1 cs.length k1, .slice ga ls.length gc, .bool f.els] := Gb.cellsAt
        have hVb : FileV (fun _ => False) wb (.agg #[.slice a1 cs.length k1, .slice ga ls.length gc, .bool f.els]) (mirF f) :=
          ⟨_, _, cs, ls, rfl, ((S1.below hb24).below hb4b).weaken (fun _ h => h.elim), (hO.below hbxb).sl.weaken (fun _ h => h.elim), A1.imp fun a c h => ClsR.mono (Kept.refl (fun _ => False) _) (fun _ h => h.elim) (fun _ h => h.elim) ⟨h.1, h.2.1, (h.2.2.below hb24).below hb4b⟩,
            hA.imp fun a c h => ⟨h.1, h.2.1, PatV.weak (h.2.2.1.below hbxb) (fun _ h => h.elim), PatV.weak (h.2.2.2.below hbxb) (fun _ h => h.elim)⟩⟩
        have hok' : FileOk (mirF f) := ⟨hpo.1.1, fun r hr => by
          obtain ⟨c, hc, rfl⟩ := List.mem_map.1 hr
          exact ⟨ok_mir _ (hpo.1.2 c hc).2, ok_mir _ (hpo.1.2 c hc).1⟩⟩
        have hpp' : PnOk (mirF f) := fun r hr => by
          obtain ⟨c, hc, rfl⟩ := List.mem_map.1 hr
          show wd (mirP c.after) ≤ 100000 ∧ wd (mirP c.before) ≤ 100000
          rw [wd_mir, wd_mir]
          exact ⟨(hpp c hc).2, (hpp c hc).1⟩
        have hlr' : (mirF f).rules.length ≤ 1000000 := by
          show (f.rules.map mirR).length ≤ 1000000
          rw [List.length_map]
          omega
        have hrl2 : (udec 0 t).reverse.length ≤ 1000 := by rw [List.length_reverse]; omega
        have hDb := hD.below hbb
        simp -dsimp only [push_cast, Nat.reduceAdd, Nat.reduceLeDiff, Nat.reduceBEq, Int.reduceNe, Int.reduceEq, Int.reduceLT, Int.reduceLE, dG]
        refine callK_of (breaks_c (mirF f) hok' hpp' (by show f.classes.length ≤ 1000000; omega) hlr' (udec 0 t).reverse hrl2 (fun _ => False) _ _ wb hVb (hDb.sl.weaken (fun _ h => h.elim))) ?_
        rintro _ wc ⟨hBc, hbc⟩
        have zc := hbc.size
        unfold BrkR at hBc
        rw [chk_mir f hchk] at hBc
        obtain ⟨nm', bv, hnm', rfl, hBO⟩ := hBc
        have hnn : nm' = nm := by
          have h1 : namesS [] f.classes = .ok nm' := hnm'
          rw [hnm] at h1
          cases h1
          rfl
        subst hnn
        have hmir : breaksM (hasN nm') (ptsU (udec 0 t).reverse) (mirF f).rules (mirF f).els = ((breaksM (hasN nm') (ptsU (udec 0 t)) f.rules f.els).map ((udec 0 t).length - ·)).reverse := by
          rw [ptsU_rev, ← ptsU_len (udec 0 t)]
          exact breaks_mir f.rules f.els
        rw [hmir] at hBO
        have hle : ∀ x ∈ breaksM (hasN nm') (ptsU (udec 0 t)) f.rules f.els, x ≤ (udec 0 t).length := fun x hx => by
          by_cases hne : ptsU (udec 0 t) = []
          · unfold breaksM at hx; rw [if_pos hne] at hx; cases hx
          · have := ((breaksM_mem hne).1 hx).1; rw [ptsU_len] at this; exact this
        have hL : ∃ L, L = breaksM (hasN nm') (ptsU (udec 0 t)) f.rules f.els := ⟨_, rfl⟩
        obtain ⟨L, hL⟩ := hL
        have hlA : L.length ≤ 100000 := by have := breaksM_len (has := hasN nm') (pts := ptsU (udec 0 t)) f.rules f.els; rw [ptsU_len, ← hL] at this; omega
        rw [← hL] at hBO hAO hle
        rw [← hL]
        have hM : ∃ M, M = (L.map ((udec 0 t).length - ·)).reverse := ⟨_, rfl⟩
        obtain ⟨M, hM⟩ := hM
        have hMl : M.length = L.length := by rw [hM]; simp
        rw [← hM] at hBO
        obtain ⟨ba, bc, rfl⟩ := hBO.slice
        have hAc := hAO.below hbc
        have hbwc := hbwa.trans ((hbb.mono (by omega)).trans (hbc.mono (by omega)))
        rw [hMl]
        have hBS : Sl (· < wb.heap.size) 1 (En encN) wc (.slice ba L.length bc) M := by rw [← hMl]; exact hBO.sl
        simp -dsimp only [push_cast, Nat.reduceAdd, Nat.reduceLeDiff, Nat.reduceBEq, Int.reduceNe, Int.reduceEq, Int.reduceLT, Int.reduceLE]
        refine wpL_loop [4, 16, 88, 89, 90, 91, 92, 93, 94, 95, 96, 97, 98, 99, 100, 101, 102, 103, 104, 105, 106, 107, 108, 109] (fun z wz => ∃ (i : Nat), z 16 = .int .i64 i ∧ i ≤ L.length ∧ Below wc.heap.size wc wz) (fun z _ => L.length - (intOf (z 16)).toNat) ?_ ?_
        · exact ⟨0, rfl, Nat.zero_le _, Below.refl _ _⟩
        · intro z wz hI
          obtain ⟨i, h16, hi, hbz⟩ := hI
          have zz' := hbz.size
          have hbwz' := hbwc.trans (hbz.mono (by omega))
          simp -dsimp only [push_cast, Nat.reduceAdd, Nat.reduceLeDiff, Nat.reduceBEq, Int.reduceNe, Int.reduceEq, Int.reduceLT, Int.reduceLE, h16]
          refine ⟨fun hlt => ?_, fun hge => ?_⟩
          · obtain ⟨x, hx, hxm, _, ht⟩ := lt_get (l := L) (i := i) (by omega)
            have hxl := hle x hxm
            have hy : M[L.length - 1 - i]? = some ((udec 0 t).length - x) := by
              rw [hM, List.getElem?_reverse (by rw [List.length_map]; omega), List.length_map, List.getElem?_map, show L.length - 1 - (L.length - 1 - i) = i by omega, hx]
              rfl
            obtain ⟨b1, o1, rfl, _, hc1⟩ := (hBS.below hbz).get hy
            obtain ⟨b2, o2, rfl, _, hc2⟩ := ((hAc.sl).below hbz).get hx
            refine wpL_draw (fun w' => ∀ a, w'.cell? a = wz.cell? a) mixed (by kernel_rfl) (fun _ => rfl) ?_
            have c1 : wz.cell? ⟨b1, o1 + (L.length - 1 - i), none⟩ = some (.int .i64 ((udec 0 t).length - x : Nat)) := by simpa [encN] using hc1 0 _ rfl
            have c2 : wz.cell? ⟨b2, o2 + i, none⟩ = some (.int .i64 (x : Int)) := by simpa [encN] using hc2 0 _ rfl
            have c1' : wz.drew.cell? ⟨b1, o1 + (L.length - 1 - i), none⟩ = some (.int .i64 ((udec 0 t).length - x : Nat)) := c1
            have c2' : wz.drew.cell? ⟨b2, o2 + i, none⟩ = some (.int .i64 (x : Int)) := c2
            have ej : ((L.length : Int) - 1 - i) = ((L.length - 1 - i : Nat) : Int) := by omega
            simp -dsimp only [push_cast, Nat.reduceAdd, Nat.reduceLeDiff, Nat.reduceBEq, Int.reduceNe, Int.reduceEq, Int.reduceLT, Int.reduceLE]
            refine ⟨⟨by omega, by omega⟩, ⟨by omega, by omega⟩, ⟨by omega, by omega⟩, ?_⟩
            rw [ej]
            simp -dsimp only [push_cast, Nat.reduceAdd, Nat.reduceLeDiff, Nat.reduceBEq, Int.reduceNe, Int.reduceEq, Int.reduceLT, Int.reduceLE, c1', c2']
            refine ⟨fun w'' hC => by rw [hC, c1]; exact rfl, ⟨by omega, by omega⟩, fun w'' hC => by rw [hC, c2]; exact rfl, ⟨by omega, by omega⟩, fun hne => absurd (by omega) hne, fun heq => ?_⟩
            exact ⟨⟨by omega, by omega⟩, ⟨i + 1, rfl, by omega, hbz.drew⟩, by rw [h16]; simp only [intOf]; omega⟩
          · exact hbwz'
end Go.Proofs.YtgodgfeinjminaaGreatDoor
end
