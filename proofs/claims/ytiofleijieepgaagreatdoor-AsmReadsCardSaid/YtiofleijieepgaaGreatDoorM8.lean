/- Texts of this claim, merged: Svd, Ri0, Ri2, Ri3, RcR, At5, EqR, At6, At7. -/
import Derived.Test.YtiofleijieepgaaGreatDoorM3
import Derived.Test.YtiofleijieepgaaGreatDoorM4
import Derived.Test.YtiofleijieepgaaGreatDoorM7
import Derived.Test.YtiofleijieepgaaGreatDoorM6
section
namespace Go.Proofs.YtiofleijieepgaaGreatDoor
open Go.Vc Go.Proofs Go.RowKit Cae
set_option maxHeartbeats 4000000

/-- A slice, as a value that a cell holds. -/
structure SV where
  a : Option Addr
  n : Nat
  c : Nat
def SV.v (s : SV) : Value := .slice s.a s.n s.c
def encSV (s : SV) : List Value := [s.v]
/-- A pair, as its cells hold it. -/
structure PV where
  b : Bool
  s1 : SV
  i1 : SV
  s2 : SV
  i2 : SV
def encPV (u : PV) : List Value := [.bool u.b, u.s1.v, u.i1.v, u.s2.v, u.i2.v]
/-- What is owned, read with what its elements lead to. -/
theorem ownRead {α β : Type} {base k : Nat} {e : TypeId} {enc : α → List Value} {R : List Value → β → Prop} {w : World} {v : Value} {us : List α} {l : List β} (h : Vc.Own base e k enc w v us) (hl : us.length = l.length)
    (hR : ∀ (i : Nat) (x : β), l[i]? = some x → ∃ u, us[i]? = some u ∧ R (enc u) x) : Sl (· < base) k R w v l := by
  have hs := h.sl
  unfold Sl at hs ⊢
  obtain ⟨a, c, he, hc, hh⟩ := hs
  refine ⟨a, c, by rw [he, hl], by omega, fun i x hx => ?_⟩
  obtain ⟨u, hu, hr⟩ := hR i x hx
  obtain ⟨b, o, cs, ha, hb, hcs, hcell, rfl⟩ := hh i u hu
  exact ⟨b, o, _, ha, hb, hcs, hcell, hr⟩
theorem append_get {α β : Type} {Pr : Nat → α → β → Prop} {us : List α} {l : List β} {u : α} {x : β} (hl : us.length = l.length) (h : ∀ (i : Nat) (y : β), l[i]? = some y → ∃ v, us[i]? = some v ∧ Pr i v y) (hx : Pr l.length u x) :
    ∀ (i : Nat) (y : β), (l ++ [x])[i]? = some y → ∃ v, (us ++ [u])[i]? = some v ∧ Pr i v y := by
  intro i y hy
  rcases Nat.lt_trichotomy i l.length with hlt | heq | hgt
  · rw [List.getElem?_append_left hlt] at hy
    obtain ⟨v, h1, h2⟩ := h i y hy
    exact ⟨v, by rw [List.getElem?_append_left (by omega)]; exact h1, h2⟩
  · subst heq
    rw [List.getElem?_append_right (Nat.le_refl _), Nat.sub_self] at hy
    simp at hy; subst hy
    exact ⟨u, by rw [List.getElem?_append_right (by omega), hl, Nat.sub_self]; rfl, hx⟩
  · rw [List.getElem?_eq_none (by simp; omega)] at hy; cases hy
theorem SetsV.of_values {X : Nat → Prop} {w : World} {v : Value} {l : List (List Rg)} {us : List SV} (hl : us.length = l.length) (h : Sl X 1 (En encSV) w v us) (hu : ∀ (i : Nat) (u : SV) (s : List Rg), us[i]? = some u → l[i]? = some s → Sl X 2 (En encR) w u.v s) : SetsV X w v l := by
  obtain ⟨a, c, rfl, hc⟩ := h.shape
  refine ⟨a, c, by rw [hl], by omega, fun i s hs => ?_⟩
  have hlt := (List.getElem?_eq_some_iff.1 hs).1
  have hx := List.getElem?_eq_getElem (l := us) (i := i) (by omega)
  obtain ⟨b, o, cs, e, hX, hcs, hcell, rfl⟩ := h.getR hx
  exact ⟨b, o, _, e, hX, hcs, hcell, _, rfl, hu i _ s hx hs⟩
end Go.Proofs.YtiofleijieepgaaGreatDoor
namespace Go.Vc
open Go.RowKit
/-- Blocks that came later are not read. -/
theorem Sl.fresh {α : Type} {X X' : Nat → Prop} {k : Nat} {enc : α → List Value} {w : World} {v : Value} {l : List α} (hk : ∀ x, 0 < (enc x).length) (h : Sl X k (En enc) w v l) (hX : ∀ b, X' b → X b ∨ w.heap.size ≤ b) : Sl X' k (En enc) w v l := by
  obtain ⟨a, c, rfl, hc, h⟩ := h
  refine ⟨a, c, rfl, hc, fun i x hx => ?_⟩
  obtain ⟨b, o, cs, e, hnb, hl, hcell, rfl⟩ := h i x hx
  refine ⟨b, o, _, e, fun hb => ?_, hl, hcell, rfl⟩
  have : b < w.heap.size := World.block_lt_of_cell? w _ (hcell 0 _ (List.getElem?_eq_getElem (hk x)))
  rcases hX b hb with h | h
  · exact hnb h
  · omega
/-- What the call owns lies in its own block alone. -/
theorem Own.slOwn {α : Type} {base : Nat} {e : TypeId} {k : Nat} {enc : α → List Value} {w : World} {v : Value} {l : List α} (h : Vc.Own base e k enc w v l) : Sl (fun b => v.ownBlock ≠ some b) k (En enc) w v l := by
  have hs := h.sl
  obtain ⟨a, c, rfl, hc, hs⟩ := hs
  refine ⟨a, c, rfl, hc, fun i x hx => ?_⟩
  obtain ⟨b, o, cs, e, hnb, hl, hcell, hcs⟩ := hs i x hx
  refine ⟨b, o, cs, e, ?_, hl, hcell, hcs⟩
  subst e
  simp [Value.ownBlock]
end Go.Vc
namespace Go.Vc
/-- A slice that is read elsewhere is still read where only other blocks and new ones matter. -/
theorem Sl.moved {α : Type} {X Y Z : Nat → Prop} {k : Nat} {enc : α → List Value} {w w' : World} {v : Value} {l : List α} (h : Sl X k (En enc) w v l) (hk : ∀ x, 0 < (enc x).length) (kc : Kept Y w w') (hY : ∀ i, Y i → X i) (hZ : ∀ b, Z b → X b ∨ w.heap.size ≤ b) : Sl Z k (En enc) w' v l :=
  (((h.fresh hk (X' := fun b => X b ∨ Z b) (fun b hb => by
    rcases hb with hb | hb
    · exact .inl hb
    · exact hZ b hb)).kept kc (fun i hi => .inl (hY i hi))).weaken (fun b hb => .inr hb))
end Go.Vc
end
section
/- A cut behind a piece that may leave. -/
namespace Go.Vc
open Go.RowKit
section
variable {P : Program} {t : Fr} {w : World} {Q : EP}
/-- What comes behind a piece is walked once; the piece may leave, too. -/
theorem wpL_seqD {a b : Code} {p} (M : List Nat) (J : (Nat → Value) → World → Prop) (h1 : wpL P a (seqQ (fun t' w' => t' = ov t M (at_ t') ∧ J (at_ t') w') Q .mk) t w .mk)
    (h2 : ∀ z w', J z w' → wpL P b Q (ov t M z) w' .mk) : wpL P (.seq a b) Q t w p := by
  refine wpL_seqW (wpL_mono ?_ h1)
  rintro e t' w' h
  cases e <;> simp only [seqQ] at h ⊢ <;> first | exact h | skip
  obtain ⟨ht, hJ⟩ := h
  rw [ht]
  exact h2 _ _ hJ
end
end Go.Vc
end
section
/- The reference reads an instruction. -/
namespace Go.Proofs.YtiofleijieepgaaGreatDoor
open Go.Vc Go.Proofs Go.RowKit Cae
set_option maxRecDepth 100000
set_option linter.unusedSimpArgs false
set_option linter.unusedVariables false
attribute [local irreducible] wpL callK valK unitK runK Fun Sl Vc.Own vc vcOps opK pureK
set_option maxHeartbeats 8000000
/-- What is read of variables. -/
structure Ws (w : World) : Prop where
  d : Db w
  e : SErrs w
  p : Pw w
  m : Mx w
  t : Tv w
/-- It is so in all worlds in which the first N blocks are the same. -/
def WsN (N : Nat) (w : World) : Prop := ∀ w', Below N w w' → Ws w'
theorem WsN.go {N : Nat} {w w' : World} (h : WsN N w) (hb : Below N w w') : WsN N w' := fun w'' h2 => h w'' (hb.trans h2)
theorem WsN.here {N : Nat} {w : World} (h : WsN N w) : Ws w := h w (Below.refl _ _)
theorem splitO_c (k : UInt8) (s : List UInt8) (hs : s.length ≤ 1000000) (w : World) (hm : Mx w) : Fun Tryz.prog 24 [str s, str [k]] w fun r w' => Vc.Own w.heap.size 9 1 encS w' r (splitB k s) ∧ Below w.heap.size w w' := by
  obtain ⟨m, hm⟩ := hm
  refine fun_of_calls Tryz.func24 (by kernel_rfl) (by kernel_rfl) ?_
  have h1 : 0 < (⟨[k].toArray⟩ : ByteArray).size := by simp [ByteArray.size]
  refine Calls.mono (Any.strings_Split splitR (by kernel_rfl) ⟨s.toArray⟩ ⟨[k].toArray⟩ m w (by show s.length < _; omega) hm h1) ?_
  rintro e w' ⟨rfl, rfl⟩
  have hk : Lib.splitK [k] 0 (Lib.count s [k]) s = splitB k s := splitK_one k _ s (Nat.le_refl _)
  have hl : (Lib.splitB ⟨[k].toArray⟩ 0 (Lib.countB ⟨s.toArray⟩ ⟨[k].toArray⟩) ⟨s.toArray⟩).map (·.data.toList) = splitB k s := by
    rw [Lib.splitB_data]
    exact hk
  have hlen := Lib.splitB_all ⟨[k].toArray⟩ h1 0 _ ⟨s.toArray⟩ rfl
  generalize Lib.splitB ⟨[k].toArray⟩ 0 (Lib.countB ⟨s.toArray⟩ ⟨[k].toArray⟩) ⟨s.toArray⟩ = L at hl hlen
  generalize Lib.countB ⟨s.toArray⟩ ⟨[k].toArray⟩ + 1 = n at hlen
  have hnew : New w (w.alloc (.cells (L.map Value.string).toArray 9)) 9 (L.map Value.string) := ⟨rfl⟩
  have hn := splitB_len k s
  have e0 : L.map Value.string = (splitB k s).flatMap encS := by
    rw [← hl]
    clear hl hlen hn hk hnew
    induction L with
    | nil => rfl
    | cons x l ih => simp only [List.map_cons, List.flatMap_cons, ih]; rfl
  have hLl : (splitB k s).length = L.length := by rw [← hl, List.length_map]
  refine ⟨_, rfl, ?_, hnew.below⟩
  exact hnew.own (base := w.heap.size) (enc := encS) (l := splitB k s) (n := n) e0 (by rw [hLl, hlen]) (fun _ => rfl) (Nat.le_refl _) (by omega)
theorem atoiT_c (s : List UInt8) (hs : s.length ≤ 1000000) (w : World) (h : SErrs w) : Fun Tryz.prog 82 [str s] w fun r w' => (∃ e, r = .tuple #[.int .i64 (atoiV s), e]) ∧ Below w.heap.size w w' := by
  refine (atoiN_c s hs w h).mono ?_
  rintro r w' ⟨hr, hb⟩
  refine ⟨?_, hb⟩
  rcases hr with ⟨v, hv, rfl⟩ | ⟨_, t, p, rfl⟩
  · exact ⟨_, by unfold atoiV; rw [hv]⟩
  · exact ⟨_, rfl⟩
/-- Code that is being read into a part of a block pb of type T: its rows are the call's own (from B on); sets of it lie in none of these, nor in X. -/
structure Cs (B pb : Nat) (T : TypeId) (l1 l2 : List Value) (X : Nat → Prop) (w : World) (c : CodeP) (sv iv : Value) (us : List SV) : Prop where
  blk : Blk w pb T (l1 ++ sv :: iv :: l2)
  sets : Vc.Own B 102 1 encSV w sv us
  ins : Vc.Own B 89 3 encIn w iv c.ins
  len : us.length = c.sets.length
  each : ∀ (i : Nat) (u : SV) (s : List Rg), us[i]? = some u → c.sets[i]? = some s → Sl (fun b => X b ∨ b = pb ∨ sv.ownBlock = some b ∨ iv.ownBlock = some b) 2 (En encR) w u.v s
  lt : pb < B
  le : B ≤ w.heap.size
  few : ∀ s ∈ c.sets, setRight (-2) s = true
def Cq (B pb : Nat) (T : TypeId) (l1 l2 : List Value) (X : Nat → Prop) (w : World) (c : CodeP) : Prop := ∃ sv iv us, Cs B pb T l1 l2 X w c sv iv us
theorem Cs.below {B pb : Nat} {T : TypeId} {l1 l2 : List Value} {X : Nat → Prop} {w w' : World} {c : CodeP} {sv iv : Value} {us : List SV} (h : Cs B pb T l1 l2 X w c sv iv us) (hb : Below w.heap.size w w') : Cs B pb T l1 l2 X w' c sv iv us :=
  ⟨h.blk.below hb h.blk.lt, h.sets.below hb, h.ins.below hb, h.len, fun i u s h1 h2 => (h.each i u s h1 h2).below hb, h.lt, Nat.le_trans h.le hb.size, h.few⟩
/-- A block of the class is written. -/
theorem Cs.other {B pb rb : Nat} {T : TypeId} {l1 l2 : List Value} {X : Nat → Prop} {w w' : World} {c : CodeP} {sv iv : Value} {us : List SV} (h : Cs B pb T l1 l2 X w c sv iv us) (hk : Kept (· = rb) w w') (hX : X rb) (hr : rb < pb) : Cs B pb T l1 l2 X w' c sv iv us := by
  have hl := h.lt
  exact ⟨h.blk.kept hk (by omega), h.sets.keptX hk (fun g hg hh => by have := (h.sets.block g hg).1; omega), h.ins.keptX hk (fun g hg hh => by have := (h.ins.block g hg).1; omega), h.len, fun i u s h1 h2 => (h.each i u s h1 h2).kept hk (fun i hi => .inl (by rw [hi]; exact hX)), h.lt, Nat.le_trans h.le hk.size, h.few⟩
/-- Code that was read, as a value. -/
theorem Cs.code {B pb : Nat} {T : TypeId} {l1 l2 : List Value} {X : Nat → Prop} {w : World} {c : CodeP} {sv iv : Value} {us : List SV} (h : Cs B pb T l1 l2 X w c sv iv us) (hX : ∀ b, X b → b < B) : CodeV X w (.agg #[sv, iv]) c := by
  obtain ⟨x0, x1, rfl⟩ := h.sets.slice
  refine ⟨_, _, rfl, SetsV.of_values h.len (h.sets.sl.weaken (fun b hb => hX b hb)) (fun i u s h1 h2 => (h.each i u s h1 h2).weaken (fun b hb => .inl hb)), h.ins.sl.weaken (fun b hb => hX b hb)⟩
theorem set_fst (l1 l2 : List Value) (a b v : Value) : (l1 ++ a :: b :: l2).set l1.length v = l1 ++ v :: b :: l2 := by simp
theorem set_snd (l1 l2 : List Value) (a b v : Value) : (l1 ++ a :: b :: l2).set (l1.length + 1) v = l1 ++ a :: v :: l2 := by
  rw [List.set_append_right _ _ (by omega)]; simp
theorem get_fst (l1 l2 : List Value) (a b : Value) : (l1 ++ a :: b :: l2)[l1.length]? = some a := by simp
theorem get_snd (l1 l2 : List Value) (a b : Value) : (l1 ++ a :: b :: l2)[l1.length + 1]? = some b := by
  rw [List.getElem?_append_right (by omega)]; simp
/-- One set more. -/
theorem Cs.push {B pb : Nat} {T : TypeId} {l1 l2 : List Value} {X : Nat → Prop} {wd wa wb wc : World} {c : CodeP} {sv iv vb : Value} {us : List SV} {u : List Rg} {uv : SV} (H : Cs B pb T l1 l2 X wd c sv iv us)
    (hu : Sl (fun b => X b ∨ b = pb ∨ sv.ownBlock = some b ∨ iv.ownBlock = some b) 2 (En encR) wd uv.v u) (hr : setRight (-2) u = true) (hwa : New wd wa 102 (encSV uv)) (hob : Vc.Own B 102 1 encSV wb vb (us ++ [uv])) (hgb : wa.grownBy wb sv.ownBlock)
    (hnb : ∀ g, vb.ownBlock = some g → sv.ownBlock = some g ∨ wa.heap.size ≤ g) (hwc : Put wb wc pb T (l1 ++ vb :: iv :: l2)) : Cs B pb T l1 l2 X wc ⟨c.sets ++ [u], c.ins⟩ vb iv (us ++ [uv]) ∧ Kept (fun i => sv.ownBlock = some i ∨ i = pb) wd wc := by
  have hlt := H.lt
  have hle := H.le
  have za := hwa.size
  have kb : Kept (fun j => sv.ownBlock = some j) wd wb := (Kept.new hwa).trans (Kept.grown hgb (fun _ h => h)) (fun _ _ h => h)
  have kc : Kept (fun i => sv.ownBlock = some i ∨ i = pb) wd wc := (kb.weaken (fun _ _ h => .inl h)).trans hwc.kept (fun _ _ h => .inr h)
  have hmv : ∀ {x : Value} {s : List Rg}, Sl (fun b => X b ∨ b = pb ∨ sv.ownBlock = some b ∨ iv.ownBlock = some b) 2 (En encR) wd x s → Sl (fun b => X b ∨ b = pb ∨ vb.ownBlock = some b ∨ iv.ownBlock = some b) 2 (En encR) wc x s := fun h => by
    refine h.moved (fun _ => by simp [encR]) kc (fun i hi => by
      rcases hi with hi | hi
      · exact .inr (.inr (.inl hi))
      · exact .inr (.inl hi)) (fun b hb => ?_)
    rcases hb with hb | hb | hb | hb
    · exact .inl (.inl hb)
    · exact .inl (.inr (.inl hb))
    · rcases hnb b hb with hh | hh
      · exact .inl (.inr (.inr (.inl hh)))
      · exact .inr (by omega)
    · exact .inl (.inr (.inr (.inr hb)))
  refine ⟨⟨hwc.blk, hob.keptX hwc.kept (fun g hg hh => by have := (hob.block g hg).1; omega), H.ins.keptX kc (fun g hg hh => ?_), by simp [H.len], fun i u' s' h1 h2 => ?_, H.lt, by have := kc.size; omega, fun x hx => ?_⟩, kc⟩
  · rcases hh with hh | hh
    · exact ownNe H.sets H.ins (by decide) g hh hg
    · have := (H.ins.block g hg).1; omega
  · have hi : i < us.length + 1 := by have := (List.getElem?_eq_some_iff.1 h1).1; simpa using this
    by_cases hi' : i < us.length
    · rw [List.getElem?_append_left hi'] at h1
      rw [List.getElem?_append_left (by rw [← H.len]; exact hi')] at h2
      exact hmv (H.each i u' s' h1 h2)
    · have e : i = us.length := by omega
      subst e
      rw [List.getElem?_append_right (Nat.le_refl _), Nat.sub_self] at h1
      rw [H.len, List.getElem?_append_right (Nat.le_refl _), Nat.sub_self] at h2
      simp at h1 h2
      subst h1; subst h2
      exact hmv hu
  · rw [List.mem_append, List.mem_singleton] at hx
    rcases hx with hx | rfl
    · exact H.few x hx
    · exact hr
/-- One instruction more. -/
theorem Cs.pushI {B pb : Nat} {T : TypeId} {l1 l2 : List Value} {X : Nat → Prop} {wd wa wb wc : World} {c : CodeP} {sv iv vb : Value} {us : List SV} {x : I3} (H : Cs B pb T l1 l2 X wd c sv iv us)
    (hwa : New wd wa 89 (encIn x)) (hob : Vc.Own B 89 3 encIn wb vb (c.ins ++ [x])) (hgb : wa.grownBy wb iv.ownBlock)
    (hnb : ∀ g, vb.ownBlock = some g → iv.ownBlock = some g ∨ wa.heap.size ≤ g) (hwc : Put wb wc pb T (l1 ++ sv :: vb :: l2)) : Cs B pb T l1 l2 X wc ⟨c.sets, c.ins ++ [x]⟩ sv vb us ∧ Kept (fun i => iv.ownBlock = some i ∨ i = pb) wd wc := by
  have hlt := H.lt
  have hle := H.le
  have za := hwa.size
  have kb : Kept (fun j => iv.ownBlock = some j) wd wb := (Kept.new hwa).trans (Kept.grown hgb (fun _ h => h)) (fun _ _ h => h)
  have kc : Kept (fun i => iv.ownBlock = some i ∨ i = pb) wd wc := (kb.weaken (fun _ _ h => .inl h)).trans hwc.kept (fun _ _ h => .inr h)
  refine ⟨⟨hwc.blk, H.sets.keptX kc (fun g hg hh => ?_), hob.keptX hwc.kept (fun g hg hh => by have := (hob.block g hg).1; omega), H.len, fun i u' s' h1 h2 => ?_, H.lt, by have := kc.size; omega, H.few⟩, kc⟩
  · rcases hh with hh | hh
    · exact ownNe H.sets H.ins (by decide) g hg hh
    · have := (H.sets.block g hg).1; omega
  · refine (H.each i u' s' h1 h2).moved (fun _ => by simp [encR]) kc (fun i hi => by
      rcases hi with hi | hi
      · exact .inr (.inr (.inr hi))
      · exact .inr (.inl hi)) (fun b hb => ?_)
    rcases hb with hb | hb | hb | hb
    · exact .inl (.inl hb)
    · exact .inl (.inr (.inl hb))
    · exact .inl (.inr (.inr (.inl hb)))
    · rcases hnb b hb with hh | hh
      · exact .inl (.inr (.inr (.inr hh)))
      · exact .inr (by omega)
/-- What the reading of an instruction leaves ahead of the last steps. -/
def StepI (B pb xb : Nat) (T : TypeId) (l1 l2 : List Value) (X : Nat → Prop) (c : CodeP) (s : List UInt8) (iv : Value) (w w' : World) : Prop :=
  ∃ (x : I3) (sets : List (List Rg)) (sv : Value) (us : List SV), Blk w' xb 89 [.int .i64 x.op, .int .i64 x.a, .int .i64 x.b] ∧ Cs B pb T l1 l2 X w' ⟨sets, c.ins⟩ sv iv us ∧ Kept (fun i => i = pb ∨ B ≤ i) w w' ∧
    refI c s = finI ⟨sets, c.ins⟩ x s ∧ (1 ≤ x.op ∧ x.op ≤ 5) ∧ (x.op = 1 → 0 ≤ x.a ∧ x.a < sets.length) ∧ (-9223372036854775808 ≤ x.a ∧ x.a ≤ 9223372036854775807) ∧ (-9223372036854775808 ≤ x.b ∧ x.b ≤ 9223372036854775807) ∧ sets.length ≤ 1000001
theorem readInst_c (N B pb : Nat) (T : TypeId) (l1 l2 : List Value) (X : Nat → Prop) (c : CodeP) (s : List UInt8) (hs : s.length ≤ 999990) (hsz : c.sets.length ≤ 1000000) (hin : c.ins.length ≤ 1000000) (sv iv : Value) (us : List SV) (w : World) (h : Cs B pb T l1 l2 X w c sv iv us) (hX : ∀ b, X b → b < B) (hv : WsN N w) (hN : N ≤ pb) (hg : 14 ≤ N) :
    Fun Tryz.prog 51 [.pointer (some ⟨pb, l1.length, none⟩), str s] w fun r w' => r = .bool (refI c s).isSome ∧ (∀ c', refI c s = some c' → Cq B pb T l1 l2 X w' c') ∧ Kept (fun i => i = pb ∨ B ≤ i) w w' := by
  obtain ⟨sa, sc, rfl⟩ := h.sets.slice
  obtain ⟨ia, ic, rfl⟩ := h.ins.slice
  have hle := h.le
  have hlt := h.lt
  have hsl := splitB_len 32 s
  have hsn : 0 < (splitB 32 s).length := List.length_pos_iff.2 (split_ne 32 s)
  refine fun_of_wL Tryz.func51 rfl (by kernel_rfl) [4] rfl ?_
  push_cast -dsimp (maxSteps := 4000000) [Tryz.ntmps51]
  refine wpL_seqV ?_
  push_cast -dsimp
  refine wpL_seqV ?_
  push_cast -dsimp
  refine callK_of (splitO_c 32 s (by omega) w hv.here.m) ?_
  rintro r w1 ⟨hO1, b1⟩
  have z1 := b1.size
  have hsh := hO1.slice
  obtain ⟨va, vc, rfl⟩ := hsh
  push_cast -dsimp
  refine rowK elI_61 rfl rfl (by omega) ?_
  intro w2 hw2
  have z2 := hw2.size
  push_cast -dsimp
  refine appendK2 (base := w.heap.size) [[], [], []] (enc := encS) elI_61 (hO1.new hw2) (by rfl) (fun j v hv => by rw [Nat.zero_add]; exact hw2.cell hv) (fun x u hu => by simp [encS] at hu; subst hu; rfl) (by simp only [List.length_cons, List.length_nil]; omega) (by omega) ?_
  intro v4 w4 hO4 hg4 hn4
  have b4 : Below w.heap.size w w4 := (b1.trans (hw2.below.mono z1)).trans ((Kept.grown (X := fun j => w.heap.size ≤ j) hg4 (fun k hk => (hO1.block k hk).1)).below (by omega) (fun _ h => h))
  have z4 := b4.size
  have hwords : ∃ gb go wc, v4 = .slice (some ⟨gb, go, none⟩) ((splitB 32 s).length + 3) wc ∧ ∀ i, i < (splitB 32 s).length + 3 → w4.cell? ⟨gb, go + i, none⟩ = some (str ((splitB 32 s).getD i [])) := by
    have hS := hO4.sl
    unfold Sl at hS
    obtain ⟨a', c', e, _, hall⟩ := hS
    obtain ⟨b0, o0, cs0, e0, _, _, _, _⟩ := hall 0 _ (pad_get (by omega))
    subst e0
    refine ⟨b0, o0, c', by rw [e]; simp, fun i hi => ?_⟩
    obtain ⟨b', o', cs', e', _, _, hcell, rfl⟩ := hall i _ (pad_get hi)
    cases e'
    simpa using hcell 0 _ rfl
  clear hO4 hn4 hg4
  obtain ⟨gb, go, wc, rfl, hw⟩ := hwords
  have hgb : gb < w4.heap.size := World.block_lt_of_cell? w4 _ (hw 0 (by omega))
  have hhd : ∃ hd, hd = (splitB 32 s).headD [] := ⟨_, rfl⟩
  obtain ⟨hd, hhd⟩ := hhd
  have hwd0 : w4.cell? ⟨gb, go, none⟩ = some (str hd) := by
    have := hw 0 (by omega)
    rw [hhd]
    cases hq : splitB 32 s with
    | nil => rw [hq] at hsn; simp at hsn
    | cons x l => rw [hq] at this; simpa using this
  push_cast -dsimp
  refine wpL_seqV ?_
  push_cast -dsimp
  refine allocK (z := [.int .i64 0, .int .i64 0, .int .i64 0]) (by kernel_rfl) ?_
  intro w5 hw5
  have z5 := hw5.size
  push_cast -dsimp
  refine storeAgg (n := 3) (by kernel_rfl) hw5.blk rfl (by simp) (by simp [Value.oneCell']) ?_
  intro w6 hw6
  have z6 := hw6.size
  have hxb : ∃ xb, xb = w4.heap.size := ⟨_, rfl⟩
  obtain ⟨xb, hxb⟩ := hxb
  have X6 : Blk w6 xb 89 [.int .i64 0, .int .i64 0, .int .i64 0] := by rw [hxb]; exact hw6.blk
  rw [← hxb]
  push_cast -dsimp
  refine wpL_seqD [7, 8, 18, 19, 20, 21, 22, 23, 24, 25, 26, 27, 28, 29, 30, 31, 32, 33] (fun z wx => ∃ w7 : World, w6.heap.size ≤ w7.heap.size ∧ Below w.heap.size w w7 ∧ Below w4.heap.size w4 w7 ∧ Blk wx xb 89 [.int .i64 (opOf hd : Nat), .int .i64 0, .int .i64 0] ∧ Kept (· = xb) w7 wx) ?_ ?_
  · refine wpL_seqV ?_
    push_cast -dsimp
    refine rowK elI_61 rfl rfl (by omega) ?_
    intro w7 hw7
    have z7 := hw7.size
    have b47 : Below w4.heap.size w4 w7 := (hw5.below.trans (hw6.kept.below (B := w4.heap.size) (by omega) (fun i h => by omega))).trans (hw7.below.mono (by omega))
    have hnm7 : ∀ i, i < 5 → w7.cell? ⟨w6.heap.size, i, none⟩ = some (str (nameI i)) := fun i hi => by
      rcases (show i = 0 ∨ i = 1 ∨ i = 2 ∨ i = 3 ∨ i = 4 by omega) with rfl | rfl | rfl | rfl | rfl <;> exact hw7.cell rfl
    have X7 := X6.below hw7.below X6.lt
    have bw7 := b4.trans (b47.mono z4)
    have hw7w : ∀ i, i < (splitB 32 s).length + 3 → w7.cell? ⟨gb, go + i, none⟩ = some (str ((splitB 32 s).getD i [])) := fun i hi => (b47.cell (by exact hgb)).trans (hw i hi)
    have hwd7 := (b47.cell (p := ⟨gb, go, none⟩) (by exact hgb)).trans hwd0
    push_cast -dsimp
    refine wpL_blockW ?_
    refine wpL_loop [7, 8, 20, 21, 22, 23, 24, 25, 26, 27, 28, 29, 30, 31, 32, 33] (fun z wx => ∃ i : Nat, z 20 = .int .i64 i ∧ i ≤ 5 ∧ Blk wx xb 89 [.int .i64 (opS hd i : Nat), .int .i64 0, .int .i64 0] ∧ Kept (· = xb) w7 wx) (fun z _ => 5 - (intOf (z 20)).toNat) ?_ ?_
    · exact ⟨0, rfl, by omega, by rw [opS_zero]; exact X7, Kept.refl _ _⟩
    · rintro z wx ⟨i, h20, hi, hX, hK⟩
      have hwd0 := hwd7
      have hnm : ∀ i, i < 5 → wx.cell? ⟨w6.heap.size, i, none⟩ = some (str (nameI i)) := fun i hi => hK.cell (hnm7 i hi) (by show w6.heap.size ≠ xb; omega)
      rcases (show i = 0 ∨ i = 1 ∨ i = 2 ∨ i = 3 ∨ i = 4 ∨ i = 5 by omega) with rfl | rfl | rfl | rfl | rfl | rfl
      ·
        have nm : wx.cell? ⟨w6.heap.size, 0, none⟩ = some (str (nameI 0)) := hnm 0 (by omega)
        have hw0 : wx.cell? ⟨gb, go, none⟩ = some (str hd) := hK.cell hwd0 (by show gb ≠ xb; omega)
        unfold nameI at nm
        push_cast -dsimp [h20, nm, hw0]
        refine ⟨by omega, fun he => ?_, fun hne => ?_⟩
        · refine storeK_of hX (by simp) rfl ?_
          intro wy hwy
          have e9 : opS hd (0 + 1) = 0 + 1 := opS_eq 0 (by omega) he
          have Xy : Blk wy xb 89 [.int .i64 (0 + 1), .int .i64 0, .int .i64 0] := hwy.blk
          push_cast -dsimp
          refine ⟨⟨0 + 1, rfl, by omega, ?_, hK.trans hwy.kept (fun _ _ h => h)⟩, by simp only [h20, intOf]; decide⟩
          rw [e9]
          exact Xy
        · have e9 : opS hd (0 + 1) = opS hd 0 := opS_ne 0 hne
          refine ⟨⟨0 + 1, rfl, by omega, ?_, hK⟩, by simp only [h20, intOf]; decide⟩
          rw [e9]
          exact hX
      ·
        have nm : wx.cell? ⟨w6.heap.size, 1, none⟩ = some (str (nameI 1)) := hnm 1 (by omega)
        have hw0 : wx.cell? ⟨gb, go, none⟩ = some (str hd) := hK.cell hwd0 (by show gb ≠ xb; omega)
        unfold nameI at nm
        push_cast -dsimp [h20, nm, hw0]
        refine ⟨by omega, fun he => ?_, fun hne => ?_⟩
        · refine storeK_of hX (by simp) rfl ?_
          intro wy hwy
          have e9 : opS hd (1 + 1) = 1 + 1 := opS_eq 1 (by omega) he
          have Xy : Blk wy xb 89 [.int .i64 (1 + 1), .int .i64 0, .int .i64 0] := hwy.blk
          push_cast -dsimp
          refine ⟨⟨1 + 1, rfl, by omega, ?_, hK.trans hwy.kept (fun _ _ h => h)⟩, by simp only [h20, intOf]; decide⟩
          rw [e9]
          exact Xy
        · have e9 : opS hd (1 + 1) = opS hd 1 := opS_ne 1 hne
          refine ⟨⟨1 + 1, rfl, by omega, ?_, hK⟩, by simp only [h20, intOf]; decide⟩
          rw [e9]
          exact hX
      ·
        have nm : wx.cell? ⟨w6.heap.size, 2, none⟩ = some (str (nameI 2)) := hnm 2 (by omega)
        have hw0 : wx.cell? ⟨gb, go, none⟩ = some (str hd) := hK.cell hwd0 (by show gb ≠ xb; omega)
        unfold nameI at nm
        push_cast -dsimp [h20, nm, hw0]
        refine ⟨by omega, fun he => ?_, fun hne => ?_⟩
        · refine storeK_of hX (by simp) rfl ?_
          intro wy hwy
          have e9 : opS hd (2 + 1) = 2 + 1 := opS_eq 2 (by omega) he
          have Xy : Blk wy xb 89 [.int .i64 (2 + 1), .int .i64 0, .int .i64 0] := hwy.blk
          push_cast -dsimp
          refine ⟨⟨2 + 1, rfl, by omega, ?_, hK.trans hwy.kept (fun _ _ h => h)⟩, by simp only [h20, intOf]; decide⟩
          rw [e9]
          exact Xy
        · have e9 : opS hd (2 + 1) = opS hd 2 := opS_ne 2 hne
          refine ⟨⟨2 + 1, rfl, by omega, ?_, hK⟩, by simp only [h20, intOf]; decide⟩
          rw [e9]
          exact hX
      ·
        have nm : wx.cell? ⟨w6.heap.size, 3, none⟩ = some (str (nameI 3)) := hnm 3 (by omega)
        have hw0 : wx.cell? ⟨gb, go, none⟩ = some (str hd) := hK.cell hwd0 (by show gb ≠ xb; omega)
        unfold nameI at nm
        push_cast -dsimp [h20, nm, hw0]
        refine ⟨by omega, fun he => ?_, fun hne => ?_⟩
        · refine storeK_of hX (by simp) rfl ?_
          intro wy hwy
          have e9 : opS hd (3 + 1) = 3 + 1 := opS_eq 3 (by omega) he
          have Xy : Blk wy xb 89 [.int .i64 (3 + 1), .int .i64 0, .int .i64 0] := hwy.blk
          push_cast -dsimp
          refine ⟨⟨3 + 1, rfl, by omega, ?_, hK.trans hwy.kept (fun _ _ h => h)⟩, by simp only [h20, intOf]; decide⟩
          rw [e9]
          exact Xy
        · have e9 : opS hd (3 + 1) = opS hd 3 := opS_ne 3 hne
          refine ⟨⟨3 + 1, rfl, by omega, ?_, hK⟩, by simp only [h20, intOf]; decide⟩
          rw [e9]
          exact hX
      ·
        have nm : wx.cell? ⟨w6.heap.size, 4, none⟩ = some (str (nameI 4)) := hnm 4 (by omega)
        have hw0 : wx.cell? ⟨gb, go, none⟩ = some (str hd) := hK.cell hwd0 (by show gb ≠ xb; omega)
        unfold nameI at nm
        push_cast -dsimp [h20, nm, hw0]
        refine ⟨by omega, fun he => ?_, fun hne => ?_⟩
        · refine storeK_of hX (by simp) rfl ?_
          intro wy hwy
          have e9 : opS hd (4 + 1) = 4 + 1 := opS_eq 4 (by omega) he
          have Xy : Blk wy xb 89 [.int .i64 (4 + 1), .int .i64 0, .int .i64 0] := hwy.blk
          push_cast -dsimp
          refine ⟨⟨4 + 1, rfl, by omega, ?_, hK.trans hwy.kept (fun _ _ h => h)⟩, by simp only [h20, intOf]; decide⟩
          rw [e9]
          exact Xy
        · have e9 : opS hd (4 + 1) = opS hd 4 := opS_ne 4 hne
          refine ⟨⟨4 + 1, rfl, by omega, ?_, hK⟩, by simp only [h20, intOf]; decide⟩
          rw [e9]
          exact hX
      · push_cast -dsimp [h20]
        rw [opS_five] at hX
        exact ⟨w7, by omega, bw7, b47, hX, hK⟩
  · rintro z w8 ⟨w7, z7, bw7, b47, X8, k8⟩
    have hw7w : ∀ i, i < (splitB 32 s).length + 3 → w7.cell? ⟨gb, go + i, none⟩ = some (str ((splitB 32 s).getD i [])) := fun i hi => (b47.cell (by exact hgb)).trans (hw i hi)
    have z8 := k8.size
    have bw8 := bw7.trans (k8.below (B := w.heap.size) (by omega) (fun i hi => by omega))
    have H8 := h.below bw8
    have hw8 : ∀ i, i < (splitB 32 s).length + 3 → w8.cell? ⟨gb, go + i, none⟩ = some (str ((splitB 32 s).getD i [])) := fun i hi => k8.cell (hw7w i hi) (by show gb ≠ xb; omega)
    have hK8 : Kept (fun i => i = pb ∨ B ≤ i) w w8 := Kept.of_below bw8 (fun i h1 h2 => by omega)
    have hbN : ∀ {w'}, Below w.heap.size w w' → Below N w w' := fun hb => hb.mono (by omega)
    have hop := opOf_le hd
    have x80 : w8.cell? ⟨xb, 0, none⟩ = some (.int .i64 (opOf hd : Nat)) := X8.cell rfl
    have hcd : ∃ od : Int, od = (opOf hd : Nat) := ⟨_, rfl⟩
    obtain ⟨od, hod⟩ := hcd
    rw [← hod] at x80 X8
    refine wpL_seqV ?_
    push_cast -dsimp
    refine wpL_seqD [9, 10, 11, 12, 34, 35, 36, 37, 38, 39, 40, 41, 42, 43, 44, 45, 46, 47, 48, 49, 50, 51, 52, 53, 54, 55, 56, 57, 58, 59, 60, 61, 62, 63, 64, 65, 66, 67, 68, 69, 70, 71, 72, 73, 74, 75, 76, 77, 78, 79, 80, 81, 82, 83, 84, 85, 86, 87, 88, 89, 90, 91, 92, 93, 94, 95, 96, 97, 98, 99, 100, 101, 102, 103, 104, 105, 106, 107, 108, 109, 110, 111, 112, 113, 114, 115, 116, 117, 118, 119, 120, 121, 122, 123, 124, 125, 126, 127, 128, 129, 130, 131, 132, 133, 134, 135, 136] (fun _ w' => StepI B pb xb T l1 l2 X c s (.slice ia c.ins.length ic) w w') ?_ ?_
    · refine wpL_seqV ?_
      push_cast -dsimp [x80]
      refine wpL_blockW ?_
      rcases (show od = 0 ∨ od = 1 ∨ od = 2 ∨ od = 3 ∨ od = 4 ∨ od = 5 by omega) with rfl | rfl | rfl | rfl | rfl | rfl
      · have hI : refI c s = none := refI_0 (by rw [← hhd]; omega)
        refine wpL_of ?_
        push_cast -dsimp [hI, Option.isSome_none]
        exact hK8
      · have hop1 : opOf ((splitB 32 s).headD []) = 1 := by rw [← hhd]; omega
        have hmin : (if (5 : Int) < (s.length : Int) then (5 : Int) else (s.length : Int)) = ((min s.length 5 : Nat) : Int) := by split <;> omega
        have hv8 := (hv.go (hbN bw8)).here
        refine wpL_of ?_
        push_cast -dsimp [hmin, Int.toNat_natCast]
        refine ⟨by omega, ?_⟩
        refine callK_of (parseSetR_c (s.drop (min s.length 5)) (by rw [List.length_drop]; omega) w8 hv8.d hv8.e hv8.t) ?_
        rintro _ w9 ⟨hr, b9⟩
        have z9 := b9.size
        have bw9 := bw8.trans (b9.mono bw8.size)
        have hK9 : Kept (fun i => i = pb ∨ B ≤ i) w w9 := Kept.of_below bw9 (fun i h1 h2 => by omega)
        rcases hr with ⟨uv, u, rfl, hOu, hPu⟩ | ⟨rfl, hno⟩
        · have hsu := setP_of hPu
          have hur := hPu.1
          have hul := right_len hur
          have hsh := hOu.slice
          obtain ⟨ua, uc, rfl⟩ := hsh
          push_cast -dsimp
          refine ⟨fun h5 => ⟨by omega, fun hne => ?_, fun heq => ?_⟩, fun h5 => ?_⟩
          rotate_left 2
          · have hI : refI c s = none := refI_1n hop1 (.inr (.inl (by omega)))
            rw [hI]
            exact ⟨rfl, fun c' h' => (by cases h'), hK9⟩
          · have hI : refI c s = none := refI_1n hop1 (.inr (.inr (fun e => hne (by rw [e]; rfl))))
            rw [hI]
            exact ⟨rfl, fun c' h' => (by cases h'), hK9⟩
          · have hI := refI_1 (c := c) hop1 hsu (fun hh => by
              rcases hh with hh | hh
              · omega
              · exact heq (fun e => hh (by
                  apply UInt8.toNat.inj
                  show _ = 32
                  omega)))
            have H9 := H8.below b9
            have X9 := X8.below b9 X8.lt
            have s9 : w9.cell? ⟨pb, l1.length, none⟩ = some (.slice sa us.length sc) := H9.blk.cell (get_fst ..)
            push_cast -dsimp [s9]
            refine storeK_of X9 (by simp) rfl ?_
            intro wa hwa
            have Xa : Blk wa xb 89 [.int .i64 1, .int .i64 us.length, .int .i64 0] := hwa.blk
            have sa1 := hwa.kept.cell s9 (by show pb ≠ xb; omega)
            push_cast -dsimp [sa1]
            have hsvw := h.code hX
            obtain ⟨sv', iv', ee, hsv, _⟩ := hsvw
            simp only [Value.agg.injEq, Array.mk.injEq, List.cons.injEq, and_true] at ee
            obtain ⟨rfl, rfl⟩ := ee
            have hwx9 : ∀ wx, Kept (· = xb) w9 wx → Below w.heap.size w wx := fun wx hk => bw9.trans (hk.below (by omega) (fun i hi => by omega))
            have hX8l := X8.lt
            have hlen := h.len
            refine ⟨⟨by omega, by omega⟩, ?_⟩
            refine wpL_loop [12, 73, 74, 75, 76, 77, 78, 79, 80, 81, 82, 83, 84, 85, 86, 87, 88, 89] (fun z wx => ∃ k : Nat, z 12 = .int .i64 ((k : Int) - 1) ∧ k ≤ c.sets.length ∧ Blk wx xb 89 [.int .i64 1, .int .i64 (fR u c.sets k : Nat), .int .i64 0] ∧ Kept (· = xb) w9 wx) (fun z _ => (intOf (z 12) + 1).toNat) ?_ ?_
            · refine ⟨c.sets.length, ?_, Nat.le_refl _, ?_, hwa.kept⟩
              · rw [← h.len]; rfl
              · rw [fR_len, ← h.len]; exact Xa
            · rintro z wx ⟨k, h12, hk, hXx, hKx⟩
              have zx := hKx.size
              have bwx := hwx9 wx hKx
              have hvx := (hv.go (hbN bwx)).here
              push_cast -dsimp [h12]
              refine ⟨fun hge => ?_, fun hlt => ?_⟩
              · have hkj : ∃ j, k = j + 1 := ⟨k - 1, by omega⟩
                obtain ⟨j, rfl⟩ := hkj
                have hex := lt_get (l := c.sets) (i := j) (by omega)
                obtain ⟨sj, hsj, hsm, hdr, _⟩ := hex
                have hstep := fR_step (u := u) hdr
                have hgt := Sl.getR (SetsV.below hsv bwx) hsj
                obtain ⟨g, o, cs, ha, hX', hk', hcell, uj, rfl, huj⟩ := hgt
                subst ha
                have cj : wx.cell? ⟨g, o + j, none⟩ = some uj := by simpa using hcell 0 uj rfl
                have sx : wx.cell? ⟨pb, l1.length, none⟩ = some (.slice (some ⟨g, o, none⟩) us.length sc) := hKx.cell s9 (by show pb ≠ xb; omega)
                have hjr := h.few sj hsm
                have hjl := right_len hjr
                have hlen := h.len
                have tj : ((j : Int) + 1 - 1).toNat = j := by omega
                have hux : Sl (· < w8.heap.size) 2 (En encR) wx (.slice ua u.length uc) u := hOu.sl.kept hKx (fun i hi => by omega)
                push_cast -dsimp [sx, cj, tj, Nat.mul_one]
                refine ⟨⟨by omega, by omega⟩, ?_⟩
                refine callK_of (setTextR_c sj (by omega) hjr _ uj wx huj hvx.d) ?_
                rintro _ wy ⟨rfl, bxy⟩
                push_cast -dsimp
                refine callK_of (setTextR_c u (by omega) hur _ _ wy (hux.below bxy) (hv.go (hbN (bwx.trans (bxy.mono bwx.size)))).here.d) ?_
                rintro _ wz ⟨rfl, byz⟩
                have bxz := bxy.trans (byz.mono bxy.size)
                have hXz := hXx.below bxz hXx.lt
                have hKz : Kept (· = xb) w9 wz := hKx.trans (Kept.of_below bxz (X := (· = xb)) (fun i h1 h2 => by omega)) (fun _ _ h => h)
                push_cast -dsimp
                refine ⟨fun he => ?_, fun hne => ?_⟩
                · rw [if_pos he] at hstep
                  refine storeK_of hXz (by simp) rfl ?_
                  intro wq hwq
                  have Xq : Blk wq xb 89 [.int .i64 1, .int .i64 (((j + 1 : Nat) : Int) - 1), .int .i64 0] := hwq.blk
                  push_cast -dsimp
                  refine ⟨⟨by omega, by omega⟩, ⟨j, by congr 1; omega, by omega, ?_, hKz.trans hwq.kept (fun _ _ h => h)⟩, by rw [h12]; simp only [intOf]; omega⟩
                  rw [hstep]
                  have e1 : (((j + 1 : Nat) : Int) - 1) = (j : Int) := by omega
                  rw [e1] at Xq
                  exact Xq
                · rw [if_neg hne] at hstep
                  refine ⟨⟨by omega, by omega⟩, ⟨j, by congr 1; omega, by omega, ?_, hKz⟩, by rw [h12]; simp only [intOf]; omega⟩
                  rw [hstep]
                  exact hXz
              · have hk0 : k = 0 := by omega
                subst hk0
                have hlen := h.len
                have bd := below_drewI wx
                have a1 : ∀ w'', Below wx.heap.size wx w'' → w''.cell? ⟨xb, 1, none⟩ = some (.int .i64 (fR u c.sets 0 : Nat)) := fun w'' h => (hXx.below h hXx.lt).cell rfl
                have s1 : ∀ w'', Below wx.heap.size wx w'' → w''.cell? ⟨pb, l1.length, none⟩ = some (.slice sa us.length sc) := fun w'' h => (h.cell (by show pb < _; omega)).trans (hKx.cell s9 (by show pb ≠ xb; omega))
                have hfr := fR_zero u c.sets
                have hidl := idxR_le u c.sets
                have hbd := bwx.trans (bd.mono bwx.size)
                have Hd := h.below hbd
                have hxd := (hXx.below bd hXx.lt)
                refine wpL_draw (fun w'' => Below wx.heap.size wx w'') mixed (by kernel_rfl) bd ?_
                push_cast -dsimp [a1 _ bd, s1 _ bd]
                refine ⟨fun w'' h => by rw [a1 _ h]; exact rfl, fun w'' h => by rw [s1 _ h]; exact rfl, fun he => ?_, fun hne => ?_⟩
                · rw [if_neg (by omega)] at hI
                  push_cast -dsimp [s1 _ bd]
                  refine rowK elI_40 rfl rfl (by omega) ?_
                  intro we hwe
                  have ze := hwe.size
                  have Hde := Hd.sets.new hwe
                  push_cast -dsimp
                  refine appendK2 (base := B) [(⟨ua, u.length, uc⟩ : SV)] (enc := encSV) elI_40 Hde (by rfl) (fun j v hv => by simpa [encSV, SV.v] using hwe.cell hv) (by simp [encSV, SV.v, Value.oneCell']) (by simp only [List.length_cons, List.length_nil]; omega) (by have := Hd.le; show B ≤ we.heap.size; omega) ?_
                  intro vf wf hof hgf hnf
                  have kf : Kept (fun j => (Value.slice sa us.length sc).ownBlock = some j) wx.drew wf := (Kept.new hwe).trans (Kept.grown hgf (fun _ h => h)) (fun _ _ h => h)
                  have hown : ∀ g, (Value.slice sa us.length sc).ownBlock = some g → B ≤ g ∧ g < w.heap.size := h.sets.block
                  have Bf := Hd.blk.kept kf (fun h => by have := hown _ h; omega)
                  have Xf := hxd.kept kf (fun h => by have := hown _ h; omega)
                  have hsh := hof.slice
                  obtain ⟨qa, qc, rfl⟩ := hsh
                  push_cast -dsimp
                  refine storeK_of Bf (by simp) rfl ?_
                  intro wg hwg
                  rw [set_fst] at hwg
                  have hud : Sl (fun b => X b ∨ b = pb ∨ (Value.slice sa us.length sc).ownBlock = some b ∨ (Value.slice ia c.ins.length ic).ownBlock = some b) 2 (En encR) wx.drew (.slice ua u.length uc) u := ((hOu.sl.kept hKx (fun i hi => by omega)).below bd).weaken (fun b hb => by
                    show b < w8.heap.size
                    rcases hb with hb | hb | hb | hb
                    · have := hX b hb; omega
                    · omega
                    · have := hown b hb; omega
                    · have := h.ins.block b hb; omega)
                  have hpush := Hd.push (uv := ⟨ua, u.length, uc⟩) hud hur hwe hof hgf hnf hwg
                  obtain ⟨Cg, kg⟩ := hpush
                  push_cast -dsimp
                  refine ⟨⟨1, (idxR u c.sets : Nat), 0⟩, c.sets ++ [u], _, _, ?_, Cg, (Kept.of_below hbd (fun i h1 h2 => by omega)).trans kg (fun i _ hi => ?_), hI, ⟨by show (1 : Int) ≤ 1; decide, by show (1 : Int) ≤ 5; decide⟩, fun _ => ⟨Int.natCast_nonneg _, ?_⟩, ⟨?_, ?_⟩, ⟨by show (_ : Int) ≤ 0; decide, by show (0 : Int) ≤ _; decide⟩, ?_⟩
                  · rw [← hfr]
                    exact Xf.kept hwg.kept (by omega)
                  · rcases hi with hi | hi
                    · exact .inr (hown i hi).1
                    · exact .inl hi
                  · rw [List.length_append, List.length_singleton]; show ((idxR u c.sets : Nat) : Int) < _; omega
                  · show (-9223372036854775808 : Int) ≤ (idxR u c.sets : Nat); omega
                  · show ((idxR u c.sets : Nat) : Int) ≤ 9223372036854775807; omega
                  · rw [List.length_append, List.length_singleton]; omega
                · rw [if_pos (by omega)] at hI
                  refine ⟨⟨1, (idxR u c.sets : Nat), 0⟩, c.sets, _, us, ?_, Hd, Kept.of_below hbd (fun i h1 h2 => by omega), hI, ⟨by show (1 : Int) ≤ 1; decide, by show (1 : Int) ≤ 5; decide⟩, fun _ => ⟨Int.natCast_nonneg _, ?_⟩, ⟨?_, ?_⟩, ⟨by show (_ : Int) ≤ 0; decide, by show (0 : Int) ≤ _; decide⟩, by omega⟩
                  · rw [← hfr]
                    exact hxd
                  · show ((idxR u c.sets : Nat) : Int) < _; omega
                  · show (-9223372036854775808 : Int) ≤ (idxR u c.sets : Nat); omega
                  · show ((idxR u c.sets : Nat) : Int) ≤ 9223372036854775807; omega
        · have hI : refI c s = none := refI_1n hop1 (.inl (setP_no hno))
          push_cast -dsimp [hI, Option.isSome_none]
          exact hK9
      · have hop2 : opOf ((splitB 32 s).headD []) = 2 := by rw [← hhd]; omega
        have hn1 := hw8 1 (by omega)
        have hn2 := hw8 2 (by omega)
        have hin1 := atoiV_in ((splitB 32 s).getD 1 [])
        have hin2 := atoiV_in ((splitB 32 s).getD 2 [])
        have hl1 := split_mem (i := 1) (s := s)
        have hl2 := split_mem (i := 2) (s := s)
        refine wpL_of ?_
        push_cast -dsimp [hn1]
        refine ⟨by omega, ?_⟩
        refine callK_of (atoiT_c _ (by omega) w8 (hv.go (hbN bw8)).here.e) ?_
        rintro _ w9 ⟨⟨e9, rfl⟩, b9⟩
        have z9 := b9.size
        have bw9 := bw8.trans (b9.mono bw8.size)
        have X9 := X8.below b9 X8.lt
        push_cast -dsimp
        refine storeK_of X9 (by simp) rfl ?_
        intro wa hwa
        have za := hwa.size
        have Xa : Blk wa xb 89 [.int .i64 2, .int .i64 (atoiV ((splitB 32 s).getD 1 [])), .int .i64 0] := hwa.blk
        have bwa := bw9.trans (hwa.kept.below (B := w.heap.size) (by omega) (fun i h => by omega))
        have hna := hwa.kept.cell ((b9.cell (World.block_lt_of_cell? _ _ hn2)).trans hn2) (by show gb ≠ xb; omega)
        push_cast -dsimp [hna]
        refine ⟨by omega, ?_⟩
        refine callK_of (atoiT_c _ (by omega) wa (hv.go (hbN bwa)).here.e) ?_
        rintro _ wb ⟨⟨eb, rfl⟩, bb⟩
        have zb := bb.size
        have bwb := bwa.trans (bb.mono (by omega))
        push_cast -dsimp
        refine storeK_of (Xa.below bb Xa.lt) (by simp) rfl ?_
        intro wc hwc
        have bwc := bwb.trans (hwc.kept.below (B := w.heap.size) (by omega) (fun i h => by omega))
        push_cast -dsimp
        exact ⟨⟨2, _, _⟩, c.sets, _, us, hwc.blk, h.below bwc, Kept.of_below bwc (fun i h1 h2 => by omega), refI_2 hop2, ⟨by show (1 : Int) ≤ 2; decide, by show (2 : Int) ≤ 5; decide⟩, fun h => (by cases h), hin1, hin2, by omega⟩
      · have hop3 : opOf ((splitB 32 s).headD []) = 3 := by rw [← hhd]; omega
        have hn1 := hw8 1 (by omega)
        have hin1 := atoiV_in ((splitB 32 s).getD 1 [])
        have hl1 := split_mem (i := 1) (s := s)
        refine wpL_of ?_
        push_cast -dsimp [hn1]
        refine ⟨by omega, ?_⟩
        refine callK_of (atoiT_c _ (by omega) w8 (hv.go (hbN bw8)).here.e) ?_
        rintro _ w9 ⟨⟨e9, rfl⟩, b9⟩
        have z9 := b9.size
        have bw9 := bw8.trans (b9.mono bw8.size)
        have X9 := X8.below b9 X8.lt
        push_cast -dsimp
        refine storeK_of X9 (by simp) rfl ?_
        intro wa hwa
        have bwa := bw9.trans (hwa.kept.below (B := w.heap.size) (by omega) (fun i h => by omega))
        push_cast -dsimp
        exact ⟨⟨3, _, 0⟩, c.sets, _, us, hwa.blk, h.below bwa, Kept.of_below bwa (fun i h1 h2 => by omega), refI_3 hop3, ⟨by show (1 : Int) ≤ 3; decide, by show (3 : Int) ≤ 5; decide⟩, fun h => (by cases h), hin1, ⟨by show (_ : Int) ≤ 0; decide, by show (0 : Int) ≤ _; decide⟩, by omega⟩
      · have hop4 : opOf ((splitB 32 s).headD []) = 4 := by rw [← hhd]; omega
        refine wpL_of ?_
        push_cast -dsimp
        exact ⟨⟨4, 0, 0⟩, c.sets, _, us, X8, h.below bw8, hK8, refI_4 hop4, ⟨by decide, by decide⟩, fun h => (by cases h), ⟨by decide, by decide⟩, ⟨by decide, by decide⟩, by omega⟩
      · have hop4 : opOf ((splitB 32 s).headD []) = 5 := by rw [← hhd]; omega
        refine wpL_of ?_
        push_cast -dsimp
        exact ⟨⟨5, 0, 0⟩, c.sets, _, us, X8, h.below bw8, hK8, refI_5 hop4, ⟨by decide, by decide⟩, fun h => (by cases h), ⟨by decide, by decide⟩, ⟨by decide, by decide⟩, by omega⟩
    · rintro z2 w9 ⟨x, sets, sv9, us9, X9, C9, k9, hI, hop9, ha9, hba, hbb, hsn9⟩
      have z9 := k9.size
      have hsh := C9.sets.slice
      obtain ⟨qa, qc, rfl⟩ := hsh
      have B9d := C9.blk.drew
      have T9d := X9.drew
      refine wpL_seqW ?_
      refine wpL_last (fun w' => Blk w' pb T (l1 ++ .slice qa us9.length qc :: .slice ia c.ins.length ic :: l2) ∧ Blk w' xb 89 [.int .i64 x.op, .int .i64 x.a, .int .i64 x.b]) mixed (by kernel_rfl) (by simp) ⟨B9d, T9d⟩ ?_
      have g1 : ∀ w', Blk w' pb T (l1 ++ .slice qa us9.length qc :: .slice ia c.ins.length ic :: l2) → w'.cell? ⟨pb, l1.length + 1, none⟩ = some (.slice ia c.ins.length ic) := fun w' h => h.cell (get_snd ..)
      have g2 : ∀ w', Blk w' xb 89 [.int .i64 x.op, .int .i64 x.a, .int .i64 x.b] → cellsAt w' ⟨xb, 0, none⟩ 0 3 = some [.int .i64 x.op, .int .i64 x.a, .int .i64 x.b] := fun w' h => h.cellsAt
      push_cast -dsimp [g1 _ B9d, g2 _ T9d]
      refine ⟨fun w'' h => by rw [g1 _ h.1]; exact rfl, fun w'' h => by rw [g2 _ h.2]; exact rfl, ?_⟩
      refine rowK elI_41 rfl rfl (by omega) ?_
      intro wa hwa
      have za : wa.heap.size = w9.heap.size + 1 := hwa.size
      have Ba := B9d.below hwa.below B9d.lt
      have Ta := T9d.below hwa.below T9d.lt
      refine ⟨⟨Ba, Ta⟩, ?_⟩
      have C9d : Cs B pb T l1 l2 X w9.drew ⟨sets, c.ins⟩ (.slice qa us9.length qc) (.slice ia c.ins.length ic) us9 := C9.below (below_drewI w9)
      have hOa := C9d.ins.new hwa
      push_cast -dsimp
      refine appendK2 (base := B) [x] (enc := encIn) elI_41 hOa (by rfl) (fun j u hu => by simpa [encIn] using hwa.cell hu) (by simp [encIn, Value.oneCell']) (by simp only [List.length_cons, List.length_nil]; omega) (by have := C9d.le; show B ≤ wa.heap.size; omega) ?_
      intro vb wb hob hgb hnb
      have kb : Kept (fun j => (Value.slice ia c.ins.length ic).ownBlock = some j) w9.drew wb := (Kept.new hwa).trans (Kept.grown hgb (fun _ h => h)) (fun _ _ h => h)
      have hown : ∀ g, (Value.slice ia c.ins.length ic).ownBlock = some g → B ≤ g ∧ g < w.heap.size := h.ins.block
      have Bb := B9d.kept kb (fun h => by have := hown _ h; omega)
      have Tb := T9d.kept kb (fun h => by have := hown _ h; omega)
      refine ⟨⟨Bb, Tb⟩, ?_⟩
      have hsh := hob.slice
      obtain ⟨ib, icb, rfl⟩ := hsh
      push_cast -dsimp
      refine storeK_of Bb (by simp) rfl ?_
      intro wc hwc
      have zc := hwc.size
      rw [set_snd] at hwc
      have hpush := C9d.pushI hwa hob hgb hnb hwc
      obtain ⟨Cc, kc⟩ := hpush
      have Tc := Tb.kept hwc.kept (by omega)
      have hKc : Kept (fun i => i = pb ∨ B ≤ i) w wc := (k9.drew).trans kc (fun i _ hi => by
        rcases hi with hi | hi
        · exact .inr (hown i hi).1
        · exact .inl hi)
      push_cast -dsimp
      have hbN9 : Below N w wc := hKc.below (by omega) (fun i hi => by omega)
      have hvc := (hv.go hbN9)
      have hcode := Cc.code hX
      have bd := below_drewI wc
      have a0 : ∀ w'', Below wc.heap.size wc w'' → w''.cell? ⟨xb, 1, none⟩ = some (.int .i64 x.a) := fun w'' h => (Tc.below h Tc.lt).cell rfl
      have a1 : ∀ w'', Below wc.heap.size wc w'' → w''.cell? ⟨xb, 2, none⟩ = some (.int .i64 x.b) := fun w'' h => (Tc.below h Tc.lt).cell rfl
      have a2 : ∀ w'', Below wc.heap.size wc w'' → cellsAt w'' ⟨pb, l1.length, none⟩ 0 2 = some [.slice qa us9.length qc, .slice ib (c.ins ++ [x]).length icb] := fun w'' h => blkSome (n := 2) (xs := [.slice qa us9.length qc, .slice ib (c.ins ++ [x]).length icb]) (Cc.blk.below h Cc.blk.lt) l1.length (by simp) rfl
      have a3 : ∀ w'', Below wc.heap.size wc w'' → cellsAt w'' ⟨xb, 0, none⟩ 0 3 = some [.int .i64 x.op, .int .i64 x.a, .int .i64 x.b] := fun w'' h => (Tc.below h Tc.lt).cellsAt
      refine wpL_seqW ?_
      refine wpL_draw (fun w'' => Below wc.heap.size wc w'') mixed (by kernel_rfl) bd ?_
      push_cast -dsimp [a0 _ bd, a1 _ bd, a2 _ bd, a3 _ bd]
      have hfalse : ∀ {w'' : World}, Below wc.heap.size wc w'' → ¬ (0 ≤ x.a ∧ 0 ≤ x.b ∧ instL sets x = s) → Value.bool false = Value.bool (refI c s).isSome ∧ (∀ (c' : CodeP), refI c s = some c' → Cq B pb T l1 l2 X w'' c') ∧ Kept (fun i => i = pb ∨ B ≤ i) w w'' := fun hb hn => by
        have hI' : refI c s = none := by rw [hI]; exact if_neg hn
        rw [hI']
        exact ⟨rfl, fun c' h' => (by cases h'), hKc.trans (Kept.of_below hb (X := fun _ => False) (fun i h1 h2 => by omega)) (fun i _ hi => hi.elim)⟩
      refine ⟨fun w'' h => by rw [a0 _ h]; exact rfl, fun hA => ⟨fun w'' h => by rw [a1 _ h]; exact rfl, fun hB => ⟨fun w'' h => by rw [a2 _ h]; exact rfl, fun w'' h => by rw [a3 _ h]; exact rfl, ?_⟩, fun hB => ?_⟩, fun hA => ?_⟩
      · have zk := hKc.size
        have hvd := (hvc.go (bd.mono (by omega))).here
        refine callK_of (instTextR_c ⟨sets, c.ins ++ [x]⟩ x hop9 ha9 hba hbb (by show sets.length < _; omega) (fun t ht => ⟨Cc.few t ht, by have := right_len (Cc.few t ht); omega⟩) X _ wc.drew (hcode.below bd) hvd.d hvd.p (by have := bd.size; omega)) ?_
        rintro _ wd ⟨rfl, bcd⟩
        have bwd := bd.trans (bcd.mono bd.size)
        refine ⟨bwd, ?_⟩
        push_cast -dsimp
        refine wpL_of ?_
        push_cast -dsimp
        by_cases hfin : instL sets x = s
        · have hI' : refI c s = some ⟨sets, c.ins ++ [x]⟩ := by rw [hI]; exact if_pos ⟨hA, hB, hfin⟩
          rw [hI', decide_eq_true hfin]
          refine ⟨rfl, fun c' h' => ?_, hKc.trans (Kept.of_below bwd (X := fun _ => False) (fun i h1 h2 => by omega)) (fun i _ hi => hi.elim)⟩
          cases h'
          exact ⟨_, _, _, Cc.below bwd⟩
        · rw [decide_eq_false hfin]
          exact hfalse bwd (fun h => hfin h.2.2)
      · refine wpL_of ?_
        push_cast -dsimp
        exact hfalse bd (fun h => hB h.2.1)
      · refine wpL_of ?_
        push_cast -dsimp
        exact hfalse bd (fun h => hA h.1)
end Go.Proofs.YtiofleijieepgaaGreatDoor
end
section
/- The closures of the reference's ParseProgram. -/
namespace Go.Proofs.YtiofleijieepgaaGreatDoor
open Go.Vc Go.Proofs Go.RowKit Cae
set_option maxRecDepth 100000
set_option linter.unusedSimpArgs false
set_option linter.unusedVariables false
attribute [local irreducible] wpL callK valK unitK runK Fun Sl Vc.Own vc vcOps opK pureK
set_option maxHeartbeats 8000000
theorem ends_c (t : List UInt8) (w : World) : Fun Tryz.prog 48 [str t] w fun r w' => r = .bool (stopA t) ∧ w' = w := by
  have hst : stopA t = (t == [97, 102, 116, 101, 114] || ([114, 117, 108, 101, 32] : List UInt8).isPrefixOf t || ([101, 108, 115, 101, 32] : List UInt8).isPrefixOf t) := rfl
  rw [hst]
  refine fun_of_vc Tryz.func48 rfl (by kernel_rfl) [2] rfl ?_
  push_cast -dsimp (maxSteps := 4000000) [Tryz.ntmps48]
  refine ⟨fun hne => ?_, fun he => ?_⟩
  rotate_left
  · subst he
    rfl
  · have e1 : (t == [97, 102, 116, 101, 114]) = false := beq_eq_false_iff_ne.2 hne
    rw [e1]
    refine callK_of (hasPre_c t [114, 117, 108, 101, 32] w) ?_
    rintro _ w1 ⟨rfl, rfl⟩
    cases hpr : ([114, 117, 108, 101, 32] : List UInt8).isPrefixOf t with
    | true =>
      push_cast -dsimp
      simp
    | false =>
      push_cast -dsimp
      refine callK_of (hasPre_c t [101, 108, 115, 101, 32] w1) ?_
      rintro _ w2 ⟨rfl, rfl⟩
      push_cast -dsimp
theorem line_c (L : List (List UInt8)) (hL : L.length ≤ 1000000) (n : Nat) (ab lb : Nat) (X : Nat → Prop) (lv : Value) (w : World) (ha : w.cell? ⟨ab, 0, none⟩ = some (.int .i64 n)) (hl : w.cell? ⟨lb, 0, none⟩ = some lv) (hS : Sl X 1 (En encS) w lv L) :
    Fun Tryz.prog 47 [.pointer (some ⟨ab, 0, none⟩), .pointer (some ⟨lb, 0, none⟩)] w fun r w' => r = str (L.getD n []) ∧ w' = w := by
  obtain ⟨va, vc, rfl, hvc⟩ := hS.shape
  refine fun_of_vc Tryz.func47 rfl (by kernel_rfl) [2] rfl ?_
  push_cast -dsimp (maxSteps := 4000000) [Tryz.ntmps47]
  by_cases hn : n < L.length
  · have hg := lt_get (l := L) (i := n) (by omega)
    obtain ⟨t, ht, _⟩ := hg
    have hgt := hS.get ht
    obtain ⟨g, o, rfl, hXg, hcell⟩ := hgt
    have ct : w.cell? ⟨g, o + n, none⟩ = some (str t) := by have := hcell 0 _ rfl; simpa using this
    push_cast -dsimp [ha, hl, ct, Nat.mul_one]
    refine ⟨fun _ => ⟨⟨by omega, by omega⟩, ?_⟩, fun h => by omega⟩
    rw [List.getD_eq_getElem?_getD, ht]; rfl
  · push_cast -dsimp [ha, hl]
    refine ⟨fun h => by omega, fun _ => ?_⟩
    rw [List.getD_eq_getElem?_getD, List.getElem?_eq_none (by omega)]; rfl
theorem badP_c (n : Int) (ab : Nat) (w : World) (ha : w.cell? ⟨ab, 0, none⟩ = some (.int .i64 n)) :
    Fun Tryz.prog 49 [.pointer (some ⟨ab, 0, none⟩)] w fun r w' => r = .tuple #[.agg #[.slice none 0 0, .bool false], .agg #[.int .i64 3, .int .i64 n]] ∧ Below w.heap.size w w' := by
  have hlt : ab < w.heap.size := World.block_lt_of_cell? w _ ha
  refine fun_of_wLC Tryz.func49 rfl (by kernel_rfl) [.cell 1 24, .cell 2 52] rfl ?_
  push_cast -dsimp (maxSteps := 4000000) [Tryz.ntmps49]
  refine wpL_seqV ?_
  push_cast -dsimp
  refine allocK (z := [.slice none 0 0, .bool false]) (by kernel_rfl) ?_
  intro w1 hw1
  have z1 := hw1.size
  push_cast -dsimp
  refine allocK (z := [.int .i64 0, .int .i64 0]) (by kernel_rfl) ?_
  intro w2 hw2
  have z2 := hw2.size
  have b2 := hw1.below.trans (hw2.below.mono (by omega))
  have a2 : w2.cell? ⟨ab, 0, none⟩ = some (.int .i64 n) := (b2.cell hlt).trans ha
  push_cast -dsimp
  refine wpL_seqW ?_
  refine wpL_draw (fun w'' => w''.cell? ⟨ab, 0, none⟩ = some (.int .i64 n)) mixed (by kernel_rfl) a2 ?_
  have a2d : w2.drew.cell? ⟨ab, 0, none⟩ = some (.int .i64 n) := a2
  push_cast -dsimp [a2d]
  refine ⟨fun w'' h => by rw [h]; exact rfl, ?_⟩
  have P2 : Blk w2.drew w.heap.size 24 [.slice none 0 0, .bool false] := (show Blk w2 w.heap.size _ _ from hw1.blk.below hw2.below (by omega))
  refine storeAgg (xt := 24) (n := 2) (by kernel_rfl) P2 rfl (by simp) (by simp [Value.oneCell']) ?_
  intro w3 hw3
  have z3 : w3.heap.size = w2.heap.size := hw3.size
  have a3 := hw3.kept.cell a2d (by show ab ≠ _; omega)
  refine ⟨a3, ?_⟩
  have F3 : Blk w3 w1.heap.size 52 [.int .i64 0, .int .i64 0] := (show Blk w2.drew w1.heap.size _ _ from hw2.blk).kept hw3.kept (by omega)
  push_cast -dsimp
  refine storeAgg (xt := 52) (n := 2) (by kernel_rfl) F3 rfl (by simp) (by simp [Value.oneCell']) ?_
  intro w4 hw4
  have a4 := hw4.kept.cell a3 (by show ab ≠ _; omega)
  refine ⟨a4, ?_⟩
  have c4 : cellsAt w4 ⟨w.heap.size, 0, none⟩ 0 2 = some [.slice none 0 0, .bool false] := (hw3.blk.kept hw4.kept (by omega)).cellsAt
  have f4 : cellsAt w4 ⟨w1.heap.size, 0, none⟩ 0 2 = some [.int .i64 3, .int .i64 n] := hw4.blk.cellsAt
  push_cast -dsimp
  refine wpL_of ?_
  push_cast -dsimp [c4, f4]
  have b4 : Below w.heap.size w2.drew w4 := (hw3.kept.below (B := w.heap.size) (by show _ ≤ w2.heap.size; omega) (fun i h => by omega)).trans (hw4.kept.below (by omega) (fun i h => by omega))
  exact (b2.trans ((below_drewI w2).mono (by omega))).trans b4
/-- What the reading of code leaves: how far it came, and the code. -/
def CodeQ (B pb : Nat) (T : TypeId) (l1 l2 : List Value) (X : Nat → Prop) (L : List (List UInt8)) (n n' : Nat) (r : Value) (w : World) : Prop :=
  (∃ c, r = .bool true ∧ codeA ⟨[], []⟩ (L.drop n) = .ok (c, L.drop n') ∧ Cq B pb T l1 l2 X w c) ∨ (r = .bool false ∧ codeA ⟨[], []⟩ (L.drop n) = .error (L.length - n'))
theorem codeP_c (N : Nat) (L : List (List UInt8)) (hL : L.length ≤ 1000000) (hLm : ∀ t ∈ L, t.length ≤ 999990) (n : Nat) (hn : n ≤ L.length) (ab lb eb pb : Nat) (T : TypeId) (l1 l2 : List Value) (XL : Nat → Prop) (lv : Value) (w : World)
    (hA : Blk w ab 3 [.int .i64 n]) (hl : w.cell? ⟨lb, 0, none⟩ = some lv) (he : w.cell? ⟨eb, 0, none⟩ = some (.func (.func 48) #[] #[])) (hS : Sl XL 1 (En encS) w lv L)
    (hP : Blk w pb T (l1 ++ .slice none 0 0 :: .slice none 0 0 :: l2)) (hXL : XL ab ∧ XL pb ∧ ∀ b, w.heap.size ≤ b → XL b) (hlt : lb < w.heap.size ∧ eb < w.heap.size ∧ lb ≠ ab ∧ eb ≠ ab ∧ lb ≠ pb ∧ eb ≠ pb ∧ ab < pb) (hv : WsN N w) (hN : N ≤ ab) (hg : 14 ≤ N) :
    Fun Tryz.prog 50 [.pointer (some ⟨pb, l1.length, none⟩), .pointer (some ⟨ab, 0, none⟩), .pointer (some ⟨lb, 0, none⟩), .pointer (some ⟨eb, 0, none⟩)] w
      fun r w' => ∃ n' : Nat, n ≤ n' ∧ n' ≤ L.length ∧ Blk w' ab 3 [.int .i64 n'] ∧ CodeQ w.heap.size pb T l1 l2 (· < pb + 1) L n n' r w' ∧ Kept (fun i => i = ab ∨ i = pb ∨ w.heap.size ≤ i) w w' := by
  have hpl := hP.lt
  obtain ⟨va, vc, rfl, hvc⟩ := hS.shape
  refine fun_of_wL Tryz.func50 rfl (by kernel_rfl) [5] rfl ?_
  push_cast -dsimp (maxSteps := 4000000) [Tryz.ntmps50]
  refine wpL_seqV ?_
  push_cast -dsimp
  have hC0 : Cs w.heap.size pb T l1 l2 (· < pb + 1) w ⟨[], []⟩ (.slice none 0 0) (.slice none 0 0) [] := ⟨hP, Vc.Own.nil (enc := encSV) _ _ (fun _ => rfl) _, Vc.Own.nil (enc := encIn) _ _ (fun _ => rfl) _, rfl, fun i u s h1 h2 => by simp at h1, hpl, Nat.le_refl _, fun s hs => by cases hs⟩
  refine wpL_seqD [5, 6, 7, 8, 9, 10, 11, 12, 13, 14, 15, 16, 17, 18, 19, 20, 21, 22, 23, 24, 25, 26, 27] (fun z wx => ∃ (n' : Nat) (c : CodeP), n ≤ n' ∧ n' ≤ L.length ∧ codeA ⟨[], []⟩ (L.drop n) = .ok (c, L.drop n') ∧ Blk wx ab 3 [.int .i64 n'] ∧ Cq w.heap.size pb T l1 l2 (· < pb + 1) wx c ∧ Kept (fun i => i = ab ∨ i = pb ∨ w.heap.size ≤ i) w wx) ?_ ?_
  · refine wpL_blockW ?_
    refine wpL_loopW [5, 6, 7, 8, 9, 10, 11, 12, 13, 14, 15, 16, 17, 18, 19, 20, 21, 22, 23, 24, 25, 26, 27] (fun z wx => ∃ (n' : Nat) (c : CodeP), n ≤ n' ∧ n' ≤ L.length ∧ codeA ⟨[], []⟩ (L.drop n) = codeA c (L.drop n') ∧ WFc c ∧ Few c ∧ c.ins.length ≤ n' ∧ Blk wx ab 3 [.int .i64 n'] ∧ Cq w.heap.size pb T l1 l2 (· < pb + 1) wx c ∧ Kept (fun i => i = ab ∨ i = pb ∨ w.heap.size ≤ i) w wx) (fun _ wx => L.length - (match wx.cell? ⟨ab, 0, none⟩ with | some (.int _ k) => k.toNat | _ => 0)) ?_ ?_
    · exact ⟨n, ⟨[], []⟩, Nat.le_refl _, hn, rfl, wf_nil, few_nil, Nat.zero_le _, hA, ⟨_, _, _, hC0⟩, Kept.refl _ _⟩
    · rintro z wx ⟨n', c, hnn, hnL, hcl, hwf, hfew, hcn, hAx, hCx, hKx⟩
      obtain ⟨sv, iv, us, hCx⟩ := hCx
      have zx := hKx.size
      have lx : wx.cell? ⟨lb, 0, none⟩ = some (.slice va L.length vc) := hKx.cell hl (by show ¬ (lb = ab ∨ lb = pb ∨ _ ≤ lb); omega)
      have ex : wx.cell? ⟨eb, 0, none⟩ = some (.func (.func 48) #[] #[]) := hKx.cell he (by show ¬ (eb = ab ∨ eb = pb ∨ _ ≤ eb); omega)
      have Sx : Sl XL 1 (En encS) wx (.slice va L.length vc) L := hS.kept hKx (fun i hi => by
        rcases hi with rfl | rfl | hi
        · exact hXL.1
        · exact hXL.2.1
        · exact hXL.2.2 i hi)
      have ax : wx.cell? ⟨ab, 0, none⟩ = some (.int .i64 n') := hAx.cell rfl
      have hbN : Below N w wx := hKx.below (by omega) (fun i hi => by omega)
      have hvx := hv.go hbN
      refine wpL_seqW (wpL_seqW ?_)
      by_cases hlen : n' < L.length
      · have hg1 := lt_get (l := L) (i := n') hlen
        obtain ⟨t, ht, htm, hdr, _⟩ := hg1
        have hgt := Sx.get ht
        obtain ⟨g, o, e, hXg, hcell⟩ := hgt
        subst e
        have ct : wx.cell? ⟨g, o + n', none⟩ = some (str t) := by have := hcell 0 _ rfl; simpa using this
        have gg : ∀ {p : Addr} {u : Value}, wx.cell? p = some u → ∀ w'', Below wx.heap.size wx w'' → w''.cell? p = some u := fun h w'' hb => (hb.cell (World.block_lt_of_cell? _ _ h)).trans h
        have bd := below_drewI wx
        refine wpL_draw (fun w'' => Below wx.heap.size wx w'') mixed (by kernel_rfl) bd ?_
        have m1 := gg ax _ bd
        have m2 := gg lx _ bd
        have m3 := gg ex _ bd
        have m4 := gg ct _ bd
        push_cast -dsimp [m1, m2, m3, m4, Nat.mul_one]
        refine ⟨fun w'' h => by rw [gg ax _ h]; exact rfl, fun w'' h => by rw [gg lx _ h]; exact rfl, fun _ => ⟨fun w'' h => by rw [gg ex _ h]; exact rfl, fun w'' h => by rw [gg lx _ h]; exact rfl, fun w'' h => by rw [gg ax _ h]; exact rfl, ⟨by omega, by omega⟩, fun w'' h => by rw [gg ct _ h]; exact rfl, ?_⟩, fun h => absurd hlen (by omega)⟩
        refine callK_of (ends_c t wx.drew) ?_
        rintro _ wy ⟨rfl, hwe⟩
        subst hwe
        refine ⟨bd, ?_⟩
        have hAd := hAx.below bd hAx.lt
        have hCd := hCx.below bd
        have hKd : Kept (fun i => i = ab ∨ i = pb ∨ w.heap.size ≤ i) w wx.drew := hKx.drew
        cases hst : stopA t with
        | true =>
          push_cast -dsimp
          refine wpL_of ?_
          push_cast -dsimp
          refine ⟨n', c, hnn, hnL, ?_, hAd, ⟨_, _, _, hCd⟩, hKd⟩
          rw [hcl, hdr, codeA, if_pos hst]
        | false =>
          push_cast -dsimp
          refine wpL_of ?_
          push_cast -dsimp
          refine wpL_blockW ?_
          refine wpL_seqV ?_
          push_cast -dsimp [m1, m2, m4, Nat.mul_one]
          refine ⟨⟨by omega, by omega⟩, ?_⟩
          have hf1 := hfew.1
          have hbNd : Below N wx wx.drew := bd.mono (by omega)
          refine callK_of (readInst_c N w.heap.size pb T l1 l2 (· < pb + 1) c t (hLm t htm) (by omega) (by omega) sv iv us wx.drew hCd (fun b hb => by omega) (hvx.go hbNd) (by omega) hg) ?_
          rintro _ wz ⟨rfl, hyes, kz⟩
          have hre := refI_eq (c := c) (s := t) hwf hCx.few
          rw [hre] at hyes
          rw [hre]
          have hAz := hAd.kept kz (by show ¬ (ab = pb ∨ w.heap.size ≤ ab); omega)
          have hKz : Kept (fun i => i = ab ∨ i = pb ∨ w.heap.size ≤ i) w wz := hKd.trans kz (fun i _ hi => .inr hi)
          have zz := kz.size
          have hns : codeA c (t :: L.drop (n' + 1)) = match instA c t with
              | none => .error ((L.drop (n' + 1)).length + 1)
              | some c' => codeA c' (L.drop (n' + 1)) := by
            rw [codeA, if_neg (by rw [hst]; simp)]
            cases instA c t <;> rfl
          cases hi : instA c t with
          | none =>
            push_cast -dsimp [Option.isSome_none]
            refine ⟨n', hnn, hnL, hAz, .inr ⟨rfl, ?_⟩, hKz⟩
            rw [hcl, hdr, hns, hi]
            show Except.error ((L.drop (n' + 1)).length + 1) = _
            rw [List.length_drop]
            congr 1
            omega
          | some c' =>
            have hCz := hyes c' hi
            obtain ⟨sv', iv', us', hCz⟩ := hCz
            have hgr := instA_grow hi hfew
            have hrd := inst_read hwf hi
            have az : wz.cell? ⟨ab, 0, none⟩ = some (.int .i64 n') := hAz.cell rfl
            push_cast -dsimp [Option.isSome_some]
            refine wpL_of ?_
            push_cast -dsimp [az]
            refine ⟨⟨by omega, by omega⟩, ?_⟩
            refine storeK_of hAz (by simp) rfl ?_
            intro wq hwq
            have hAq : Blk wq ab 3 [.int .i64 ((n' + 1 : Nat) : Int)] := hwq.blk
            have hCq := hCz.other hwq.kept (by show ab < pb + 1; omega) (by omega)
            push_cast -dsimp
            refine ⟨⟨n' + 1, c', by omega, by omega, by rw [hcl, hdr, hns, hi], hrd.1, hgr.1, by omega, hAq, ⟨_, _, _, hCq⟩, hKz.trans hwq.kept (fun i _ hi => .inl hi)⟩, ?_⟩
            have aq : wq.cell? ⟨ab, 0, none⟩ = some (.int .i64 ((n' + 1 : Nat) : Int)) := hAq.cell rfl
            rw [aq, ax]
            show L.length - Int.toNat ((n' + 1 : Nat) : Int) < L.length - Int.toNat (n' : Int)
            omega
      · have bd := below_drewI wx
        have gg : ∀ {p : Addr} {u : Value}, wx.cell? p = some u → ∀ w'', Below wx.heap.size wx w'' → w''.cell? p = some u := fun h w'' hb => (hb.cell (World.block_lt_of_cell? _ _ h)).trans h
        refine wpL_draw (fun w'' => Below wx.heap.size wx w'') mixed (by kernel_rfl) bd ?_
        have m1 := gg ax _ bd
        have m2 := gg lx _ bd
        push_cast -dsimp [m1, m2]
        refine ⟨fun w'' h => by rw [gg ax _ h]; exact rfl, fun w'' h => by rw [gg lx _ h]; exact rfl, fun h => absurd h (by omega), fun _ => ?_⟩
        refine wpL_of ?_
        push_cast -dsimp
        have hnl : n' = L.length := by omega
        have hdn : L.drop n' = [] := List.drop_eq_nil_of_le (by omega)
        refine ⟨n', c, hnn, hnL, ?_, hAx.below bd hAx.lt, ⟨_, _, _, hCx.below bd⟩, hKx.drew⟩
        rw [hcl, hdn, codeA]
  · rintro z wx ⟨n', c, hnn, hnL, hcl, hAx, hCx, hKx⟩
    refine wpL_of ?_
    push_cast -dsimp
    exact ⟨n', hnn, hnL, hAx, .inl ⟨c, rfl, hcl, hCx⟩, hKx⟩
end Go.Proofs.YtiofleijieepgaaGreatDoor
end
section
/- The reference's RightCode, RightProgram. -/
namespace Go.Proofs.YtiofleijieepgaaGreatDoor
open Go.Vc Go.Proofs Go.RowKit Cae
set_option maxRecDepth 100000
set_option linter.unusedSimpArgs false
set_option linter.unusedVariables false
attribute [local irreducible] wpL callK valK unitK runK Fun Sl Vc.Own vc vcOps opK pureK
set_option maxHeartbeats 4000000
def okP (c : CodeP) (j : Nat) (x : I3) : Prop := insRight x c.sets.length c.ins.length = true ∧ ((x.op = 1 ∨ x.op = 4) → j + 1 < c.ins.length)
theorem codeRight_of {c : CodeP} (h : 1 ≤ c.ins.length ∧ c.ins.length ≤ 2000 ∧ c.sets.length ≤ 2000) (hs : ∀ s ∈ c.sets, setRight (-2) s = true) (hi : ∀ (j : Nat) (x : I3), c.ins[j]? = some x → okP c j x) : codeRight c = true := by
  unfold codeRight
  simp only [Bool.and_eq_true, decide_eq_true_eq, List.all_eq_true]
  have hl : c.ins[c.ins.length - 1]? = some c.ins[c.ins.length - 1] := List.getElem?_eq_getElem (by omega)
  refine ⟨⟨⟨h, ?_⟩, fun x hx => ?_⟩, hs⟩
  · rw [hl]
    simp only [decide_eq_true_eq]
    have := (hi _ _ hl).2
    constructor
    · intro h; have := this (.inl h); omega
    · intro h; have := this (.inr h); omega
  · obtain ⟨j, hj⟩ := List.getElem?_of_mem hx
    exact (hi j x hj).1
theorem codeRight_ok {c : CodeP} (h : codeRight c = true) {j : Nat} {x : I3} (hx : c.ins[j]? = some x) : okP c j x := by
  have hc := CR.of h
  exact ⟨hc.ins j x hx, hc.next j x hx⟩

theorem ok1 {c : CodeP} {j : Nat} {x : I3} (h : x.op = 1) : okP c j x ↔ (0 ≤ x.a ∧ x.a < c.sets.length ∧ x.b = 0) ∧ j + 1 < c.ins.length := by unfold okP insRight; simp [h]
theorem ok2 {c : CodeP} {j : Nat} {x : I3} (h : x.op = 2) : okP c j x ↔ (0 ≤ x.a ∧ x.a < c.ins.length) ∧ (0 ≤ x.b ∧ x.b < c.ins.length) := by unfold okP insRight; simp [h]
theorem ok3 {c : CodeP} {j : Nat} {x : I3} (h : x.op = 3) : okP c j x ↔ (0 ≤ x.a ∧ x.a < c.ins.length) ∧ x.b = 0 := by unfold okP insRight; simp [h]
theorem ok4 {c : CodeP} {j : Nat} {x : I3} (h : x.op = 4) : okP c j x ↔ (x.a = 0 ∧ x.b = 0) ∧ j + 1 < c.ins.length := by unfold okP insRight; simp [h]
theorem ok5 {c : CodeP} {j : Nat} {x : I3} (h : x.op = 5) : okP c j x ↔ x.a = 0 ∧ x.b = 0 := by unfold okP insRight; simp [h]
theorem ok6 {c : CodeP} {j : Nat} {x : I3} (n1 : x.op ≠ 1) (n2 : x.op ≠ 2) (n3 : x.op ≠ 3) (n4 : x.op ≠ 4) (n5 : x.op ≠ 5) : ¬ okP c j x := by unfold okP insRight; simp [n1, n2, n3, n4, n5]

set_option maxHeartbeats 40000000 in
theorem rightCodeR_c (c : CodeP) (hl : CodeLen c) (X : Nat → Prop) (v : Value) (w : World) (hv : CodeV X w v c) :
    Fun Tryz.prog 74 [v] w fun r w' => r = .bool (codeRight c) ∧ Below w.heap.size w w' := by
  obtain ⟨hl1, hl2, hl3⟩ := hl
  obtain ⟨sv, iv, rfl, hsv, hiv⟩ := hv
  obtain ⟨a1, c1, rfl, hc1⟩ := hsv.shape
  obtain ⟨a2, c2, rfl, hc2⟩ := hiv.shape
  refine fun_of_vc Tryz.func74 rfl (by kernel_rfl) [2] rfl ?_
  push_cast -dsimp (maxSteps := 4000000) [Tryz.ntmps74]
  refine boxK_of ?_
  intro w1 hw1
  have hw1 : New w w1 43 [.slice a1 c.sets.length c1, .slice a2 c.ins.length c2] := hw1
  have sz1 := hw1.size
  have d1 : w1.cell? ⟨w.heap.size, 1, none⟩ = some (.slice a2 c.ins.length c2) := hw1.cell rfl
  have d0 : w1.cell? ⟨w.heap.size, 0, none⟩ = some (.slice a1 c.sets.length c1) := hw1.cell rfl
  push_cast -dsimp [d1]
  refine callK_of (rin_c _ 1 2000 w1) ?_
  rintro _ w2 ⟨rfl, rfl⟩
  have hno : (∀ (h : codeRight c = true), False) → Value.bool false = Value.bool (codeRight c) := fun h => by
    cases hr : codeRight c with
    | false => rfl
    | true => exact (h hr).elim
  by_cases hn : (1 : Int) ≤ c.ins.length ∧ (c.ins.length : Int) ≤ 2000
  · rw [decide_eq_true hn]
    push_cast -dsimp [d0]
    refine ⟨fun hbig => ⟨hno (fun h => by have := (CR.of h).sets; omega), hw1.below⟩, fun hsets => ?_⟩
    refine wpL_loop [2, 5, 24, 25, 26, 27, 28, 29, 30, 31] (fun z wx => ∃ (i : Nat), z 24 = .int .i64 i ∧ i ≤ c.sets.length ∧ (∀ s ∈ c.sets.take i, setRight (-2) s = true) ∧ Below w2.heap.size w2 wx) (fun z _ => c.sets.length - (intOf (z 24)).toNat) ?_ ?_
    · exact ⟨0, rfl, Nat.zero_le _, by simp, Below.refl _ _⟩
    · intro z wx hI
      obtain ⟨i, h24, hi, hok, hbx⟩ := hI
      have hLx : Below w.heap.size w wx := hw1.below.trans (hbx.mono (by omega))
      have hPx : Blk wx w.heap.size 43 [.slice a1 c.sets.length c1, .slice a2 c.ins.length c2] := hw1.blk.below hbx (by omega)
      push_cast -dsimp [h24]
      refine ⟨fun hlt => ?_, fun hge => ?_⟩
      · have hex := lt_get (l := c.sets) (i := i) (by omega)
        obtain ⟨s, hex⟩ := hex
        have hsm := hex.2.1
        have ht := hex.2.2.2
        have hget := Sl.getR (SetsV.below hsv hLx) hex.1
        obtain ⟨b, o, cs, rfl, hX, hk, hcell, u, rfl, hu⟩ := hget
        have cu : wx.cell? ⟨b, o + i, none⟩ = some u := by simpa using hcell 0 u rfl
        push_cast -dsimp [cu]
        refine ⟨⟨by omega, by omega⟩, ?_⟩
        refine callK_of (rightSetR_c s (hl1 s hsm) X u wx hu) ?_
        rintro _ w3 ⟨rfl, hb3⟩
        have hbx3 := hbx.trans (hb3.mono hbx.size)
        cases hsr : setRight (-2) s with
        | false =>
          push_cast -dsimp
          exact ⟨hno (fun h => by have := (CR.of h).set s hsm; rw [hsr] at this; cases this), hw1.below.trans (hbx3.mono (by omega))⟩
        | true =>
          push_cast -dsimp
          refine ⟨⟨by omega, by omega⟩, ⟨i + 1, rfl, by omega, ?_, hbx3⟩, by rw [h24]; simp only [intOf]; omega⟩
          intro y hy
          rw [ht, List.mem_append, List.mem_singleton] at hy
          rcases hy with hy | rfl
          · exact hok y hy
          · exact hsr
      · rw [List.take_of_length_le (by omega)] at hok
        have e1 : wx.cell? ⟨w.heap.size, 1, none⟩ = some (.slice a2 c.ins.length c2) := hPx.cell rfl
        push_cast -dsimp [e1]
        refine wpL_loop [2, 6, 7, 8, 35, 36, 37, 38, 39, 40, 41, 42, 43, 44, 45, 46, 47, 48, 49, 50, 51, 52, 53, 54, 55, 56, 57, 58, 59, 60, 61, 62, 63, 64, 65, 66, 67, 68, 69, 70, 71, 72, 73, 74, 75, 76, 77, 78, 79, 80, 81, 82, 83, 84, 85, 86, 87, 88, 89, 90, 91, 92, 93, 94, 95, 96, 97, 98, 99, 100, 101, 102, 103, 104, 105, 106, 107, 108, 109, 110, 111, 112, 113, 114, 115, 116, 117, 118, 119, 120, 121, 122, 123, 124, 125, 126, 127, 128, 129, 130, 131, 132] (fun z' wy => ∃ (j : Nat), z' 35 = .int .i64 j ∧ j ≤ c.ins.length ∧ (∀ (k : Nat) (x : I3), k < j → c.ins[k]? = some x → okP c k x) ∧ Below wx.heap.size wx wy) (fun z' _ => c.ins.length - (intOf (z' 35)).toNat) ?_ ?_
        · exact ⟨0, rfl, Nat.zero_le _, fun k x h => absurd h (by omega), Below.refl _ _⟩
        · intro z' wy hI
          obtain ⟨j, h35, hj, hok2, hby⟩ := hI
          have hLy : Below w.heap.size w wy := hLx.trans (hby.mono hLx.size)
          have hPy : Blk wy w.heap.size 43 [.slice a1 c.sets.length c1, .slice a2 c.ins.length c2] := hPx.below hby hPx.lt
          have szy := hLy.size
          push_cast -dsimp [h35]
          refine ⟨fun hlt2 => ?_, fun hge2 => ?_⟩
          · have hex := lt_get (l := c.ins) (i := j) (by omega)
            obtain ⟨x, hex⟩ := hex
            have hx := hex.1
            have hget := (hiv.below hLy).get hx
            obtain ⟨b, o, rfl, hX, hcell⟩ := hget
            have ce : cellsAt wy ⟨b, o + j * 3, none⟩ 0 3 = some [.int .i64 x.op, .int .i64 x.a, .int .i64 x.b] := cellsAt_of (encIn x) 0 (fun k u hu => by simpa using hcell k u hu)
            push_cast -dsimp [ce]
            refine ⟨⟨by omega, by omega⟩, ?_⟩
            refine allocK (z := [.int .i64 0, .int .i64 0, .int .i64 0]) (by kernel_rfl) ?_
            intro w4 hw4
            push_cast -dsimp
            refine storeAgg (n := 3) (by kernel_rfl) hw4.blk rfl (by simp) (by simp [Value.oneCell']) ?_
            intro w5 hw5
            have sz4 := hw4.size
            have hb5 : Below wy.heap.size wy w5 := hw4.below.trans (hw5.kept.below (by omega) (fun _ h => by omega))
            have hby5 : Below wx.heap.size wx w5 := hby.trans (hb5.mono hby.size)
            have hL5 := hLy.trans (hb5.mono hLy.size)
            have hB5 : Blk w5 wy.heap.size 89 [.int .i64 x.op, .int .i64 x.a, .int .i64 x.b] := hw5.blk
            have hP5 := hPy.below hb5 hPy.lt
            have e0 : w5.cell? ⟨wy.heap.size, 0, none⟩ = some (.int .i64 x.op) := hB5.cell rfl
            have ea : w5.cell? ⟨wy.heap.size, 1, none⟩ = some (.int .i64 x.a) := hB5.cell rfl
            have eb : w5.cell? ⟨wy.heap.size, 2, none⟩ = some (.int .i64 x.b) := hB5.cell rfl
            have es : w5.cell? ⟨w.heap.size, 0, none⟩ = some (.slice a1 c.sets.length c1) := hP5.cell rfl
            have hyes : okP c j x → ∀ (k : Nat) (y : I3), k < j + 1 → c.ins[k]? = some y → okP c k y := fun h k y hk hy => by
              rcases Nat.lt_or_ge k j with h' | h'
              · exact hok2 k y h' hy
              · have : k = j := by omega
                subst this
                rw [hx] at hy; cases hy; exact h
            have hbad : ¬ okP c j x → Value.bool false = Value.bool (codeRight c) := fun h => hno (fun h' => h (codeRight_ok h' hx))
            have hgo : okP c j x ∨ ¬ okP c j x := Classical.em _
            have hops : x.op = 1 ∨ x.op = 2 ∨ x.op = 3 ∨ x.op = 4 ∨ x.op = 5 ∨ (x.op ≠ 1 ∧ x.op ≠ 2 ∧ x.op ≠ 3 ∧ x.op ≠ 4 ∧ x.op ≠ 5) := by omega
            rcases hops with hop | hop | hop | hop | hop | ⟨n1, n2, n3, n4, n5⟩
            · rw [hop] at e0
              push_cast -dsimp [e0, ea, eb, es]
              exact ⟨fun q1 => ⟨fun q2 => ⟨fun q3 => ⟨⟨by omega, by omega⟩, fun q4 => ⟨hbad (fun h => by have := (ok1 hop).1 h; omega), hL5⟩, fun q4 => ⟨⟨by omega, by omega⟩, ⟨j + 1, rfl, by omega, hyes ((ok1 hop).2 (by omega)), hby5⟩, by rw [h35]; simp only [intOf]; omega⟩⟩, fun q3 => ⟨hbad (fun h => by have := (ok1 hop).1 h; omega), hL5⟩⟩, fun q2 => ⟨hbad (fun h => by have := (ok1 hop).1 h; omega), hL5⟩⟩, fun q1 => ⟨hbad (fun h => by have := (ok1 hop).1 h; omega), hL5⟩⟩
            · rw [hop] at e0
              push_cast -dsimp (maxSteps := 4000000) [e0, ea, eb]
              exact ⟨fun q1 => ⟨fun q2 => ⟨fun q3 => ⟨fun q4 => ⟨hbad (fun h => by have := (ok2 hop).1 h; omega), hL5⟩, fun q4 => ⟨⟨by omega, by omega⟩, ⟨j + 1, rfl, by omega, hyes ((ok2 hop).2 (by omega)), hby5⟩, by rw [h35]; simp only [intOf]; omega⟩⟩, fun q3 => ⟨hbad (fun h => by have := (ok2 hop).1 h; omega), hL5⟩⟩, fun q2 => ⟨hbad (fun h => by have := (ok2 hop).1 h; omega), hL5⟩⟩, fun q1 => ⟨hbad (fun h => by have := (ok2 hop).1 h; omega), hL5⟩⟩
            · rw [hop] at e0
              push_cast -dsimp (maxSteps := 4000000) [e0, ea, eb]
              exact ⟨fun q1 => ⟨fun q2 => ⟨fun q3 => ⟨hbad (fun h => by have := (ok3 hop).1 h; omega), hL5⟩, fun q3 => ⟨⟨by omega, by omega⟩, ⟨j + 1, rfl, by omega, hyes ((ok3 hop).2 (by omega)), hby5⟩, by rw [h35]; simp only [intOf]; omega⟩⟩, fun q2 => ⟨hbad (fun h => by have := (ok3 hop).1 h; omega), hL5⟩⟩, fun q1 => ⟨hbad (fun h => by have := (ok3 hop).1 h; omega), hL5⟩⟩
            · rw [hop] at e0
              push_cast -dsimp (maxSteps := 4000000) [e0, ea, eb]
              exact ⟨fun q1 => ⟨fun q2 => ⟨⟨by omega, by omega⟩, fun q3 => ⟨hbad (fun h => by have := (ok4 hop).1 h; omega), hL5⟩, fun q3 => ⟨⟨by omega, by omega⟩, ⟨j + 1, rfl, by omega, hyes ((ok4 hop).2 (by omega)), hby5⟩, by rw [h35]; simp only [intOf]; omega⟩⟩, fun q2 => ⟨hbad (fun h => by have := (ok4 hop).1 h; omega), hL5⟩⟩, fun q1 => ⟨hbad (fun h => by have := (ok4 hop).1 h; omega), hL5⟩⟩
            · rw [hop] at e0
              push_cast -dsimp (maxSteps := 4000000) [e0, ea, eb]
              exact ⟨fun q1 => ⟨fun q2 => ⟨hbad (fun h => by have := (ok5 hop).1 h; omega), hL5⟩, fun q2 => ⟨⟨by omega, by omega⟩, ⟨j + 1, rfl, by omega, hyes ((ok5 hop).2 (by omega)), hby5⟩, by rw [h35]; simp only [intOf]; omega⟩⟩, fun q1 => ⟨hbad (fun h => by have := (ok5 hop).1 h; omega), hL5⟩⟩
            · have m1 := eq_false n1
              have m2 := eq_false n2
              have m3 := eq_false n3
              have m4 := eq_false n4
              have m5 := eq_false n5
              push_cast -dsimp [e0, m1, m2, m3, m4, m5, decide_false]
              exact ⟨hbad (ok6 n1 n2 n3 n4 n5), hL5⟩
          · have hall := codeRight_of ⟨by omega, by omega, by omega⟩ hok (fun k x hkx => hok2 k x (by have := (List.getElem?_eq_some_iff.1 hkx).1; omega) hkx)
            exact ⟨by rw [hall], hLy⟩
  · rw [decide_eq_false hn]
    push_cast -dsimp
    exact ⟨hno (fun h => by have h1 := (CR.of h).one; have h2 := (CR.of h).many; omega), hw1.below⟩
theorem rightProgramR_c (p : ProgP) (hl : ProgLen p) (X : Nat → Prop) (v : Value) (w : World) (hv : ProgV X w v p) :
    Fun Tryz.prog 43 [v] w fun u w' => u = .bool (progRight p) ∧ Below w.heap.size w w' := by
  obtain ⟨rv, rfl, hr⟩ := hv
  obtain ⟨a, c, rfl, hc⟩ := hr.shape
  have hno : progRight p = false → Value.bool false = Value.bool (progRight p) := fun h => by rw [h]
  refine fun_of_vc Tryz.func43 rfl (by kernel_rfl) [2] rfl ?_
  push_cast -dsimp (maxSteps := 4000000) [Tryz.ntmps43]
  refine boxK_of ?_
  intro w1 hw1
  have hw1 : New w w1 24 [.slice a p.rules.length c, .bool p.els] := hw1
  have sz1 := hw1.size
  have d0 : w1.cell? ⟨w.heap.size, 0, none⟩ = some (.slice a p.rules.length c) := hw1.cell rfl
  push_cast -dsimp [d0]
  refine wpL_loop [2, 4, 8, 9, 10, 11, 12, 13, 14, 15, 16, 17, 18, 19, 20, 21, 22] (fun z wx => ∃ (i : Nat), z 8 = .int .i64 i ∧ i ≤ p.rules.length ∧ (∀ r ∈ p.rules.take i, codeRight r.before = true ∧ codeRight r.after = true) ∧ Below w1.heap.size w1 wx) (fun z _ => p.rules.length - (intOf (z 8)).toNat) ?_ ?_
  · exact ⟨0, rfl, Nat.zero_le _, by simp, Below.refl _ _⟩
  · intro z wx hI
    obtain ⟨i, h8, hi, hok, hbx⟩ := hI
    have hLx : Below w.heap.size w wx := hw1.below.trans (hbx.mono (by omega))
    have szx := hbx.size
    push_cast -dsimp [h8]
    refine ⟨fun hlt => ?_, fun hge => ?_⟩
    · have hex := lt_get (l := p.rules) (i := i) (by have := hl.1; omega)
      obtain ⟨r, hex⟩ := hex
      have hrm := hex.2.1
      have ht := hex.2.2.2
      have hget := Sl.getR (PairsV.below hr hLx) hex.1
      obtain ⟨b, o, cs, rfl, hX, hk, hcell, hR⟩ := hget
      have hR' := hR
      obtain ⟨s1, i1, s2, i2, rfl, h1, h2⟩ := hR
      have ce : cellsAt wx ⟨b, o + i * 5, none⟩ 0 5 = some [.bool r.brk, s1, i1, s2, i2] := cellsAt_of [.bool r.brk, s1, i1, s2, i2] 0 (fun j u hu => by simpa using hcell j u hu)
      have hl1 := hl.1
      push_cast -dsimp [ce]
      refine ⟨⟨by omega, by omega⟩, ?_⟩
      refine allocK (z := [.bool false, .slice none 0 0, .slice none 0 0, .slice none 0 0, .slice none 0 0]) (by kernel_rfl) ?_
      intro w5 hw5
      push_cast -dsimp
      refine storeAgg (n := 5) (by kernel_rfl) hw5.blk rfl (by simp) (by
        obtain ⟨_, _, e1, g1, g2⟩ := h1; cases e1; obtain ⟨_, _, rfl, _⟩ := g1.shape; obtain ⟨_, _, rfl, _⟩ := g2.shape
        obtain ⟨_, _, e2, g3, g4⟩ := h2; cases e2; obtain ⟨_, _, rfl, _⟩ := g3.shape; obtain ⟨_, _, rfl, _⟩ := g4.shape
        simp [Value.oneCell']) ?_
      intro w6 hw6
      have sz5 := hw5.size
      have sz6 := hw6.size
      have hb6 : Below wx.heap.size wx w6 := hw5.below.trans (hw6.kept.below (by omega) (fun _ h => by omega))
      have hB6 : Blk w6 wx.heap.size 45 [.bool r.brk, s1, i1, s2, i2] := hw6.blk
      have f1 : cellsAt w6 ⟨wx.heap.size, 1, none⟩ 0 2 = some [s1, i1] := blkSome (n := 2) (xs := [s1, i1]) hB6 1 rfl rfl
      have hbx6 := hbx.trans (hb6.mono szx)
      push_cast -dsimp [f1]
      refine callK_of (rightCodeR_c r.before (hl.2 r hrm).1 X _ w6 (h1.below hb6)) ?_
      rintro _ w7 ⟨rfl, hb7⟩
      have sz7 := hb7.size
      have hb67 := hb6.trans (hb7.mono hb6.size)
      have hbx7 := hbx6.trans (hb7.mono hbx6.size)
      have f3 : cellsAt w7 ⟨wx.heap.size, 3, none⟩ 0 2 = some [s2, i2] := blkSome (n := 2) (xs := [s2, i2]) (hB6.below hb7 (by omega)) 3 rfl rfl
      have hLfin : ∀ w', Below w7.heap.size w7 w' → Below w.heap.size w w' := fun w' h => hw1.below.trans ((hbx7.trans (h.mono hbx7.size)).mono (by omega))
      have hfalse : (codeRight r.before = false ∨ codeRight r.after = false) → progRight p = false := fun h => by
        cases hpr : progRight p with
        | false => rfl
        | true =>
          have := (progRight_spec hpr).2 r hrm
          rcases h with h | h
          · rw [this.1] at h; cases h
          · rw [this.2] at h; cases h
      cases hr1 : codeRight r.before with
      | false =>
        push_cast -dsimp
        exact ⟨hno (hfalse (.inl hr1)), hLfin _ (Below.refl _ _)⟩
      | true =>
        push_cast -dsimp [f3]
        refine callK_of (rightCodeR_c r.after (hl.2 r hrm).2 X _ w7 (h2.below hb67)) ?_
        rintro _ w8 ⟨rfl, hb8⟩
        cases hr2 : codeRight r.after with
        | false =>
          push_cast -dsimp
          exact ⟨hno (hfalse (.inr hr2)), hLfin _ hb8⟩
        | true =>
          push_cast -dsimp
          refine ⟨⟨by omega, by omega⟩, ⟨i + 1, rfl, by omega, ?_, hbx7.trans (hb8.mono hbx7.size)⟩, by rw [h8]; simp only [intOf]; omega⟩
          intro y hy
          rw [ht, List.mem_append, List.mem_singleton] at hy
          rcases hy with hy | rfl
          · exact hok y hy
          · exact ⟨hr1, hr2⟩
    · rw [List.take_of_length_le (by have := hl.1; omega)] at hok
      have e0 : wx.cell? ⟨w.heap.size, 0, none⟩ = some (.slice a p.rules.length c) := (hw1.blk.below hbx (by omega)).cell rfl
      push_cast -dsimp [e0]
      refine ⟨?_, hLx⟩
      congr 1
      unfold progRight
      have hall : (p.rules.all fun r => codeRight r.before && codeRight r.after) = true := by
        rw [List.all_eq_true]
        intro r hr
        rw [(hok r hr).1, (hok r hr).2]; rfl
      rw [hall, Bool.and_true, decide_eq_decide]
      omega
end Go.Proofs.YtiofleijieepgaaGreatDoor
end
section
namespace Go.Proofs.YtiofleijieepgaaGreatDoor
open Go.Vc Go.Proofs Go.RowKit Cae
set_option maxRecDepth 100000
set_option linter.unusedSimpArgs false
set_option linter.unusedVariables false
attribute [local irreducible] wpL callK valK unitK runK Fun Sl Vc.Own vc vcOps opK pureK
set_option maxHeartbeats 4000000
/-- A reader, and the lines that are left: none of them lies in X. -/
structure Rd (rb : Nat) (X : Nat → Prop) (w : World) (l : List (List UInt8)) : Prop where
  st : ∃ v, Blk w rb 66 [v] ∧ Sl X 1 (En encS) w v l
  self : X rb
  txt : ∀ t ∈ l, t.length ≤ 1000000
  len : l.length ≤ 1000000
theorem sliceOne {e e' : TypeId} {b o n c : Nat} {kk : IntKind} {L : VP} {other : Prop} (p) : sliceK (some (.slice e)) (some (e', 1)) (.slice (some ⟨b, o, none⟩) (n + 1) c) (some (.int kk 1)) none none L other p = ((1 ≤ n + 1 ∧ n + 1 ≤ c) ∧ L (.slice (if (c : Int) = 1 then some ⟨b, o, none⟩ else some ⟨b, o + 1, none⟩) n (c - 1))) := by
  simp only [sliceK, natAt, add_lit, Option.map_some]
  apply propext
  constructor
  · rintro ⟨h1, h2⟩
    refine ⟨by omega, ?_⟩
    have e1 : ((n + 1 : Nat) : Int).toNat - (1 : Int).toNat = n := by omega
    have e2 : c - (1 : Int).toNat = c - 1 := by omega
    rw [e1, e2] at h2
    exact h2
  · rintro ⟨h1, h2⟩
    refine ⟨by omega, ?_⟩
    have e1 : ((n + 1 : Nat) : Int).toNat - (1 : Int).toNat = n := by omega
    have e2 : c - (1 : Int).toNat = c - 1 := by omega
    rw [e1, e2]
    exact h2
theorem Rd.hd {rb : Nat} {X : Nat → Prop} {w : World} {t : List UInt8} {r : List (List UInt8)} (h : Rd rb X w (t :: r)) : ∃ b o c, Blk w rb 66 [.slice (some ⟨b, o, none⟩) (r.length + 1) c] ∧ r.length + 1 ≤ c ∧ w.cell? ⟨b, o, none⟩ = some (str t) := by
  obtain ⟨v, h1, h2⟩ := h.st
  obtain ⟨a, c, rfl, hc⟩ := h2.shape
  obtain ⟨b, o, rfl, hb, hcell⟩ := h2.get (i := 0) (x := t) rfl
  exact ⟨b, o, c, h1, hc, by have := hcell 0 _ rfl; simpa using this⟩
theorem Rd.pop {rb b o c : Nat} {X : Nat → Prop} {w w' : World} {t : List UInt8} {r : List (List UInt8)} (h : Rd rb X w (t :: r)) (hb : Blk w rb 66 [.slice (some ⟨b, o, none⟩) (r.length + 1) c])
    (hp : Put w w' rb 66 [.slice (if (c : Int) = 1 then some ⟨b, o, none⟩ else some ⟨b, o + 1, none⟩) r.length (c - 1)]) : Rd rb X w' r := by
  obtain ⟨v, h1, h2⟩ := h.st
  have e : v = .slice (some ⟨b, o, none⟩) (r.length + 1) c := by
    have h1' : w.heap[rb]? = _ := h1
    have hb' : w.heap[rb]? = _ := hb
    rw [h1'] at hb'
    simpa using hb'
  subst e
  have hk := hp.kept
  have hX := h.self
  refine ⟨⟨_, hp.blk, ?_⟩, hX, fun x hx => h.txt x (List.mem_cons_of_mem _ hx), by have := h.len; rw [List.length_cons] at this; omega⟩
  unfold Sl at h2 ⊢
  obtain ⟨a, c', he, hc', hall⟩ := h2
  cases he
  by_cases hc1 : (c : Int) = 1
  · have hr : r = [] := List.eq_nil_of_length_eq_zero (by rw [List.length_cons] at hc'; omega)
    subst hr
    exact ⟨_, _, rfl, by simp, fun i x hx => by simp at hx⟩
  · rw [if_neg hc1]
    refine ⟨some ⟨b, o + 1, none⟩, c - 1, rfl, by rw [List.length_cons] at hc'; omega, fun i x hx => ?_⟩
    obtain ⟨b', o', cs, ha, hX', hcs, hcell, hr⟩ := hall (i + 1) x (by simpa using hx)
    cases ha
    refine ⟨b, o + 1, cs, rfl, hX', hcs, fun j u hu => ?_, hr⟩
    have := hcell j u hu
    rw [show o + (i + 1) * 1 + j = o + 1 + i * 1 + j by omega] at this
    exact hk.cell this (fun hh => hX' (by subst hh; exact hX))
theorem takeA_c (s : List UInt8) {rb : Nat} {X : Nat → Prop} {w : World} {l : List (List UInt8)} (h : Rd rb X w l) : Fun Tryz.prog 28 [.pointer (some ⟨rb, 0, none⟩), str s] w fun r w' =>
    (∃ l', l = s :: l' ∧ r = .bool true ∧ Rd rb X w' l' ∧ Kept (· = rb) w w' ∧ w'.heap.size = w.heap.size) ∨ ((∀ l', l ≠ s :: l') ∧ r = .bool false ∧ w' = w) := by
  cases l with
  | nil =>
    obtain ⟨v, h1, h2⟩ := h.st
    obtain ⟨a, c, rfl, hc⟩ := h2.shape
    have cb : w.cell? ⟨rb, 0, none⟩ = some (.slice a 0 c) := h1.cell rfl
    (refine fun_of_vc Tryz.func28 rfl (by kernel_rfl) [4] rfl ?_; push_cast -dsimp (maxSteps := 4000000) [Tryz.ntmps28])
    push_cast -dsimp [cb]
    first | exact .inr trivial | exact .inr (fun l' e => by cases e)
  | cons t r =>
    obtain ⟨b, o, c, hB, hc, hcell⟩ := h.hd
    have cb : w.cell? ⟨rb, 0, none⟩ = some (.slice (some ⟨b, o, none⟩) (r.length + 1) c) := hB.cell rfl
    (refine fun_of_vc Tryz.func28 rfl (by kernel_rfl) [4] rfl ?_; push_cast -dsimp (maxSteps := 4000000) [Tryz.ntmps28])
    push_cast -dsimp [cb, hcell, sliceOne]
    refine ⟨fun _ => ⟨by omega, fun hne => .inr (fun l' e => hne (by cases e; rfl)), fun he => ⟨by omega, ?_⟩⟩, fun h0 => by omega⟩
    have he := Classical.not_not.1 he
    subst he
    refine storeK_of hB (by simp) rfl ?_
    intro w' hw'
    have hps := h.pop hB hw'
    have hk := hw'.kept
    have hz := hw'.size
    push_cast -dsimp
    exact .inl ⟨r, rfl, hps, hk, hz⟩
end Go.Proofs.YtiofleijieepgaaGreatDoor
end
section
namespace Go.Proofs.YtiofleijieepgaaGreatDoor
open Go.Vc Go.Proofs Go.RowKit Cae
set_option maxRecDepth 100000
set_option linter.unusedSimpArgs false
set_option linter.unusedVariables false
attribute [local irreducible] wpL callK valK unitK runK Fun Sl Vc.Own vc vcOps opK pureK
set_option maxHeartbeats 4000000

theorem equalR_c (l l' : List Rg) (hl : l.length < 10000000) (X X' : Nat → Prop) (v v' : Value) (w : World) (hv : Sl X 2 (En encR) w v l) (hv' : Sl X' 2 (En encR) w v' l') :
    Fun Tryz.prog 93 [v, v'] w fun r w' => r = .bool (decide (l = l')) ∧ Below w.heap.size w w' := by
  obtain ⟨a, c, rfl, hc⟩ := hv.shape
  obtain ⟨a', c', rfl, hc'⟩ := hv'.shape
  refine fun_of_vc Tryz.func93 rfl (by kernel_rfl) [4] rfl ?_
  push_cast -dsimp (maxSteps := 4000000) [Tryz.ntmps93]
  refine ⟨fun hne => ⟨?_, Below.refl _ _⟩, fun he => ?_⟩
  · rw [decide_eq_false]
    intro h; subst h; omega
  have he' : l.length = l'.length := by omega
  refine wpL_loop [4, 5, 13, 14, 15, 16, 17, 18, 19, 20, 21, 22, 23, 24, 25] (fun z wx => ∃ (i : Nat), z 13 = .int .i64 i ∧ i ≤ l.length ∧ l.take i = l'.take i ∧ Below w.heap.size w wx) (fun z _ => l.length - (intOf (z 13)).toNat) ?_ ?_
  · exact ⟨0, rfl, Nat.zero_le _, rfl, Below.refl _ _⟩
  · intro z wx hI
    obtain ⟨i, h13, hi, hok, hb⟩ := hI
    push_cast -dsimp [h13]
    refine ⟨fun hlt => ?_, fun hge => ?_⟩
    · obtain ⟨x, hx, hxm, hd, ht⟩ := lt_get (l := l) (i := i) (by omega)
      obtain ⟨b, o, rfl, hX, hcell⟩ := (hv.below hb).get hx
      obtain ⟨x', hx', hxm', hd', ht'⟩ := lt_get (l := l') (i := i) (by omega)
      obtain ⟨b', o', rfl, hX', hcell'⟩ := (hv'.below hb).get hx'
      refine wpL_draw (fun w' => ∀ a, w'.cell? a = wx.cell? a) mixed (by kernel_rfl) (fun _ => rfl) ?_
      have g0 : ∀ w'' : World, (∀ a, w''.cell? a = wx.cell? a) → cellsAt w'' ⟨b, o + i * 2, none⟩ 0 2 = some [.int .i64 x.1, .int .i64 x.2] := fun w'' hC => cellsAt_of (encR x) 0 (fun j u hu => by rw [hC]; simpa using hcell j u hu)
      have g0' : ∀ w'' : World, (∀ a, w''.cell? a = wx.cell? a) → cellsAt w'' ⟨b', o' + i * 2, none⟩ 0 2 = some [.int .i64 x'.1, .int .i64 x'.2] := fun w'' hC => cellsAt_of (encR x') 0 (fun j u hu => by rw [hC]; simpa using hcell' j u hu)
      have d0 := g0 wx.drew (fun _ => rfl)
      have d0' := g0' wx.drew (fun _ => rfl)
      push_cast -dsimp [d0, d0']
      have hext : ((x.1 = x'.1 ∧ x.2 = x'.2)) ↔ x = x' := by
        cases x; cases x'; simp only [Prod.mk.injEq]
      rw [hext]
      refine ⟨⟨by omega, by omega⟩, fun w'' hC => by rw [g0 w'' hC]; exact rfl, ⟨by omega, by omega⟩, fun w'' hC => by rw [g0' w'' hC]; exact rfl, fun hne => ?_, fun heq => ?_⟩
      · refine ⟨?_, hb.drew⟩
        rw [decide_eq_false]
        intro h; subst h; rw [hx] at hx'; cases hx'; exact hne rfl
      · have heq : x = x' := Classical.byContradiction fun h => heq h
        exact ⟨⟨by omega, by omega⟩, ⟨i + 1, rfl, by omega, by rw [ht, ht', hok, heq], hb.drew⟩, by rw [h13]; simp only [intOf]; omega⟩
    · refine ⟨?_, hb⟩
      rw [List.take_of_length_le (by omega), List.take_of_length_le (by omega)] at hok
      rw [decide_eq_true hok]

end Go.Proofs.YtiofleijieepgaaGreatDoor
end
section
namespace Go.Proofs.YtiofleijieepgaaGreatDoor
open Go.Vc Go.Proofs Go.RowKit Cae
set_option maxRecDepth 100000
set_option linter.unusedSimpArgs false
set_option linter.unusedVariables false
attribute [local irreducible] wpL callK valK unitK runK Fun Sl Vc.Own vc vcOps opK pureK
set_option maxHeartbeats 4000000
/-- The closure of inst: is a set that one? -/
theorem alikeFn_c (t s : List Rg) (ht : t.length < 10000000) (hs : s.length < 10000000) (X X' : Nat → Prop) (v u : Value) (sb : Nat) (w : World) (hv : Sl X 2 (En encR) w v t) (hu : Sl X' 2 (En encR) w u s) (hc : w.cell? ⟨sb, 0, none⟩ = some u) :
    Fun Tryz.prog 92 [v, .pointer (some ⟨sb, 0, none⟩)] w fun r w' => r = .bool (s == t) ∧ Below w.heap.size w w' := by
  obtain ⟨a, c, rfl, hcc⟩ := hv.shape
  obtain ⟨a', c', rfl, hcc'⟩ := hu.shape
  refine fun_of_vc Tryz.func92 rfl (by kernel_rfl) [3] rfl ?_
  push_cast -dsimp (maxSteps := 4000000) [Tryz.ntmps92]
  push_cast -dsimp [hc]
  refine callK_of (equalR_c s t hs X' X _ _ w hu hv) ?_
  rintro _ w1 ⟨rfl, hb⟩
  push_cast -dsimp
  refine ⟨?_, hb⟩
  congr 1
  by_cases h : s = t
  · subst h; simp
  · rw [decide_eq_false h, beq_eq_false_iff_ne.2 h]
theorem idxS_of {s : List Rg} {l : List (List Rg)} {i : Nat} (h : l[i]? = some s) (hno : ∀ x ∈ l.take i, x ≠ s) : idxS s l = i := by
  obtain ⟨hlt, he⟩ := List.getElem?_eq_some_iff.1 h
  unfold idxS
  rw [List.findIdx_eq hlt]
  refine ⟨by rw [he]; simp, fun j hj => ?_⟩
  have hm : l[j] ∈ l.take i := List.mem_take_iff_getElem.2 ⟨j, by omega, rfl⟩
  simpa using hno _ hm
theorem idxS_none {s : List Rg} {l : List (List Rg)} (hno : ∀ x ∈ l, x ≠ s) : idxS s l = l.length := by
  unfold idxS
  rw [List.findIdx_eq_length]
  intro x hx
  simpa using hno x hx
theorem setIdx_c (s : List Rg) (hs : s.length < 10000000) (l : List (List Rg)) (hl : l.length < 1000000000) (hls : ∀ t ∈ l, t.length < 10000000) (X X' : Nat → Prop) (v u : Value) (sb : Nat) (w : World) (hv : SetsV X w v l) (hu : Sl X' 2 (En encR) w u s) (hc : w.cell? ⟨sb, 0, none⟩ = some u) :
    Fun Tryz.prog 85 [v, .func (.func 92) #[] #[.pointer (some ⟨sb, 0, none⟩)]] w fun r w' => r = .int .i64 (if idxS s l < l.length then (idxS s l : Int) else -1) ∧ Below w.heap.size w w' := by
  obtain ⟨a, c, rfl, hcc⟩ := hv.shape
  refine fun_of_vc Tryz.func85 rfl (by kernel_rfl) [4] rfl ?_
  push_cast -dsimp (maxSteps := 4000000) [Tryz.ntmps85]
  refine wpL_loop [4, 5, 8, 9, 10, 11, 12, 13, 14, 15, 16, 17, 18] (fun z wx => ∃ (i : Nat), z 8 = .int .i64 i ∧ i ≤ l.length ∧ (∀ x ∈ l.take i, x ≠ s) ∧ Below w.heap.size w wx) (fun z _ => l.length - (intOf (z 8)).toNat) ?_ ?_
  · exact ⟨0, rfl, Nat.zero_le _, by simp, Below.refl _ _⟩
  · intro z wx hI
    obtain ⟨i, h8, hi, hok, hb⟩ := hI
    push_cast -dsimp [h8]
    refine ⟨fun hlt => ?_, fun hge => ?_⟩
    · obtain ⟨x, hx, hxm, hd, ht⟩ := lt_get (l := l) (i := i) (by omega)
      obtain ⟨b, o, cs, ha, hX, hk, hcell, u0, rfl, hu0⟩ := Sl.getR (hv.below hb) hx
      subst ha
      have c0 : wx.cell? ⟨b, o + i, none⟩ = some u0 := by simpa using hcell 0 u0 rfl
      obtain ⟨a0, k0, rfl, hk0⟩ := hu0.shape
      push_cast -dsimp [c0, Nat.mul_one]
      refine ⟨⟨by omega, by omega⟩, ?_⟩
      refine callK_of (alikeFn_c x s (hls x hxm) hs X X' _ _ sb wx hu0 (hu.below hb) ((hb.cell (World.block_lt_of_cell? w _ hc)).trans hc)) ?_
      rintro _ w1 ⟨rfl, hb1⟩
      have hB1 := hb.trans (hb1.mono hb.size)
      cases hst : (s == x) with
      | true =>
        have hsx : s = x := eq_of_beq hst
        subst hsx
        have e := idxS_of hx hok
        push_cast -dsimp
        rw [e, if_pos (by omega)]
        exact ⟨rfl, hB1⟩
      | false =>
        push_cast -dsimp
        refine ⟨⟨by omega, by omega⟩, ⟨i + 1, rfl, by omega, ?_, hB1⟩, by rw [h8]; simp only [intOf]; omega⟩
        intro y hy
        rw [ht, List.mem_append, List.mem_singleton] at hy
        rcases hy with hy | rfl
        · exact hok y hy
        · intro e; subst e; simp at hst
    · rw [List.take_of_length_le (by omega)] at hok
      have e := idxS_none hok
      rw [if_neg (by omega)]
      exact ⟨rfl, hb⟩
end Go.Proofs.YtiofleijieepgaaGreatDoor
end
section
namespace Go.Proofs.YtiofleijieepgaaGreatDoor
open Go.Vc Go.Proofs Go.RowKit Cae
set_option maxRecDepth 100000
set_option linter.unusedSimpArgs false
set_option linter.unusedVariables false
attribute [local irreducible] wpL callK valK unitK runK Fun Sl Vc.Own vc vcOps opK pureK
set_option maxHeartbeats 4000000
def idxStrR_ren : Go.Shelf.Ren := ⟨fun | 109 => 90 | n => n, fun | 31 => 61 | 9 => 9 | 3 => 3 | 0 => 0 | 4 => 4 | n => n, fun | n => n⟩
theorem idxStrR : Go.Proofs.Lays.n109 Tryz.prog idxStrR_ren := {
  mixed := by kernel_rfl
  f109 := Tryz.func90.trans (congrArg some (by kernel_rfl))
  t0 := Tryz.underlying0
  a0 := Tryz.isAgg0
  z0 := Tryz.sizeOf0
  v0 := Tryz.zeroValue0
  t3 := Tryz.underlying3
  a3 := Tryz.isAgg3
  z3 := Tryz.sizeOf3
  v3 := Tryz.zeroValue3
  t4 := Tryz.underlying4
  a4 := Tryz.isAgg4
  z4 := Tryz.sizeOf4
  v4 := Tryz.zeroValue4
  t9 := Tryz.underlying9
  a9 := Tryz.isAgg9
  z9 := Tryz.sizeOf9
  v9 := Tryz.zeroValue9
  t31 := Tryz.underlying61
  a31 := Tryz.isAgg61
  z31 := Tryz.sizeOf61
  v31 := Tryz.zeroValue61 }

/-- Which operation a name is (0: no name; -1: none). -/
def opOf (s : List UInt8) : Int := if s = [] then 0 else if s = [116, 97, 107, 101] then 1 else if s = [115, 112, 108, 105, 116] then 2 else if s = [106, 117, 109, 112] then 3 else if s = [101, 110, 100] then 4 else if s = [121, 101, 115] then 5 else -1
def namesB : List ByteArray := [⟨#[]⟩, ⟨#[116, 97, 107, 101]⟩, ⟨#[115, 112, 108, 105, 116]⟩, ⟨#[106, 117, 109, 112]⟩, ⟨#[101, 110, 100]⟩, ⟨#[121, 101, 115]⟩]
theorem opIdx_c (s : List UInt8) (w : World) (hn : Nms w) : Fun Tryz.prog 90 [.slice (some ⟨1, 0, none⟩) 6 6, str s] w fun r w' => r = .int .i64 (opOf s) ∧ w' = w := by
  refine fun_of_calls Tryz.func90 (by kernel_rfl) (by kernel_rfl) ?_
  refine Calls.mono (Any.slices_Index_string idxStrR 1 0 6 6 namesB ⟨s.toArray⟩ w (by decide) (by decide) ?_) ?_
  · intro j hj
    have hj6 : j < 6 := hj
    rw [Nat.zero_add, hn j hj6]
    match j, hj6 with
    | 0, _ => rfl
    | 1, _ => rfl
    | 2, _ => rfl
    | 3, _ => rfl
    | 4, _ => rfl
    | 5, _ => rfl
  · rintro e w' ⟨rfl, rfl⟩
    refine ⟨_, rfl, ?_, rfl⟩
    congr 1
    show Lib.idxFromS namesB ⟨s.toArray⟩ 0 = opOf s
    have eq : ∀ l : List UInt8, ((⟨l.toArray⟩ : ByteArray) = ⟨s.toArray⟩) ↔ s = l := by
      intro l
      constructor
      · intro h
        have h1 := congrArg (fun b : ByteArray => b.data.toList) h
        simpa using h1.symm
      · intro h; rw [h]
    unfold namesB opOf
    have e0 := eq []
    have e1 := eq [116, 97, 107, 101]
    have e2 := eq [115, 112, 108, 105, 116]
    have e3 := eq [106, 117, 109, 112]
    have e4 := eq [101, 110, 100]
    have e5 := eq [121, 101, 115]
    simp only [Lib.idxFromS, e0, e1, e2, e3, e4, e5]
    repeat' split
    all_goals first | rfl | contradiction
end Go.Proofs.YtiofleijieepgaaGreatDoor
end
