/- Texts of this claim, merged: Rr3, Rr4, Rp5, Rr5, Rp6, Rr6, Vr. -/
import Derived.Test.YtphebgkbkdjjoaaGreatDoorM7
import Derived.Test.YtphebgkbkdjjoaaGreatDoorM6
section
/- The reference's kinds. -/
namespace Cae
/-- Which mark of two kinds a text is (0: none). -/
def binCode (s : List UInt8) : Nat := if s = [124] then 3 else if s = [38] then 4 else if s = [45] then 5 else 0
theorem binCode_none {t : Cae.Tok} {r : List Cae.Tok} (h : binCode t.text = 0) : binP (t :: r) = .ok (0, t :: r) := by
  have h1 : t.text ≠ [124] := fun e => by rw [e] at h; cases h
  have h2 : t.text ≠ [38] := fun e => by rw [e] at h; cases h
  have h3 : t.text ≠ [45] := fun e => by rw [e] at h; cases h
  simp [binP, pif, seeP, Cae.hd, h1, h2, h3, pr]
theorem binCode_some {t : Cae.Tok} {r : List Cae.Tok} (h : binCode t.text ≠ 0) (h4 : t.kind = 4) : binP (t :: r) = .ok (binCode t.text, r) ∧ seeP t.text (t :: r) = true := by
  have h5 : t.kind ≠ 5 := by omega
  refine ⟨?_, by simp [seeP, Cae.hd, h5]⟩
  unfold binCode at h ⊢
  by_cases h1 : t.text = [124]
  · rw [if_pos h1]; simp [binP, pif, seeP, Cae.hd, h1, h5, pr, Cae.pb, popP]
  · rw [if_neg h1] at h ⊢
    by_cases h2 : t.text = [38]
    · rw [if_pos h2]; simp [binP, pif, seeP, Cae.hd, h2, h5, pr, Cae.pb, popP]
    · rw [if_neg h2] at h ⊢
      by_cases h3 : t.text = [45]
      · rw [if_pos h3]; simp [binP, pif, seeP, Cae.hd, h3, h5, pr, Cae.pb, popP]
      · rw [if_neg h3] at h; exact absurd rfl h
theorem binCode_mark {s : List UInt8} (h : binCode s ≠ 0) (hn : noMark s) : False := by
  unfold binCode at h
  obtain ⟨h1, h2, h3⟩ := hn
  rw [if_neg h1, if_neg h2, if_neg h3] at h
  exact h rfl
end Cae
namespace Go.Proofs.YtphebgkbkdjjoaaGreatDoor
open Go.Vc Go.Proofs Go.RowKit Cae
set_option maxRecDepth 100000
set_option linter.unusedSimpArgs false
set_option linter.unusedVariables false
attribute [local irreducible] wpL callK valK unitK runK Fun Sl Vc.Own vc vcOps opK pureK
set_option maxHeartbeats 4000000
def binL : List (List UInt8 × Value) := [([124], .int .i64 3), ([38], .int .i64 4), ([45], .int .i64 5)]
theorem binL_get (s : List UInt8) : (assocG s binL).getD (.int .i64 0) = .int .i64 (binCode s : Nat) := by
  unfold binCode
  by_cases h1 : s = [124]
  · subst h1; rfl
  · by_cases h2 : s = [38]
    · subst h2; rfl
    · by_cases h3 : s = [45]
      · subst h3; rfl
      · rw [if_neg h1, if_neg h2, if_neg h3]
        simp [binL, assocG, h1, h2, h3]
/-- How much a reader has yet to read: nothing, if something was wrong. -/
def muR (rb : Nat) (w : World) : Nat := match w.cell? ⟨rb, 1, none⟩ with
  | some (.int _ 0) => lenAt w rb + 1
  | _ => 0
theorem RS.mu {rb B : Nat} {w : World} {l : List Cae.Tok} (h : RS rb B w l none) : muR rb w = l.length + 1 := by
  obtain ⟨v, h1, h2⟩ := h.st
  obtain ⟨a, c, rfl, _⟩ := h2.shape
  unfold muR lenAt
  rw [h1.cell (o := 0) rfl, h1.cell (o := 1) rfl]
  rfl
theorem RS.mu0 {rb B : Nat} {w : World} {l : List Cae.Tok} {e : Nat × Nat} (h : RS rb B w l (some e)) : muR rb w = 0 := by
  obtain ⟨v, h1, h2⟩ := h.st
  have hne := h.ne e rfl
  unfold muR
  rw [h1.cell (o := 1) (show (v :: badV (some e))[1]? = some (.int .i64 (e.1 : Int)) from rfl)]
  obtain ⟨c, p⟩ := e
  cases c with
  | zero => exact absurd rfl hne
  | succ c => rfl
def KoneR (d : Nat) : Prop := ∀ (n : Int), 0 ≤ n → n + (d : Int) = 9 → ∀ (rb B : Nat) (w : World) (l : List Cae.Tok) (bad : Option (Nat × Nat)), RS rb B w l bad → Rc 42 [.pointer (some ⟨rb, 0, none⟩), .int .i64 n] rb B w l bad (oneP d) (fun w' r k => KindV (· < w.heap.size) w' r k) (fun r => ∃ a, r = .pointer a)
def KindR (d : Nat) : Prop := ∀ (n : Int), 0 ≤ n → n + (d : Int) = 9 → ∀ (rb B : Nat) (w : World) (l : List Cae.Tok) (bad : Option (Nat × Nat)), RS rb B w l bad → Rc 20 [.pointer (some ⟨rb, 0, none⟩), .int .i64 n] rb B w l bad (kindP d) (fun w' r k => KindV (· < w.heap.size) w' r k) (fun r => ∃ a, r = .pointer a)
theorem kind_ofR (d : Nat) (hone : KoneR d) : KindR d := by
  intro n hn0 hn rb B w l0 bad h0
  obtain ⟨t, r, hl0⟩ := h0.cons
  have hhd : Cae.hd l0 = t := by rw [hl0]; rfl
  have h0' := h0
  rw [hl0] at h0'
  obtain ⟨b, o, c, hB, hc, hne, c0, c1, c2, c3⟩ := h0'.hd
  have cb : w.cell? ⟨rb, 0, none⟩ = some (.slice (some ⟨b, o, none⟩) (r.length + 1) c) := hB.cell rfl
  have hle := h0.le
  have hlt := h0.lt
  refine fun_of_vc Tryz.func20 rfl (by kernel_rfl) [4] rfl ?_
  push_cast -dsimp (maxSteps := 4000000) [Tryz.ntmps20]
  push_cast -dsimp [cb, c2]
  refine ⟨by omega, ?_⟩
  refine callK_of (hone n hn0 hn rb B w l0 bad h0) ?_
  rintro v1 w1 ⟨k1, hO⟩
  have hinv : (∃ (m : Nat) (kk : KindP) (l1 : List Cae.Tok), kindLoop (oneP d) t.pos m kk l1 = outP bad (kindP d) l0 ∧ l1.length < m ∧ KindV (· < w.heap.size) w1 v1 kk ∧ RS rb B w1 l1 none) ∨ (∃ (e : Nat × Nat) (l1 : List Cae.Tok) (a : Option Addr), outP bad (kindP d) l0 = .error e ∧ v1 = .pointer a ∧ RS rb B w1 l1 (some e)) := by
    cases ho : outP bad (oneP d) l0 with
    | ok q =>
      obtain ⟨kk, l1⟩ := q
      rw [ho] at hO
      obtain ⟨hV, hR⟩ := hO
      cases bad with
      | some e => cases ho
      | none =>
        refine .inl ⟨1000, kk, l1, ?_, by have := hR.tl.len; omega, hV, hR⟩
        have ho' : oneP d l0 = .ok (kk, l1) := ho
        show _ = kindP d l0
        unfold kindP kindW
        rw [pb_of (p := peek) (x := Cae.hd l0) (l1 := l0) rfl, pb_of ho', hhd]
    | error e =>
      rw [ho] at hO
      obtain ⟨⟨a, hJ⟩, l1, hR⟩ := hO
      refine .inr ⟨e, l1, a, ?_, hJ, hR⟩
      cases bad with
      | some e' => exact ho
      | none =>
        have ho' : oneP d l0 = .error e := ho
        show kindP d l0 = _
        unfold kindP kindW
        rw [pb_of (p := peek) (x := Cae.hd l0) (l1 := l0) rfl]
        unfold Cae.pb
        rw [ho']
  have hptr : ∃ a, v1 = .pointer a := by
    rcases hinv with ⟨_, _, _, _, _, hV, _⟩ | ⟨_, _, a, _, e, _⟩
    · obtain ⟨kb, e, _⟩ := hV.ptr
      exact ⟨_, e⟩
    · exact ⟨a, e⟩
  obtain ⟨a1, ha1⟩ := hptr
  subst ha1
  have hgo : ∃ out, outP bad (kindP d) l0 = out := ⟨_, rfl⟩
  obtain ⟨out, hout⟩ := hgo
  unfold RRes
  rw [hout] at hinv ⊢
  push_cast -dsimp
  refine wpL_loop [6, 7, 8, 19, 20, 21, 22, 23, 24, 25, 26, 27, 28, 29, 30, 31, 32, 33, 34, 35, 36, 37, 38, 39, 40, 41, 42, 43, 44, 45, 46, 47, 48, 49, 50, 51, 52, 53, 54] (fun z w' => ∃ a : Option Addr, z 6 = .pointer a ∧ Kept (· = rb) w w' ∧ ((∃ (m : Nat) (kk : KindP) (l1 : List Cae.Tok), kindLoop (oneP d) t.pos m kk l1 = out ∧ l1.length < m ∧ KindV (· < w.heap.size) w' (.pointer a) kk ∧ RS rb B w' l1 none) ∨ (∃ (e : Nat × Nat) (l1 : List Cae.Tok), out = .error e ∧ RS rb B w' l1 (some e)))) (fun z w' => muR rb w') ?_ ?_
  · refine ⟨a1, rfl, k1, ?_⟩
    rcases hinv with h | ⟨e, l1, a, h1, _, h3⟩
    · exact .inl h
    · exact .inr ⟨e, l1, h1, h3⟩
  · rintro z w' ⟨a, hz6, hkw, hcase⟩
    rcases hcase with ⟨m, kk, l1, hm2, hm, V1, P1⟩ | ⟨e, l1, hoe, P1⟩
    · have hmu := P1.mu
      obtain ⟨t1, r1, hl1⟩ := P1.cons
      push_cast -dsimp [hz6]
      refine callK_of (rok_c P1) ?_
      rintro _ w2 ⟨rfl, hb2⟩
      have P2 := P1.below hb2
      rw [hl1] at P2
      obtain ⟨b', o', c', hB2, hc2, hne2, d0, d1, d2, d3⟩ := P2.hd
      have cb2 : w2.cell? ⟨rb, 0, none⟩ = some (.slice (some ⟨b', o', none⟩) (r1.length + 1) c') := hB2.cell rfl
      have kw2 := hkw.trans (Kept.rb P1.le P1.lt hb2) (fun i _ h => h)
      push_cast -dsimp [hz6, cb2, d1]
      refine ⟨by omega, ?_⟩
      refine makeMapG (key := fun l : List UInt8 => str l) ?_
      intro w3 m3 b3 z3
      push_cast -dsimp
      refine updateG_new (kt := 9) (et := 3) (k := [124]) (by kernel_rfl) (keyStr (by kernel_rfl)) m3 rfl rfl ?_
      intro w4 m4 k4 z4
      push_cast -dsimp
      refine updateG_new (kt := 9) (et := 3) (k := [38]) (by kernel_rfl) (keyStr (by kernel_rfl)) m4 rfl (by decide) ?_
      intro w5 m5 k5 z5
      push_cast -dsimp
      refine updateG_new (kt := 9) (et := 3) (k := [45]) (by kernel_rfl) (keyStr (by kernel_rfl)) m5 rfl (by decide) ?_
      intro w6 m6 k6 z6
      have m7 : MapG (fun l : List UInt8 => str l) w6 w2.heap.size binL := m6
      have hb6 : Below w2.heap.size w2 w6 := b3.trans (((k4.trans k5 (fun _ _ h => h)).trans k6 (fun _ _ h => h)).below (by omega) (fun i h => by omega))
      have P6 := P2.below hb6
      have kw6 := kw2.trans (Kept.rb P2.le P2.lt hb6) (fun i _ h => h)
      obtain ⟨b6, o6, c6, hB6, hc6, hne6, e0, e1, e2, e3⟩ := P6.hd
      have cb6 : w6.cell? ⟨rb, 0, none⟩ = some (.slice (some ⟨b6, o6, none⟩) (r1.length + 1) c6) := hB6.cell rfl
      push_cast -dsimp
      refine lookupG (kt := 9) (et := 3) (z := .int .i64 0) (c := false) (k := t1.text) (by kernel_rfl) (keyStr (by kernel_rfl)) (by kernel_rfl) m7 ?_
      rw [if_neg (by decide), binL_get]
      obtain ⟨m', rfl⟩ : ∃ m', m = m' + 1 := ⟨m - 1, by omega⟩
      by_cases hb0 : binCode t1.text = 0
      · have i0 : ((binCode t1.text : Nat) : Int) = 0 := by omega
        have hbin := binCode_none (r := r1) hb0
        rw [← hl1] at hbin
        have hend : out = .ok (kk, l1) := by
          rw [← hm2, kindLoop, pb_of hbin, if_pos rfl]
          rfl
        rw [hend]
        push_cast -dsimp [i0, hz6]
        rw [← hl1] at P6
        exact ⟨kw6, (V1.mono (Kept.rb P1.le P1.lt hb2) (fun i h => by have := h0.lt; omega) (fun _ h => h)).mono (Kept.rb P2.le P2.lt hb6) (fun i h => by have := h0.lt; omega) (fun _ h => h), P6⟩
      · have i0 : ¬ ((binCode t1.text : Nat) : Int) = 0 := by omega
        have h4 : t1.kind = 4 := Classical.byContradiction fun hk => binCode_mark hb0 (P6.tm t1 (by simp) hk)
        have i4 : ((t1.kind : Nat) : Int) = 4 := by omega
        have hbs := binCode_some (r := r1) hb0 h4
        obtain ⟨hbin, hsee⟩ := hbs
        rw [← hl1] at hbin
        push_cast -dsimp [i0, cb6, e0, i4]
        refine ⟨by omega, ?_⟩
        refine callK_of (rmust_c P6 t1.text) ?_
        rintro _ w7 ⟨k7, hM⟩
        have hmo : outP none (mustP t1.text) (t1 :: r1) = .ok ((), r1) := by unfold outP mustP pif; rw [hsee]; exact popP_cons (by omega)
        rw [hmo] at hM
        obtain ⟨rfl, P7⟩ := hM
        have kw7 := kw6.trans k7 (fun i _ h => h)
        push_cast -dsimp
        refine callK_of (hone n hn0 hn rb B w7 r1 none P7) ?_
        rintro v8 w8 ⟨k8, hO8⟩
        have kw8 := kw7.trans k8 (fun i _ h => h)
        have hV8 : KindV (· < w.heap.size) w8 (.pointer a) kk := V1.mono (((Kept.rb P1.le P1.lt hb2).trans (Kept.rb P2.le P2.lt hb6) (fun i _ h => h)).trans (k7.trans k8 (fun i _ h => h)) (fun i _ h => h)) (fun i h => by omega) (fun _ h => h)
        have h8 : ∃ u, v8 = .pointer u := by
          cases ho : outP none (oneP d) r1 with
          | ok q =>
            rw [ho] at hO8
            obtain ⟨ub, e, _⟩ := hO8.1.ptr
            exact ⟨_, e⟩
          | error e =>
            rw [ho] at hO8
            exact hO8.1
        obtain ⟨u, rfl⟩ := h8
        have hwz := kw8.size
        have hwz7 := kw7.size
        have z8 := k8.size
        push_cast -dsimp [hz6]
        refine boxK_of ?_
        intro w9 hw9
        have B9 : Blk w9 w8.heap.size 101 [.int .i64 (binCode t1.text : Nat), .int .i64 t.pos, .slice none 0 0, str [], .pointer a, .pointer u] := hw9.blk
        have b9 := hw9.below
        have kw9 := kw8.trans (Kept.of_below b9 (X := (· = rb)) (fun i h1 h2 => by omega)) (fun i _ h => h)
        cases ho : outP none (oneP d) r1 with
        | ok q =>
          obtain ⟨k2, l2⟩ := q
          rw [ho] at hO8
          obtain ⟨V8, P8⟩ := hO8
          have P9 := P8.below b9
          have hmu9 := P9.mu
          have hl2 : l2.length ≤ r1.length := by
            obtain ⟨pre, _, e, _⟩ := lo_one d _ _ _ (show oneP d r1 = .ok (k2, l2) from ho)
            rw [e, List.length_append]; omega
          have hll : l1.length = r1.length + 1 := by rw [hl1, List.length_cons]
          push_cast -dsimp
          refine ⟨⟨_, rfl, kw9, .inl ⟨m', .bin (binCode t1.text) t.pos kk k2, l2, ?_, by omega, ?_, P9⟩⟩, by rw [hmu, hmu9]; omega⟩
          · rw [← hm2, kindLoop, pb_of hbin, if_neg hb0, pb_of (show oneP d r1 = .ok (k2, l2) from ho)]
          · exact ⟨w8.heap.size, _, _, rfl, by omega, B9, hV8.below b9, (V8.mono (X := (· < w7.heap.size)) (Kept.refl (fun _ => False) w8) (fun _ h => h.elim) (fun i h => by omega)).below b9⟩
        | error e =>
          rw [ho] at hO8
          obtain ⟨_, l2, P8⟩ := hO8
          have P9 := P8.below b9
          have hmu9 := P9.mu0
          push_cast -dsimp
          refine ⟨⟨_, rfl, kw9, .inr ⟨e, l2, ?_, P9⟩⟩, by rw [hmu, hmu9]; omega⟩
          rw [← hm2, kindLoop, pb_of hbin, if_neg hb0]
          unfold Cae.pb
          rw [show oneP d r1 = .error e from ho]
    · push_cast -dsimp [hz6]
      refine callK_of (rok_c P1) ?_
      rintro _ w2 ⟨rfl, hb2⟩
      have P2 := P1.below hb2
      have kw2 := hkw.trans (Kept.rb P1.le P1.lt hb2) (fun i _ h => h)
      push_cast -dsimp [hz6]
      rw [hoe]
      exact ⟨kw2, ⟨_, rfl⟩, _, P2⟩
end Go.Proofs.YtphebgkbkdjjoaaGreatDoor
end
section
/- The reference's kinds: one of them. -/
namespace Go.Proofs.YtphebgkbkdjjoaaGreatDoor
open Go.Vc Go.Proofs Go.RowKit Cae
set_option maxRecDepth 100000
set_option linter.unusedSimpArgs false
set_option linter.unusedVariables false
attribute [local irreducible] wpL callK valK unitK runK Fun Sl Vc.Own vc vcOps opK pureK
set_option maxHeartbeats 4000000
theorem kone_zero : KoneR 0 := by
  intro n hn0 hn rb B w l bad h
  have heo : outP bad (oneP 0) l = .error (bad.getD (4, (Cae.hd l).pos)) := by cases bad <;> rfl
  refine fun_of_vc Tryz.func42 rfl (by kernel_rfl) [4] rfl ?_
  push_cast -dsimp (maxSteps := 4000000) [Tryz.ntmps42]
  refine ⟨fun h8 => ?_, fun h8 => by omega⟩
  refine callK_of (rfails_c h 4 (by decide)) ?_
  rintro _ w1 ⟨rfl, P1, k1⟩
  push_cast -dsimp
  refine callK_of (rok_c P1) ?_
  rintro _ w2 ⟨rfl, hb2⟩
  unfold RRes
  rw [heo]
  push_cast -dsimp
  exact ⟨k1.trans (Kept.rb P1.le P1.lt hb2) (fun i _ h => h), ⟨_, rfl⟩, _, P1.below hb2⟩
theorem kone_succ (d : Nat) (ih : KoneR d) : KoneR (d + 1) := by
  have ihk := kind_ofR d ih
  intro n hn0 hn rb B w l0 bad h0
  have hle := h0.le
  have hlt := h0.lt
  refine fun_of_vc Tryz.func42 rfl (by kernel_rfl) [4] rfl ?_
  push_cast -dsimp (maxSteps := 4000000) [Tryz.ntmps42]
  refine ⟨fun h8 => by omega, fun h8 => ?_⟩
  refine callK_of (rok_c h0) ?_
  rintro _ w1 ⟨rfl, hb1⟩
  have P1 := h0.below hb1
  have k1 : Kept (· = rb) w w1 := Kept.rb hle hlt hb1
  have z1 := hb1.size
  unfold RRes
  cases bad with
  | some e =>
    push_cast -dsimp
    exact ⟨k1, ⟨_, rfl⟩, _, P1⟩
  | none =>
    obtain ⟨t, r, hl0⟩ := h0.cons
    have hhd : Cae.hd l0 = t := by rw [hl0]; rfl
    have hunf : oneP (d + 1) l0 = pif (isKind 3) litP (pif (seeP [126]) (Cae.pb peek fun t => Cae.pb popP fun _ => Cae.pb (oneP d) fun k => pr (.not t.pos k))
      (pif (seeP [40]) (Cae.pb popP fun _ => Cae.pb (kindW (oneP d)) fun k => Cae.pb (mustP [41]) fun _ => pr k)
        (Cae.pb peek fun t => Cae.pb nameP fun n => pr (.ref t.pos n)))) l0 := rfl
    have hpk : ∀ {β : Type} (q : Cae.Tok → Pa β), Cae.pb peek q l0 = q t l0 := fun q => by rw [pb_of (p := peek) (x := Cae.hd l0) (l1 := l0) rfl, hhd]
    have P1' := P1
    rw [hl0] at P1'
    obtain ⟨b, o, c, hB, hc, hne, c0, c1, c2, c3⟩ := P1'.hd
    have cb : w1.cell? ⟨rb, 0, none⟩ = some (.slice (some ⟨b, o, none⟩) (r.length + 1) c) := hB.cell rfl
    push_cast -dsimp [cb, Nat.zero_mul, Nat.add_zero, c3]
    refine ⟨by omega, ?_⟩
    refine allocK (z := [.int .i64 0, str [], .int .i64 0]) (by kernel_rfl) ?_
    intro w2 hw2
    have z2 := hw2.size
    push_cast -dsimp
    refine storeAgg (xt := 55) (n := 3) (by kernel_rfl) hw2.blk rfl (by decide) (by simp; exact ⟨rfl, rfl, rfl⟩) ?_
    intro w3 hw3
    have z3 := hw3.size
    have B3 : Blk w3 w1.heap.size 55 [.int .i64 t.kind, str t.text, .int .i64 t.pos] := hw3.blk
    have b13 : Below w1.heap.size w1 w3 := hw2.below.trans (hw3.kept.below (by omega) (fun i h => by omega))
    have P3 := P1.below b13
    have P3' := P1'.below b13
    have k3 := k1.trans (Kept.rb P1.le P1.lt b13) (fun i _ h => h)
    have e0 : w3.cell? ⟨w1.heap.size, 0, none⟩ = some (.int .i64 t.kind) := B3.cell rfl
    have e1 : w3.cell? ⟨w1.heap.size, 1, none⟩ = some (str t.text) := B3.cell rfl
    have hrw : rb < w1.heap.size := by omega
    have hout : outP none (oneP (d + 1)) l0 = oneP (d + 1) l0 := rfl
    rw [hout]
    push_cast -dsimp [e0]
    refine ⟨fun h3 => ?_, fun h3 => ?_⟩
    · have hk3 : isKind 3 l0 = true := by
        have : t.kind = 3 := by omega
        simp [isKind, hhd, this]
      have h5 : t.kind ≠ 5 := by omega
      push_cast -dsimp [e1]
      refine callK_of (parseSetR_c t.text (P3'.tl.txt t (by simp)) w3 P3.gr.d P3.gr.e P3.gr.t) ?_
      rintro rv w4 ⟨hR, b4⟩
      have z4 := b4.size
      have P4 := P3.below b4
      have P4' := P3'.below b4
      have B4 := B3.below b4 (by omega)
      have k4 := k3.trans (Kept.rb P3.le P3.lt b4) (fun i _ h => h)
      unfold ParseRR at hR
      rcases hR with ⟨v, s, rfl, ho, hpr⟩ | ⟨rfl, hno⟩
      · have hset := setP_of hpr
        have hs0 := ho.sl
        have ha0 : Arg v := ho.nilArg
        have hsh := hs0.shape
        obtain ⟨va, vc, rfl, _⟩ := hsh
        have hex : oneP (d + 1) l0 = .ok (.lit t.pos s, r) := by
          rw [hunf]
          unfold pif
          rw [hk3, if_pos rfl]
          unfold litP
          rw [hpk, hset, hl0]
          simp [Cae.pb, popP, h5, pr]
        rw [hex]
        obtain ⟨b5, o5, c5, hB5, hc5, _⟩ := P4'.hd
        have cb5 : w4.cell? ⟨rb, 0, none⟩ = some (.slice (some ⟨b5, o5, none⟩) (r.length + 1) c5) := hB5.cell rfl
        push_cast -dsimp [cb5, slice1]
        refine ⟨by omega, ?_⟩
        refine storeK_of hB5 (by simp) rfl ?_
        intro w5 hw5
        have P5 := P4'.pop hB5 h5 hw5
        have z5 : w5.heap.size = w4.heap.size := hw5.size
        have B5 := B4.kept hw5.kept (by omega)
        have e5 : w5.cell? ⟨w1.heap.size, 2, none⟩ = some (.int .i64 t.pos) := B5.cell rfl
        have k5 := k4.trans hw5.kept (fun i _ h => h)
        push_cast -dsimp [e5]
        refine boxK_of ?_
        intro w6 hw6
        have B6 : Blk w6 w5.heap.size 101 [.int .i64 1, .int .i64 t.pos, .slice va s.length vc, str [], .pointer none, .pointer none] := hw6.blk
        have s6 : Sl (· < w.heap.size) 2 (En encR) w6 (.slice va s.length vc) s := ((hs0.kept hw5.kept (fun i h => by omega)).below hw6.below).weaken (fun i h => by omega)
        push_cast -dsimp
        exact ⟨k5.trans (Kept.of_below hw6.below (X := (· = rb)) (fun i h1 h2 => by omega)) (fun i _ h => h), ⟨_, _, rfl, by omega, B6, s6, ha0⟩, P5.below hw6.below⟩
      · have hset := setP_no hno
        have hex : oneP (d + 1) l0 = .error (3, (Cae.hd l0).pos) := by
          rw [hunf]
          unfold pif
          rw [hk3, if_pos rfl]
          unfold litP
          rw [hpk, hset]
          rfl
        rw [hex]
        push_cast -dsimp
        refine callK_of (rfails_c P4 3 (by decide)) ?_
        rintro _ w5 ⟨rfl, P5, k5⟩
        push_cast -dsimp
        exact ⟨k4.trans k5 (fun i _ h => h), ⟨_, rfl⟩, _, P5⟩
    · have hk3 : isKind 3 l0 = false := by
        have : t.kind ≠ 3 := fun e => h3 (by omega)
        simp [isKind, hhd, this]
      refine callK_of (rtake_c P3 [126]) ?_
      rintro _ w4 hT
      rcases hT with ⟨_, hs1, rfl, t1, r1, el1, h51, P4, kt⟩ | ⟨hs1, rfl, P4, b4⟩
      · obtain ⟨rfl, rfl⟩ : t = t1 ∧ r = r1 := by rw [hl0] at el1; exact List.cons.inj el1
        have hpop : popP l0 = .ok ((), r) := by rw [hl0]; exact popP_cons h51
        have hred : oneP (d + 1) l0 = Cae.pb (oneP d) (fun k => pr (.not t.pos k)) r := by
          rw [hunf]
          unfold pif
          rw [hk3, hs1, if_neg (by decide), if_pos rfl, hpk, pb_of hpop]
        rw [hred]
        have B4 := B3.kept kt (by omega)
        have k4 := k3.trans kt (fun i _ h => h)
        have z4 := kt.size
        push_cast -dsimp
        have ga : ∀ w'' : World, Blk w'' w1.heap.size 55 [.int .i64 t.kind, str t.text, .int .i64 t.pos] → w''.cell? ⟨w1.heap.size, 2, none⟩ = some (.int .i64 t.pos) := fun w'' h => h.cell rfl
        refine wpL_draw (fun w' => Blk w' w1.heap.size 55 [.int .i64 t.kind, str t.text, .int .i64 t.pos]) mixed (by kernel_rfl) B4.drew ?_
        have ea := ga _ B4.drew
        push_cast -dsimp [ea]
        refine ⟨fun w'' h => by rw [ga w'' h]; exact rfl, by omega, ?_⟩
        have P4d := P4.below (below_drewR w4)
        have zd : w4.drew.heap.size = w4.heap.size := rfl
        have k4d := k4.trans (Kept.rb P4.le P4.lt (below_drewR w4)) (fun i _ h => h)
        refine callK_of (ih (n + 1) (by omega) (by omega) rb B w4.drew r none P4d) ?_
        rintro v5 w5 ⟨k5, hO5⟩
        have z5 := k5.size
        have B5 := B4.drew.kept k5 (by omega)
        refine ⟨B5, ?_⟩
        have k5' := k4d.trans k5 (fun i _ h => h)
        rw [show outP none (oneP d) r = oneP d r from rfl] at hO5
        cases ho : oneP d r with
        | ok q =>
          obtain ⟨kk, l2⟩ := q
          rw [ho] at hO5
          obtain ⟨V5, P5⟩ := hO5
          have hp := V5.ptr
          obtain ⟨ub, rfl, hub⟩ := hp
          rw [pb_of ho]
          push_cast -dsimp
          refine boxK_of ?_
          intro w6 hw6
          have B6 : Blk w6 w5.heap.size 101 [.int .i64 6, .int .i64 t.pos, .slice none 0 0, str [], .pointer (some ⟨ub, 0, none⟩), .pointer none] := hw6.blk
          refine ⟨B5.below hw6.below (by omega), ?_⟩
          push_cast -dsimp
          exact ⟨k5'.trans (Kept.of_below hw6.below (X := (· = rb)) (fun i h1 h2 => by omega)) (fun i _ h => h), ⟨_, _, rfl, by omega, B6, (V5.mono (X := (· < w4.drew.heap.size)) (Kept.refl (fun _ => False) w5) (fun _ h => h.elim) (fun i h => by omega)).below hw6.below⟩, P5.below hw6.below⟩
        | error e =>
          rw [ho] at hO5
          obtain ⟨⟨u, rfl⟩, l2, P5⟩ := hO5
          have heo : Cae.pb (oneP d) (fun k => pr (KindP.not t.pos k)) r = .error e := by unfold Cae.pb; rw [ho]
          rw [heo]
          push_cast -dsimp
          refine boxK_of ?_
          intro w6 hw6
          refine ⟨B5.below hw6.below (by omega), ?_⟩
          push_cast -dsimp
          exact ⟨k5'.trans (Kept.of_below hw6.below (X := (· = rb)) (fun i h1 h2 => by omega)) (fun i _ h => h), ⟨_, rfl⟩, _, P5.below hw6.below⟩
      · have k4 := k3.trans (Kept.rb P3.le P3.lt b4) (fun i _ h => h)
        have B4 := B3.below b4 (by omega)
        have z4 := b4.size
        push_cast -dsimp
        refine callK_of (rtake_c P4 [40]) ?_
        rintro _ w5 hT
        rcases hT with ⟨_, hs2, rfl, t1, r1, el1, h51, P5, kt⟩ | ⟨hs2, rfl, P5, b5⟩
        · obtain ⟨rfl, rfl⟩ : t = t1 ∧ r = r1 := by rw [hl0] at el1; exact List.cons.inj el1
          have hpop : popP l0 = .ok ((), r) := by rw [hl0]; exact popP_cons h51
          have hred : oneP (d + 1) l0 = Cae.pb (kindW (oneP d)) (fun k => Cae.pb (mustP [41]) fun _ => pr k) r := by
            rw [hunf]
            unfold pif
            rw [hk3, show seeP [126] l0 = false from hs1, hs2, if_neg (by decide), if_neg (by decide), if_pos rfl, pb_of hpop]
          rw [hred]
          have k5 := k4.trans kt (fun i _ h => h)
          have z5 := kt.size
          push_cast -dsimp
          refine ⟨by omega, ?_⟩
          refine callK_of (ihk (n + 1) (by omega) (by omega) rb B w5 r none P5) ?_
          rintro v6 w6 ⟨k6, hO6⟩
          have k6' := k5.trans k6 (fun i _ h => h)
          rw [show outP none (kindP d) r = kindW (oneP d) r from rfl] at hO6
          cases ho : kindW (oneP d) r with
          | ok q =>
            obtain ⟨kk, l2⟩ := q
            rw [ho] at hO6
            obtain ⟨V6, P6⟩ := hO6
            have hp := V6.ptr
            obtain ⟨ub, rfl, hub⟩ := hp
            rw [pb_of ho]
            push_cast -dsimp
            refine callK_of (rmust_c P6 [41]) ?_
            rintro _ w7 ⟨k7, hM⟩
            have k7' := k6'.trans k7 (fun i _ h => h)
            rw [show outP none (mustP [41]) l2 = mustP [41] l2 from rfl] at hM
            cases hm : mustP [41] l2 with
            | ok q =>
              obtain ⟨_, l3⟩ := q
              rw [hm] at hM
              obtain ⟨rfl, P7⟩ := hM
              rw [pb_of hm]
              push_cast -dsimp
              exact ⟨k7', V6.mono k7 (fun i h => by omega) (fun i h => by omega), P7⟩
            | error e =>
              rw [hm] at hM
              obtain ⟨rfl, l3, P7⟩ := hM
              have heo : Cae.pb (mustP [41]) (fun _ => pr kk) l2 = .error e := by unfold Cae.pb; rw [hm]
              rw [heo]
              push_cast -dsimp
              exact ⟨k7', ⟨_, rfl⟩, _, P7⟩
          | error e =>
            rw [ho] at hO6
            obtain ⟨⟨u, rfl⟩, l2, P6⟩ := hO6
            have heo : Cae.pb (kindW (oneP d)) (fun k => Cae.pb (mustP [41]) fun _ => pr k) r = .error e := by unfold Cae.pb; rw [ho]
            rw [heo]
            push_cast -dsimp
            refine callK_of (rmust_c P6 [41]) ?_
            rintro _ w7 ⟨k7, hM⟩
            rw [show outP (some e) (mustP [41]) l2 = .error e from rfl] at hM
            obtain ⟨rfl, l3, P7⟩ := hM
            push_cast -dsimp
            exact ⟨k6'.trans k7 (fun i _ h => h), ⟨_, rfl⟩, _, P7⟩
        · have k5 := k4.trans (Kept.rb P4.le P4.lt b5) (fun i _ h => h)
          have B5 := B4.below b5 (by omega)
          have z5 := b5.size
          have hred : oneP (d + 1) l0 = Cae.pb nameP (fun n => pr (KindP.ref t.pos n)) l0 := by
            rw [hunf]
            unfold pif
            rw [hk3, show seeP [126] l0 = false from hs1, show seeP [40] l0 = false from hs2, if_neg (by decide), if_neg (by decide), if_neg (by decide), hpk]
          rw [hred]
          push_cast -dsimp
          have ga : ∀ w'' : World, Blk w'' w1.heap.size 55 [.int .i64 t.kind, str t.text, .int .i64 t.pos] → w''.cell? ⟨w1.heap.size, 2, none⟩ = some (.int .i64 t.pos) := fun w'' h => h.cell rfl
          refine wpL_draw (fun w' => Blk w' w1.heap.size 55 [.int .i64 t.kind, str t.text, .int .i64 t.pos]) mixed (by kernel_rfl) B5.drew ?_
          have ea := ga _ B5.drew
          push_cast -dsimp [ea]
          refine ⟨fun w'' h => by rw [ga w'' h]; exact rfl, ?_⟩
          have P5d := P5.below (below_drewR w5)
          have zd : w5.drew.heap.size = w5.heap.size := rfl
          have k5d := k5.trans (Kept.rb P5.le P5.lt (below_drewR w5)) (fun i _ h => h)
          refine callK_of (rname_c P5d) ?_
          rintro v6 w6 ⟨k6, hO6⟩
          have z6 := k6.size
          have B6 := B5.drew.kept k6 (by omega)
          refine ⟨B6, ?_⟩
          have k6' := k5d.trans k6 (fun i _ h => h)
          rw [show outP none nameP l0 = nameP l0 from rfl] at hO6
          cases ho : nameP l0 with
          | ok q =>
            obtain ⟨nm, l2⟩ := q
            rw [ho] at hO6
            obtain ⟨rfl, P6⟩ := hO6
            rw [pb_of ho]
            push_cast -dsimp
            refine boxK_of ?_
            intro w7 hw7
            have B7 : Blk w7 w6.heap.size 101 [.int .i64 2, .int .i64 t.pos, .slice none 0 0, str nm, .pointer none, .pointer none] := hw7.blk
            refine ⟨B6.below hw7.below (by omega), ?_⟩
            push_cast -dsimp
            exact ⟨k6'.trans (Kept.of_below hw7.below (X := (· = rb)) (fun i h1 h2 => by omega)) (fun i _ h => h), ⟨_, rfl, by omega, B7⟩, P6.below hw7.below⟩
          | error e =>
            rw [ho] at hO6
            obtain ⟨⟨nm, rfl⟩, l2, P6⟩ := hO6
            have heo : Cae.pb nameP (fun n => pr (KindP.ref t.pos n)) l0 = .error e := by unfold Cae.pb; rw [ho]
            rw [heo]
            push_cast -dsimp
            refine boxK_of ?_
            intro w7 hw7
            refine ⟨B6.below hw7.below (by omega), ?_⟩
            push_cast -dsimp
            exact ⟨k6'.trans (Kept.of_below hw7.below (X := (· = rb)) (fun i h1 h2 => by omega)) (fun i _ h => h), ⟨_, rfl⟩, _, P6.below hw7.below⟩
theorem kone_all : ∀ d, KoneR d
  | 0 => kone_zero
  | d + 1 => kone_succ d (kone_all d)
end Go.Proofs.YtphebgkbkdjjoaaGreatDoor
end
section
namespace Go.Proofs.YtphebgkbkdjjoaaGreatDoor
open Go.Vc Go.Proofs Go.RowKit Cae
set_option maxRecDepth 100000
set_option linter.unusedSimpArgs false
set_option linter.unusedVariables false
attribute [local irreducible] wpL callK valK unitK runK Fun Sl Vc.Own vc vcOps opK pureK
set_option maxHeartbeats 4000000

/-! What a pattern is in memory: no block of X is read. -/
def ptrP (b : Nat) : Value := .pointer (some ⟨b, 0, none⟩)
def encP (b : Nat) : List Value := [ptrP b]
theorem encP_one (b : Nat) : ∀ u ∈ encP b, u.oneCell' = true := by
  intro u hu
  simp [encP, ptrP] at hu
  subst hu
  rfl
mutual
def PatV (X : Nat → Prop) (w : World) : Value → PatP → Prop
  | v, .one k => ∃ b u, v = .pointer (some ⟨b, 0, none⟩) ∧ ¬ X b ∧ Blk w b 83 [.int .i64 1, u, .slice none 0 0, .int .i64 0, .int .i64 0] ∧ KindV X w u k
  | v, .any => ∃ b, v = .pointer (some ⟨b, 0, none⟩) ∧ ¬ X b ∧ Blk w b 83 [.int .i64 2, .pointer none, .slice none 0 0, .int .i64 0, .int .i64 0]
  | v, .edge => ∃ b, v = .pointer (some ⟨b, 0, none⟩) ∧ ¬ X b ∧ Blk w b 83 [.int .i64 3, .pointer none, .slice none 0 0, .int .i64 0, .int .i64 0]
  | v, .cat l => ∃ b sv vs, v = .pointer (some ⟨b, 0, none⟩) ∧ ¬ X b ∧ Blk w b 83 [.int .i64 4, .pointer none, sv, .int .i64 0, .int .i64 0] ∧ Sl X 1 (En encP) w sv vs ∧ PatsV X w vs l
  | v, .alt l => ∃ b sv vs, v = .pointer (some ⟨b, 0, none⟩) ∧ ¬ X b ∧ Blk w b 83 [.int .i64 5, .pointer none, sv, .int .i64 0, .int .i64 0] ∧ Sl X 1 (En encP) w sv vs ∧ PatsV X w vs l
  | v, .many x lo hi => ∃ b sv u, v = .pointer (some ⟨b, 0, none⟩) ∧ ¬ X b ∧ Blk w b 83 [.int .i64 6, .pointer none, sv, .int .i64 lo, .int .i64 hi] ∧ Sl X 1 (En encP) w sv [u] ∧ PatV X w (ptrP u) x
def PatsV (X : Nat → Prop) (w : World) : List Nat → List PatP → Prop
  | [], [] => True
  | v :: vs, x :: l => PatV X w (ptrP v) x ∧ PatsV X w vs l
  | _, _ => False
end
mutual
theorem PatV.mono {X X' Y : Nat → Prop} {w w' : World} (hk : Kept Y w w') (hY : ∀ i, Y i → X i) (hX : ∀ i, X' i → X i) : ∀ {x : PatP} {v : Value}, PatV X w v x → PatV X' w' v x
  | .one k, v, h => by
    simp only [PatV] at h ⊢
    obtain ⟨b, u, hv, hb, hB, h⟩ := h
    exact ⟨b, u, hv, fun hh => hb (hX b hh), hB.kept hk (fun hh => hb (hY b hh)), h.mono hk hY hX⟩
  | .any, v, h => by
    simp only [PatV] at h ⊢
    obtain ⟨b, hv, hb, hB⟩ := h
    exact ⟨b, hv, fun hh => hb (hX b hh), hB.kept hk (fun hh => hb (hY b hh))⟩
  | .edge, v, h => by
    simp only [PatV] at h ⊢
    obtain ⟨b, hv, hb, hB⟩ := h
    exact ⟨b, hv, fun hh => hb (hX b hh), hB.kept hk (fun hh => hb (hY b hh))⟩
  | .cat l, v, h => by
    simp only [PatV] at h ⊢
    obtain ⟨b, sv, vs, hv, hb, hB, hs, h⟩ := h
    exact ⟨b, sv, vs, hv, fun hh => hb (hX b hh), hB.kept hk (fun hh => hb (hY b hh)), (hs.kept hk hY).weaken hX, PatsV.mono hk hY hX h⟩
  | .alt l, v, h => by
    simp only [PatV] at h ⊢
    obtain ⟨b, sv, vs, hv, hb, hB, hs, h⟩ := h
    exact ⟨b, sv, vs, hv, fun hh => hb (hX b hh), hB.kept hk (fun hh => hb (hY b hh)), (hs.kept hk hY).weaken hX, PatsV.mono hk hY hX h⟩
  | .many x lo hi, v, h => by
    simp only [PatV] at h ⊢
    obtain ⟨b, sv, u, hv, hb, hB, hs, h⟩ := h
    exact ⟨b, sv, u, hv, fun hh => hb (hX b hh), hB.kept hk (fun hh => hb (hY b hh)), (hs.kept hk hY).weaken hX, PatV.mono hk hY hX h⟩
theorem PatsV.mono {X X' Y : Nat → Prop} {w w' : World} (hk : Kept Y w w') (hY : ∀ i, Y i → X i) (hX : ∀ i, X' i → X i) : ∀ {l : List PatP} {vs : List Nat}, PatsV X w vs l → PatsV X' w' vs l
  | [], [], _ => by simp only [PatsV]
  | [], _ :: _, h => by simp only [PatsV] at h
  | _ :: _, [], h => by simp only [PatsV] at h
  | x :: l, v :: vs, h => by
    simp only [PatsV] at h ⊢
    exact ⟨PatV.mono hk hY hX h.1, PatsV.mono hk hY hX h.2⟩
end
mutual
theorem PatV.top {X : Nat → Prop} {w : World} : ∀ {x : PatP} {v : Value}, PatV X w v x → PatV (fun b => X b ∨ w.heap.size ≤ b) w v x
  | .one k, v, h => by
    simp only [PatV] at h ⊢
    obtain ⟨b, u, hv, hb, hB, h⟩ := h
    exact ⟨b, u, hv, fun hh => hh.elim hb (fun hh => by have := hB.lt; omega), hB, h.top⟩
  | .any, v, h => by
    simp only [PatV] at h ⊢
    obtain ⟨b, hv, hb, hB⟩ := h
    exact ⟨b, hv, fun hh => hh.elim hb (fun hh => by have := hB.lt; omega), hB⟩
  | .edge, v, h => by
    simp only [PatV] at h ⊢
    obtain ⟨b, hv, hb, hB⟩ := h
    exact ⟨b, hv, fun hh => hh.elim hb (fun hh => by have := hB.lt; omega), hB⟩
  | .cat l, v, h => by
    simp only [PatV] at h ⊢
    obtain ⟨b, sv, vs, hv, hb, hB, hs, h⟩ := h
    exact ⟨b, sv, vs, hv, fun hh => hh.elim hb (fun hh => by have := hB.lt; omega), hB, Sl.top (by decide) hs, PatsV.top h⟩
  | .alt l, v, h => by
    simp only [PatV] at h ⊢
    obtain ⟨b, sv, vs, hv, hb, hB, hs, h⟩ := h
    exact ⟨b, sv, vs, hv, fun hh => hh.elim hb (fun hh => by have := hB.lt; omega), hB, Sl.top (by decide) hs, PatsV.top h⟩
  | .many x lo hi, v, h => by
    simp only [PatV] at h ⊢
    obtain ⟨b, sv, u, hv, hb, hB, hs, h⟩ := h
    exact ⟨b, sv, u, hv, fun hh => hh.elim hb (fun hh => by have := hB.lt; omega), hB, Sl.top (by decide) hs, PatV.top h⟩
theorem PatsV.top {X : Nat → Prop} {w : World} : ∀ {l : List PatP} {vs : List Nat}, PatsV X w vs l → PatsV (fun b => X b ∨ w.heap.size ≤ b) w vs l
  | [], [], _ => by simp only [PatsV]
  | [], _ :: _, h => by simp only [PatsV] at h
  | _ :: _, [], h => by simp only [PatsV] at h
  | x :: l, v :: vs, h => by
    simp only [PatsV] at h ⊢
    exact ⟨PatV.top h.1, PatsV.top h.2⟩
end
theorem PatV.ptr {X : Nat → Prop} {w : World} {x : PatP} {v : Value} (h : PatV X w v x) : ∃ b, v = .pointer (some ⟨b, 0, none⟩) ∧ b < w.heap.size ∧ ¬ X b := by
  cases x <;> simp only [PatV] at h
  · obtain ⟨b, u, hv, hx, hB, _⟩ := h; exact ⟨b, hv, hB.lt, hx⟩
  · obtain ⟨b, hv, hx, hB⟩ := h; exact ⟨b, hv, hB.lt, hx⟩
  · obtain ⟨b, hv, hx, hB⟩ := h; exact ⟨b, hv, hB.lt, hx⟩
  · obtain ⟨b, _, _, hv, hx, hB, _⟩ := h; exact ⟨b, hv, hB.lt, hx⟩
  · obtain ⟨b, _, _, hv, hx, hB, _⟩ := h; exact ⟨b, hv, hB.lt, hx⟩
  · obtain ⟨b, _, _, hv, hx, hB, _⟩ := h; exact ⟨b, hv, hB.lt, hx⟩
theorem PatV.below {X : Nat → Prop} {w w' : World} {x : PatP} {v : Value} (h : PatV X w v x) (hb : Below w.heap.size w w') : PatV X w' v x :=
  h.mono (X := X) (Kept.of_below hb (X := fun _ => False) (fun i h1 h2 => by omega)) (fun _ h => h.elim) (fun _ h => h)
theorem PatsV.snoc {X : Nat → Prop} {w : World} : ∀ {l : List PatP} {vs : List Nat} {x : PatP} {v : Nat}, PatsV X w vs l → PatV X w (ptrP v) x → PatsV X w (vs ++ [v]) (l ++ [x])
  | [], [], _, _, _, hx => by
    simp only [List.nil_append, PatsV]
    exact ⟨hx, trivial⟩
  | [], _ :: _, _, _, h, _ => by simp only [PatsV] at h
  | _ :: _, [], _, _, h, _ => by simp only [PatsV] at h
  | x :: l, v :: vs, y, u, h, hx => by
    simp only [PatsV, List.cons_append] at h ⊢
    exact ⟨h.1, PatsV.snoc h.2 hx⟩
theorem PatsV.len {X : Nat → Prop} {w : World} : ∀ {l : List PatP} {vs : List Nat}, PatsV X w vs l → vs.length = l.length
  | [], [], _ => rfl
  | [], _ :: _, h => by simp only [PatsV] at h
  | _ :: _, [], h => by simp only [PatsV] at h
  | x :: l, v :: vs, h => by
    simp only [PatsV] at h
    simp [PatsV.len h.2]

def UnitC (d : Nat) : Prop := ∀ (n : Int), 0 ≤ n → n + (d : Int) = 9 → ∀ (pb B : Nat) (w : World) (l : List Cae.Tok), PS pb B w l → Pc 122 [.pointer (some ⟨pb, 0, none⟩), .int .i64 n] pb B w l (unitP d) (fun w' r x => PatV (· < w.heap.size) w' r x)
def AgainC (d : Nat) : Prop := ∀ (n : Int), 0 ≤ n → n + (d : Int) = 9 → ∀ (pb B : Nat) (w : World) (l : List Cae.Tok), PS pb B w l → Pc 91 [.pointer (some ⟨pb, 0, none⟩), .int .i64 n] pb B w l (againW d (unitP d)) (fun w' r x => PatV (· < w.heap.size) w' r x)
def RowC (d : Nat) : Prop := ∀ (n : Int), 0 ≤ n → n + (d : Int) = 9 → ∀ (pb B : Nat) (w : World) (l : List Cae.Tok), PS pb B w l → Pc 72 [.pointer (some ⟨pb, 0, none⟩), .int .i64 n] pb B w l (rowW (againW d (unitP d))) (fun w' r x => PatV (· < w.heap.size) w' r x)
def PatC (d : Nat) : Prop := ∀ (n : Int), 0 ≤ n → n + (d : Int) = 9 → ∀ (pb B : Nat) (w : World) (l : List Cae.Tok), PS pb B w l → Pc 52 [.pointer (some ⟨pb, 0, none⟩), .int .i64 n] pb B w l (patP d) (fun w' r x => PatV (· < w.heap.size) w' r x)
theorem unit_zero : UnitC 0 := by
  intro n hn0 hn pb B w l h
  refine fun2_of_vc Tryz.func122 rfl (by kernel_rfl) [.tmp 4] rfl ?_
  push_cast -dsimp (maxSteps := 4000000) [Tryz.ntmps122]
  refine callP_of (deep_c n h) ?_ ?_
  · rintro _ _ ⟨h8, rfl, rfl⟩
    omega
  · rintro c w' ⟨h8, ht, hb⟩
    push_cast -dsimp
    exact ⟨4, _, rfl, ht, Kept.of_below hb (fun i h1 h2 => by omega)⟩
theorem unit_succ (d : Nat) (ihp : PatC d) : UnitC (d + 1) := by
  intro n hn0 hn pb B w l0 h0
  obtain ⟨t, r, hl0⟩ := h0.tl.cons
  have hhd : Cae.hd l0 = t := by rw [hl0]; rfl
  have h0' := h0
  rw [hl0] at h0'
  obtain ⟨b, o, c, hB, hc, hne, c0, c1, c2, c3⟩ := h0'.hd
  have cb : w.cell? ⟨pb, 0, none⟩ = some (.slice (some ⟨b, o, none⟩) (r.length + 1) c) := hB.cell rfl
  have hle := h0.le
  have hlt := h0.lt
  have hunf : unitP (d + 1) l0 = pif (seeP [46]) (Cae.pb popP fun _ => pr .any)
    (pif (seeP [36]) (Cae.pb popP fun _ => pr .edge)
    (pif (seeP [40]) (Cae.pb popP fun _ => Cae.pb (patP d) fun x => Cae.pb (mustP [41]) fun _ => pr x)
    (pif unitStart (Cae.pb (oneP (d + 1)) fun k => pr (.one k)) (pfail 3)))) l0 := rfl
  refine fun2_of_vc Tryz.func122 rfl (by kernel_rfl) [.tmp 4] rfl ?_
  push_cast -dsimp (maxSteps := 4000000) [Tryz.ntmps122]
  refine callP_of (deep_c n h0) ?_ (fun c w' hh => by have := hh.1; omega)
  rintro _ w0 ⟨h8, rfl, hw0⟩
  obtain rfl : w = w0 := hw0.symm
  push_cast -dsimp
  refine callK_of (take_c [46] h0) ?_
  rintro _ w2 hT
  rcases hT with ⟨hs1, rfl, t1, r1, el1, h51, P2, kt, hz⟩ | ⟨hs1, rfl, hww⟩
  · have hpop : popP l0 = .ok ((), r1) := by rw [el1]; exact popP_cons h51
    push_cast -dsimp
    refine boxK_of ?_
    intro w3 hw3
    have B3 : Blk w3 w2.heap.size 83 [.int .i64 2, .pointer none, .slice none 0 0, .int .i64 0, .int .i64 0] := hw3.blk
    have P3 := P2.below hw3.below
    have k3 := kt.trans (Kept.new (X := (· = pb)) hw3) (fun i _ h => h)
    push_cast -dsimp
    refine ⟨.any, r1, ?_, ?_, P3, k3⟩
    · rw [hunf]
      unfold pif
      rw [hs1, if_pos rfl, pb_of hpop]
      rfl
    · simp only [PatV]
      exact ⟨_, rfl, by omega, B3⟩
  · obtain rfl : w = w2 := hww.symm
    push_cast -dsimp
    refine callK_of (take_c [36] h0) ?_
    rintro _ w2 hT
    rcases hT with ⟨hs2, rfl, t1, r1, el1, h51, P2, kt, hz⟩ | ⟨hs2, rfl, hww⟩
    · have hpop : popP l0 = .ok ((), r1) := by rw [el1]; exact popP_cons h51
      push_cast -dsimp
      refine boxK_of ?_
      intro w3 hw3
      have B3 : Blk w3 w2.heap.size 83 [.int .i64 3, .pointer none, .slice none 0 0, .int .i64 0, .int .i64 0] := hw3.blk
      have P3 := P2.below hw3.below
      have k3 := kt.trans (Kept.new (X := (· = pb)) hw3) (fun i _ h => h)
      push_cast -dsimp
      refine ⟨.edge, r1, ?_, ?_, P3, k3⟩
      · rw [hunf]
        unfold pif
        rw [hs1, hs2, if_neg (by decide), if_pos rfl, pb_of hpop]
        rfl
      · simp only [PatV]
        exact ⟨_, rfl, by omega, B3⟩
    · obtain rfl : w = w2 := hww.symm
      push_cast -dsimp
      refine callK_of (take_c [40] h0) ?_
      rintro _ w2 hT
      rcases hT with ⟨hs3, rfl, t1, r1, el1, h51, P2, kt, hz⟩ | ⟨hs3, rfl, hww⟩
      · have hpop : popP l0 = .ok ((), r1) := by rw [el1]; exact popP_cons h51
        have hred : unitP (d + 1) l0 = Cae.pb (patP d) (fun x => Cae.pb (mustP [41]) fun _ => pr x) r1 := by
          rw [hunf]
          unfold pif
          rw [hs1, hs2, hs3, if_neg (by decide), if_neg (by decide), if_pos rfl, pb_of hpop]
        push_cast -dsimp
        refine ⟨⟨by omega, by omega⟩, ?_⟩
        refine callP_of (ihp (n + 1) (by omega) (by omega) pb B w2 r1 P2) ?_ ?_
        · rintro u w3 ⟨x, l3, e3, V3, P3, k3⟩
          push_cast -dsimp
          refine callP_of (must_c [41] P3) ?_ ?_
          · rintro _ w4 ⟨_, l4, e4, rfl, P4, k4⟩
            push_cast -dsimp
            have z3 := k3.size
            refine ⟨x, l4, ?_, V3.mono k4 (fun i h => by omega) (fun i h => by omega), P4, (kt.trans k3 (fun i _ h => h)).trans k4 (fun i _ h => h)⟩
            rw [hred, pb_of e3, pb_of e4]
            rfl
          · rintro c w4 ⟨e, pos, he, ht, hk⟩
            push_cast -dsimp
            have z3 := k3.size
            refine ⟨e, pos, ?_, ht.mono (by omega), (kt.trans k3 (fun i _ h => h)).trans hk (fun i _ h => h)⟩
            rw [hred, pb_of e3]
            unfold Cae.pb
            rw [he]
        · rintro c w3 ⟨e, pos, he, ht, hk⟩
          push_cast -dsimp
          refine ⟨e, pos, ?_, ht.mono (by omega), kt.trans hk (fun i _ h => h)⟩
          rw [hred]
          unfold Cae.pb
          rw [he]
      · obtain rfl : w = w2 := hww.symm
        have hus : unitStart l0 = (t.kind == 3 || namedP l0) := by unfold unitStart isKind; rw [hhd]
        push_cast -dsimp [cb, c0]
        have hone : unitStart l0 = true → unitP (d + 1) l0 = Cae.pb (oneP (d + 1)) (fun k => pr (.one k)) l0 := fun hu => by
          rw [hunf]
          unfold pif
          rw [hs1, hs2, hs3, hu, if_neg (by decide), if_neg (by decide), if_neg (by decide), if_pos rfl]
        refine ⟨by omega, fun h3 => ?_, fun h3 => ?_⟩
        · refine callK_of (named_c h0) ?_
          rintro _ w1 ⟨rfl, b1⟩
          have P1 := h0.below b1
          have k1 : Kept (· = pb) w w1 := Kept.of_below b1 (fun i h1 h2 => by omega)
          have z1 := b1.size
          have hk3 : (t.kind == 3) = false := by
            have : t.kind ≠ 3 := fun e => h3 (by omega)
            simpa using this
          rw [hk3, Bool.false_or] at hus
          cases hnm : namedP l0 with
          | true =>
            have hred := hone (by rw [hus, hnm])
            push_cast -dsimp
            refine callP_of (one_c (d + 1) n (by omega) (by omega) pb B w1 l0 P1) ?_ ?_
            · rintro u w3 ⟨k, l3, e3, V3, P3, k3⟩
              obtain ⟨ub, rfl, hub⟩ := V3.ptr
              push_cast -dsimp
              refine boxK_of ?_
              intro w4 hw4
              have B4 : Blk w4 w3.heap.size 83 [.int .i64 1, .pointer (some ⟨ub, 0, none⟩), .slice none 0 0, .int .i64 0, .int .i64 0] := hw4.blk
              have P4 := P3.below hw4.below
              have z3 := k3.size
              have k4 := (k1.trans k3 (fun i _ h => h)).trans (Kept.new (X := (· = pb)) hw4) (fun i _ h => h)
              push_cast -dsimp
              refine ⟨.one k, l3, ?_, ?_, P4, k4⟩
              · rw [hred, pb_of e3]
                rfl
              · simp only [PatV]
                exact ⟨_, _, rfl, by omega, B4, V3.mono (Kept.new (X := fun _ => False) hw4) (fun _ h => h.elim) (fun i h => by omega)⟩
            · rintro c w3 ⟨e, pos, he, ht, hk⟩
              push_cast -dsimp
              refine ⟨e, pos, ?_, ht.mono (by omega), k1.trans hk (fun i _ h => h)⟩
              rw [hred]
              unfold Cae.pb
              rw [he]
          | false =>
            push_cast -dsimp
            refine callP_of (fail_c 3 P1) (fun _ _ h => h.elim) ?_
            rintro c w4 ⟨ht, hb⟩
            push_cast -dsimp
            refine ⟨3, _, ?_, ht.mono (by omega), k1.trans (Kept.of_below hb (X := (· = pb)) (fun i h1 h2 => by omega)) (fun i _ h => h)⟩
            rw [hunf]
            unfold pif
            rw [hs1, hs2, hs3, hus, hnm, if_neg (by decide), if_neg (by decide), if_neg (by decide), if_neg (by decide)]
            rfl
        · have hred := hone (by
            have : t.kind = 3 := by omega
            rw [hus, this]; rfl)
          have k1 : Kept (· = pb) w w := Kept.refl _ _
          have z1 : w.heap.size ≤ w.heap.size := Nat.le_refl _
          refine callP_of (one_c (d + 1) n (by omega) (by omega) pb B w l0 h0) ?_ ?_
          · rintro u w3 ⟨k, l3, e3, V3, P3, k3⟩
            obtain ⟨ub, rfl, hub⟩ := V3.ptr
            push_cast -dsimp
            refine boxK_of ?_
            intro w4 hw4
            have B4 : Blk w4 w3.heap.size 83 [.int .i64 1, .pointer (some ⟨ub, 0, none⟩), .slice none 0 0, .int .i64 0, .int .i64 0] := hw4.blk
            have P4 := P3.below hw4.below
            have z3 := k3.size
            have k4 := (k1.trans k3 (fun i _ h => h)).trans (Kept.new (X := (· = pb)) hw4) (fun i _ h => h)
            push_cast -dsimp
            refine ⟨.one k, l3, ?_, ?_, P4, k4⟩
            · rw [hred, pb_of e3]
              rfl
            · simp only [PatV]
              exact ⟨_, _, rfl, by omega, B4, V3.mono (Kept.new (X := fun _ => False) hw4) (fun _ h => h.elim) (fun i h => by omega)⟩
          · rintro c w3 ⟨e, pos, he, ht, hk⟩
            push_cast -dsimp
            refine ⟨e, pos, ?_, ht.mono (by omega), k1.trans hk (fun i _ h => h)⟩
            rw [hred]
            unfold Cae.pb
            rw [he]
end Go.Proofs.YtphebgkbkdjjoaaGreatDoor
end
section
/- The reference's units. -/
namespace Go.Proofs.YtphebgkbkdjjoaaGreatDoor
open Go.Vc Go.Proofs Go.RowKit Cae
set_option maxRecDepth 100000
set_option linter.unusedSimpArgs false
set_option linter.unusedVariables false
attribute [local irreducible] wpL callK valK unitK runK Fun Sl Vc.Own vc vcOps opK pureK
set_option maxHeartbeats 4000000
def UnitR (d : Nat) : Prop := ∀ (n : Int), 0 ≤ n → n + (d : Int) = 9 → ∀ (rb B : Nat) (w : World) (l : List Cae.Tok) (bad : Option (Nat × Nat)), RS rb B w l bad → Rc 63 [.pointer (some ⟨rb, 0, none⟩), .int .i64 n] rb B w l bad (unitP d) (fun w' r x => PatV (· < w.heap.size) w' r x) (fun r => ∃ a, r = .pointer a)
def PartR (d : Nat) : Prop := ∀ (n : Int), 0 ≤ n → n + (d : Int) = 9 → ∀ (rb B : Nat) (w : World) (l : List Cae.Tok) (bad : Option (Nat × Nat)), RS rb B w l bad → Rc 43 [.pointer (some ⟨rb, 0, none⟩), .int .i64 n] rb B w l bad (againW d (unitP d)) (fun w' r x => PatV (· < w.heap.size) w' r x) (fun r => ∃ a, r = .pointer a)
def PatR (d : Nat) : Prop := ∀ (n : Int), 0 ≤ n → n + (d : Int) = 9 → ∀ (rb B : Nat) (w : World) (l : List Cae.Tok) (bad : Option (Nat × Nat)), RS rb B w l bad → Rc 21 [.pointer (some ⟨rb, 0, none⟩), .int .i64 n] rb B w l bad (patP d) (fun w' r x => PatV (· < w.heap.size) w' r x) (fun r => ∃ a, r = .pointer a)
theorem runit_zero : UnitR 0 := by
  intro n hn0 hn rb B w l bad h
  have heo : outP bad (unitP 0) l = .error (bad.getD (4, (Cae.hd l).pos)) := by cases bad <;> rfl
  refine fun_of_vc Tryz.func63 rfl (by kernel_rfl) [4] rfl ?_
  push_cast -dsimp (maxSteps := 4000000) [Tryz.ntmps63]
  refine ⟨fun h8 => ?_, fun h8 => by omega⟩
  refine callK_of (rfails_c h 4 (by decide)) ?_
  rintro _ w1 ⟨rfl, P1, k1⟩
  push_cast -dsimp
  refine callK_of (rok_c P1) ?_
  rintro _ w2 ⟨rfl, hb2⟩
  unfold RRes
  rw [heo]
  push_cast -dsimp
  exact ⟨k1.trans (Kept.rb P1.le P1.lt hb2) (fun i _ h => h), ⟨_, rfl⟩, _, P1.below hb2⟩
theorem runit_succ (d : Nat) (ihp : PatR d) : UnitR (d + 1) := by
  intro n hn0 hn rb B w l0 bad h0
  have hle := h0.le
  have hlt := h0.lt
  refine fun_of_vc Tryz.func63 rfl (by kernel_rfl) [4] rfl ?_
  push_cast -dsimp (maxSteps := 4000000) [Tryz.ntmps63]
  refine ⟨fun h8 => by omega, fun h8 => ?_⟩
  refine callK_of (rok_c h0) ?_
  rintro _ w1 ⟨rfl, hb1⟩
  have P1 := h0.below hb1
  have k1 : Kept (· = rb) w w1 := Kept.rb hle hlt hb1
  have z1 := hb1.size
  unfold RRes
  cases bad with
  | some e =>
    push_cast -dsimp
    exact ⟨k1, ⟨_, rfl⟩, _, P1⟩
  | none =>
    obtain ⟨t, r, hl0⟩ := h0.cons
    have hhd : Cae.hd l0 = t := by rw [hl0]; rfl
    have hunf : unitP (d + 1) l0 = pif (seeP [46]) (Cae.pb popP fun _ => pr .any)
      (pif (seeP [36]) (Cae.pb popP fun _ => pr .edge)
      (pif (seeP [40]) (Cae.pb popP fun _ => Cae.pb (patP d) fun x => Cae.pb (mustP [41]) fun _ => pr x)
      (pif unitStart (Cae.pb (oneP (d + 1)) fun k => pr (.one k)) (pfail 3)))) l0 := rfl
    have hout : outP none (unitP (d + 1)) l0 = unitP (d + 1) l0 := rfl
    rw [hout]
    push_cast -dsimp
    refine callK_of (rtake_c P1 [46]) ?_
    rintro _ w2 hT
    rcases hT with ⟨_, hs1, rfl, t1, r1, el1, h51, P2, kt⟩ | ⟨hs1, rfl, P2, b2⟩
    · have hpop : popP l0 = .ok ((), r1) := by rw [el1]; exact popP_cons h51
      have hex : unitP (d + 1) l0 = .ok (.any, r1) := by
        rw [hunf]
        unfold pif
        rw [hs1, if_pos rfl, pb_of hpop]
        rfl
      rw [hex]
      have k2 := k1.trans kt (fun i _ h => h)
      have z2 := k2.size
      push_cast -dsimp
      refine boxK_of ?_
      intro w3 hw3
      have B3 : Blk w3 w2.heap.size 83 [.int .i64 2, .pointer none, .slice none 0 0, .int .i64 0, .int .i64 0] := hw3.blk
      push_cast -dsimp
      refine ⟨k2.trans (Kept.of_below hw3.below (X := (· = rb)) (fun i h1 h2 => by omega)) (fun i _ h => h), ?_, P2.below hw3.below⟩
      simp only [PatV]
      exact ⟨_, rfl, by omega, B3⟩
    · have k2 := k1.trans (Kept.rb P1.le P1.lt b2) (fun i _ h => h)
      push_cast -dsimp
      refine callK_of (rtake_c P2 [36]) ?_
      rintro _ w3 hT
      rcases hT with ⟨_, hs2, rfl, t1, r1, el1, h51, P3, kt⟩ | ⟨hs2, rfl, P3, b3⟩
      · have hpop : popP l0 = .ok ((), r1) := by rw [el1]; exact popP_cons h51
        have hex : unitP (d + 1) l0 = .ok (.edge, r1) := by
          rw [hunf]
          unfold pif
          rw [show seeP [46] l0 = false from hs1, hs2, if_neg (by decide), if_pos rfl, pb_of hpop]
          rfl
        rw [hex]
        have k3 := k2.trans kt (fun i _ h => h)
        have z3 := k3.size
        push_cast -dsimp
        refine boxK_of ?_
        intro w4 hw4
        have B4 : Blk w4 w3.heap.size 83 [.int .i64 3, .pointer none, .slice none 0 0, .int .i64 0, .int .i64 0] := hw4.blk
        push_cast -dsimp
        refine ⟨k3.trans (Kept.of_below hw4.below (X := (· = rb)) (fun i h1 h2 => by omega)) (fun i _ h => h), ?_, P3.below hw4.below⟩
        simp only [PatV]
        exact ⟨_, rfl, by omega, B4⟩
      · have k3 := k2.trans (Kept.rb P2.le P2.lt b3) (fun i _ h => h)
        push_cast -dsimp
        refine callK_of (rtake_c P3 [40]) ?_
        rintro _ w4 hT
        rcases hT with ⟨_, hs3, rfl, t1, r1, el1, h51, P4, kt⟩ | ⟨hs3, rfl, P4, b4⟩
        · have hpop : popP l0 = .ok ((), r1) := by rw [el1]; exact popP_cons h51
          have hred : unitP (d + 1) l0 = Cae.pb (patP d) (fun x => Cae.pb (mustP [41]) fun _ => pr x) r1 := by
            rw [hunf]
            unfold pif
            rw [show seeP [46] l0 = false from hs1, show seeP [36] l0 = false from hs2, hs3, if_neg (by decide), if_neg (by decide), if_pos rfl, pb_of hpop]
          rw [hred]
          have k4 := k3.trans kt (fun i _ h => h)
          have z4 := k4.size
          push_cast -dsimp
          refine ⟨by omega, ?_⟩
          refine callK_of (ihp (n + 1) (by omega) (by omega) rb B w4 r1 none P4) ?_
          rintro v5 w5 ⟨k5, hO5⟩
          have k5' := k4.trans k5 (fun i _ h => h)
          rw [show outP none (patP d) r1 = patP d r1 from rfl] at hO5
          cases ho : patP d r1 with
          | ok q =>
            obtain ⟨x, l2⟩ := q
            rw [ho] at hO5
            obtain ⟨V5, P5⟩ := hO5
            have hp := V5.ptr
            obtain ⟨ub, rfl, hub, _⟩ := hp
            rw [pb_of ho]
            push_cast -dsimp
            refine callK_of (rmust_c P5 [41]) ?_
            rintro _ w6 ⟨k6, hM⟩
            have k6' := k5'.trans k6 (fun i _ h => h)
            rw [show outP none (mustP [41]) l2 = mustP [41] l2 from rfl] at hM
            cases hm : mustP [41] l2 with
            | ok q =>
              obtain ⟨_, l3⟩ := q
              rw [hm] at hM
              obtain ⟨rfl, P6⟩ := hM
              rw [pb_of hm]
              push_cast -dsimp
              exact ⟨k6', V5.mono k6 (fun i h => by have := P4.le; have := P4.lt; omega) (fun i h => by omega), P6⟩
            | error e =>
              rw [hm] at hM
              obtain ⟨rfl, l3, P6⟩ := hM
              have heo : Cae.pb (mustP [41]) (fun _ => pr x) l2 = .error e := by unfold Cae.pb; rw [hm]
              rw [heo]
              push_cast -dsimp
              exact ⟨k6', ⟨_, rfl⟩, _, P6⟩
          | error e =>
            rw [ho] at hO5
            obtain ⟨⟨u, rfl⟩, l2, P5⟩ := hO5
            have heo : Cae.pb (patP d) (fun x => Cae.pb (mustP [41]) fun _ => pr x) r1 = .error e := by unfold Cae.pb; rw [ho]
            rw [heo]
            push_cast -dsimp
            refine callK_of (rmust_c P5 [41]) ?_
            rintro _ w6 ⟨k6, hM⟩
            rw [show outP (some e) (mustP [41]) l2 = .error e from rfl] at hM
            obtain ⟨rfl, l3, P6⟩ := hM
            push_cast -dsimp
            exact ⟨k5'.trans k6 (fun i _ h => h), ⟨_, rfl⟩, _, P6⟩
        · have k4 := k3.trans (Kept.rb P3.le P3.lt b4) (fun i _ h => h)
          have z4 := k4.size
          have P4' := P4
          rw [hl0] at P4'
          obtain ⟨b, o, c, hB, hc, hne, c0, c1, c2, c3⟩ := P4'.hd
          have cb : w4.cell? ⟨rb, 0, none⟩ = some (.slice (some ⟨b, o, none⟩) (r.length + 1) c) := hB.cell rfl
          have hred : unitP (d + 1) l0 = if unitStart l0 = true then Cae.pb (oneP (d + 1)) (fun k => pr (.one k)) l0 else pfail 3 l0 := by
            rw [hunf]
            unfold pif
            rw [show seeP [46] l0 = false from hs1, show seeP [36] l0 = false from hs2, show seeP [40] l0 = false from hs3, if_neg (by decide), if_neg (by decide), if_neg (by decide)]
          push_cast -dsimp [cb, c0]
          refine ⟨by omega, fun h3 => ?_, fun h3 => ?_⟩
          rotate_left
          · have hst : unitStart l0 = true := by
              have : t.kind = 3 := by omega
              simp [unitStart, isKind, hhd, this]
            rw [if_pos hst] at hred
            -- w4: the world, P4: its reader (tokens l0), k4: Kept, hred: the unit's answer is the kind's
            refine callK_of (kone_all (d + 1) n (by omega) (by omega) rb B w4 l0 none P4) ?_
            rintro v9 w9 ⟨k9, hO9⟩
            have k9' := Kept.trans k4 k9 (fun i _ h => h)
            have zk9 := (k4).size
            have z9 := k9.size
            rw [show outP none (oneP (d + 1)) l0 = oneP (d + 1) l0 from rfl] at hO9
            rw [hred]
            cases ho : oneP (d + 1) l0 with
            | ok q =>
              obtain ⟨kk, l2⟩ := q
              rw [ho] at hO9
              obtain ⟨V9, P9⟩ := hO9
              have hp := V9.ptr
              obtain ⟨ub, rfl, hub⟩ := hp
              rw [pb_of ho]
              push_cast -dsimp
              refine boxK_of ?_
              intro w10 hw10
              have B10 : Blk w10 w9.heap.size 83 [.int .i64 1, .pointer (some ⟨ub, 0, none⟩), .slice none 0 0, .int .i64 0, .int .i64 0] := hw10.blk
              push_cast -dsimp
              refine ⟨k9'.trans (Kept.of_below hw10.below (X := (· = rb)) (fun i h1 h2 => by omega)) (fun i _ h => h), ?_, P9.below hw10.below⟩
              simp only [PatV]
              exact ⟨_, _, rfl, by omega, B10, (V9.mono (Kept.refl (fun _ => False) w9) (fun _ h => h.elim) (fun i h => by omega)).below hw10.below⟩
            | error e =>
              rw [ho] at hO9
              obtain ⟨⟨u, rfl⟩, l2, P9⟩ := hO9
              have heo : Cae.pb (oneP (d + 1)) (fun k => pr (PatP.one k)) l0 = .error e := by unfold Cae.pb; rw [ho]
              rw [heo]
              push_cast -dsimp
              refine boxK_of ?_
              intro w10 hw10
              push_cast -dsimp
              exact ⟨k9'.trans (Kept.of_below hw10.below (X := (· = rb)) (fun i h1 h2 => by omega)) (fun i _ h => h), ⟨_, rfl⟩, _, P9.below hw10.below⟩
          · have hk3 : isKind 3 l0 = false := by
              have : t.kind ≠ 3 := fun e => h3 (by omega)
              simp [isKind, hhd, this]
            refine callK_of (risName_c P4) ?_
            rintro _ w5 ⟨rfl, hb5⟩
            have P5 := P4.below hb5
            have k5 := k4.trans (Kept.rb P4.le P4.lt hb5) (fun i _ h => h)
            cases hnm : namedP l0 with
            | true =>
              have hst : unitStart l0 = true := by simp [unitStart, hnm]
              rw [if_pos hst] at hred
              push_cast -dsimp
              -- w5: the world, P5: its reader (tokens l0), k5: Kept, hred: the unit's answer is the kind's
              refine callK_of (kone_all (d + 1) n (by omega) (by omega) rb B w5 l0 none P5) ?_
              rintro v9 w9 ⟨k9, hO9⟩
              have k9' := Kept.trans k5 k9 (fun i _ h => h)
              have zk9 := (k5).size
              have z9 := k9.size
              rw [show outP none (oneP (d + 1)) l0 = oneP (d + 1) l0 from rfl] at hO9
              rw [hred]
              cases ho : oneP (d + 1) l0 with
              | ok q =>
                obtain ⟨kk, l2⟩ := q
                rw [ho] at hO9
                obtain ⟨V9, P9⟩ := hO9
                have hp := V9.ptr
                obtain ⟨ub, rfl, hub⟩ := hp
                rw [pb_of ho]
                push_cast -dsimp
                refine boxK_of ?_
                intro w10 hw10
                have B10 : Blk w10 w9.heap.size 83 [.int .i64 1, .pointer (some ⟨ub, 0, none⟩), .slice none 0 0, .int .i64 0, .int .i64 0] := hw10.blk
                push_cast -dsimp
                refine ⟨k9'.trans (Kept.of_below hw10.below (X := (· = rb)) (fun i h1 h2 => by omega)) (fun i _ h => h), ?_, P9.below hw10.below⟩
                simp only [PatV]
                exact ⟨_, _, rfl, by omega, B10, (V9.mono (Kept.refl (fun _ => False) w9) (fun _ h => h.elim) (fun i h => by omega)).below hw10.below⟩
              | error e =>
                rw [ho] at hO9
                obtain ⟨⟨u, rfl⟩, l2, P9⟩ := hO9
                have heo : Cae.pb (oneP (d + 1)) (fun k => pr (PatP.one k)) l0 = .error e := by unfold Cae.pb; rw [ho]
                rw [heo]
                push_cast -dsimp
                refine boxK_of ?_
                intro w10 hw10
                push_cast -dsimp
                exact ⟨k9'.trans (Kept.of_below hw10.below (X := (· = rb)) (fun i h1 h2 => by omega)) (fun i _ h => h), ⟨_, rfl⟩, _, P9.below hw10.below⟩
            | false =>
              have hst : ¬ unitStart l0 = true := by simp [unitStart, hnm, hk3]
              rw [if_neg hst] at hred
              have heo : unitP (d + 1) l0 = .error (3, (Cae.hd l0).pos) := hred
              rw [heo]
              push_cast -dsimp
              refine callK_of (rfails_c P5 3 (by decide)) ?_
              rintro _ w6 ⟨rfl, P6, k6⟩
              push_cast -dsimp
              exact ⟨k5.trans k6 (fun i _ h => h), ⟨_, rfl⟩, _, P6⟩
end Go.Proofs.YtphebgkbkdjjoaaGreatDoor
end
section
namespace Go.Proofs.YtphebgkbkdjjoaaGreatDoor
open Go.Vc Go.Proofs Go.RowKit Cae
set_option maxRecDepth 100000
set_option linter.unusedSimpArgs false
set_option linter.unusedVariables false
attribute [local irreducible] wpL callK valK unitK runK Fun Sl Vc.Own vc vcOps opK pureK
set_option maxHeartbeats 4000000

/-- A slice of one that lies in a block of its own. -/
theorem sl_blk1 {w : World} {b : Nat} {e : TypeId} {u : Nat} {X : Nat → Prop} (h : Blk w b e [ptrP u]) (hb : ¬ X b) : Sl X 1 (En encP) w (.slice (some ⟨b, 0, none⟩) 1 1) [u] := by
  unfold Sl
  refine ⟨_, 1, rfl, by simp, fun i x hx => ⟨b, 0, encP u, rfl, hb, rfl, fun j y hy => ?_, ?_⟩⟩
  · have hi : i = 0 := by
      have := (List.getElem?_eq_some_iff.1 hx).1
      simp at this; exact this
    have hj : j = 0 := by
      have := (List.getElem?_eq_some_iff.1 hy).1
      simp [encP] at this; exact this
    subst hi hj
    simp [encP] at hy
    subst hy
    exact h.cell rfl
  · have hi : i = 0 := by
      have := (List.getElem?_eq_some_iff.1 hx).1
      simp at this; exact this
    subst hi
    simp at hx
    subst hx
    rfl
theorem again_err {d m c : Nat} {x : PatP} {l : List Cae.Tok} {e : Nat × Nat} (hm : l.length < m) (h : suffixP l = .error e) : againLoop d m c x l = .error e := by
  obtain ⟨m', rfl⟩ : ∃ m', m = m' + 1 := ⟨m - 1, by omega⟩
  rw [againLoop]
  unfold Cae.pb
  rw [h]
theorem again_of (d : Nat) (hu : UnitC d) : AgainC d := by
  intro n hn0 hn pb B w l0 h0
  have hle := h0.le
  have hlt := h0.lt
  refine fun2_of_vc Tryz.func91 rfl (by kernel_rfl) [.tmp 4] rfl ?_
  push_cast -dsimp (maxSteps := 4000000) [Tryz.ntmps91]
  refine callP_of (hu n hn0 hn pb B w l0 h0) ?_ ?_
  · rintro v1 w1 ⟨x0, l1, e1, V1, P1, hk1⟩
    have hstart : againW d (unitP d) l0 = againLoop d 1000 0 x0 l1 := by
      unfold againW
      rw [pb_of e1]
    push_cast -dsimp
    refine wpL_loop [4, 5, 6, 7, 12, 13, 14, 15, 16, 17, 18, 19, 20, 21, 22, 23, 24, 25, 26, 27, 28, 29, 30, 31, 32, 33, 34, 35, 36, 37, 38, 39, 40, 41, 42, 43, 44, 45, 46, 47, 48, 49, 50, 51, 52, 53, 54, 55, 56, 57, 58, 59, 60, 61, 62, 63, 64, 65, 66, 67, 68, 69, 70, 71, 72, 73, 74, 75, 76, 77, 78, 79, 80, 81, 82, 83] (fun z w' => ∃ (m c : Nat) (x : PatP) (l1 : List Cae.Tok) (i : Int), againLoop d m c x l1 = againW d (unitP d) l0 ∧ l1.length < m ∧ (z 6 = .int .i64 i ∧ i = n + (c : Int) ∧ i ≤ 9) ∧ PatV (· < w.heap.size) w' (z 5) x ∧ PS pb B w' l1 ∧ Kept (· = pb) w w') (fun z w' => lenAt w' pb) ?_ ?_
    · have hlt : l1.length < 1000 := by have := P1.tl.len; omega
      exact ⟨1000, 0, x0, l1, n, hstart.symm, hlt, ⟨rfl, by omega, by omega⟩, V1, P1, hk1⟩
    rintro z w' ⟨m, c, x, l1, i, hm2, hm, ⟨hz6, hi, hi9⟩, V1, hP1, hkw⟩
    obtain ⟨kb, hz5, hkb, hkX⟩ := V1.ptr
    rw [hz5] at V1
    obtain ⟨t1, r1, el1⟩ := hP1.tl.cons
    have hzw := hkw.size
    push_cast -dsimp [hz5]
    refine rowK elI_81 rfl rfl (by omega) ?_
    intro w2 hw2
    have BX0 : Blk w2 w'.heap.size 42 [.pointer (some ⟨kb, 0, none⟩)] := hw2.blk
    have P2 := hP1.below hw2.below
    have z2 := hw2.size
    have k2 := hkw.trans (Kept.new (X := (· = pb)) hw2) (fun i _ h => h)
    push_cast -dsimp
    refine boxK_of ?_
    intro w3 hw3
    have BY0 : Blk w3 (w'.heap.size + 1) 83 [.int .i64 6, .pointer none, .slice (some ⟨w'.heap.size, 0, none⟩) 1 1, .int .i64 0, .int .i64 (-1)] := by
      have := hw3.blk
      rw [z2] at this
      exact this
    have BX3 := BX0.below hw3.below (by omega)
    have P3 := P2.below hw3.below
    have z3 := hw3.size
    have k3 := k2.trans (Kept.new (X := (· = pb)) hw3) (fun i _ h => h)
    have V3 : PatV (fun b => b < w.heap.size ∨ w'.heap.size ≤ b) w3 (.pointer (some ⟨kb, 0, none⟩)) x := (V1.top.below hw2.below).below hw3.below
    push_cast -dsimp [z2]
    refine callK_of (take_c [42] P3) ?_
    rintro _ w4 hT
    rcases hT with ⟨hs1, rfl, t4, l2, el4, h51, P4, kt, hz4⟩ | ⟨hs1, rfl, hww⟩
    · have hpop : popP l1 = .ok ((), l2) := by rw [el4]; exact popP_cons h51
      have hl2 : l1.length = l2.length + 1 := by rw [el4, List.length_cons]
      have hsuf : suffixP l1 = .ok (some (0, -1), l2) := by
        unfold suffixP pif
        rw [hs1, if_pos rfl, pb_of hpop]
        rfl
      have BY := BY0.kept kt (by omega)
      have BX := BX3.kept kt (by omega)
      have kS := k3.trans kt (fun i _ h => h)
      have VX := V3.mono (X' := (· < w.heap.size)) kt (fun i h => by omega) (fun i h => .inl h)
      push_cast -dsimp [hz6]
      -- a round's end: lo, hi; tokens l2; world wS; y's cells BY; kS : Kept (· = pb) w wS
      have hm1 : ∃ m', m = m' + 1 := ⟨m - 1, by omega⟩
      obtain ⟨m', hmm⟩ := hm1
      have hag : againW d (unitP d) l0 = if d ≤ c + 1 then pfail 4 l2 else againLoop d m' (c + 1) (.many x 0 (-1)) l2 := by
        rw [← hm2, hmm, againLoop, pb_of hsuf]
        dsimp only
        split <;> rfl
      refine ⟨⟨by omega, by omega⟩, ?_⟩
      refine callP_of (deep_c (i + 1) P4) ?_ ?_
      · rintro _ w0 ⟨h8, rfl, hw0⟩
        obtain rfl : w4 = w0 := hw0.symm
        have hlen4 := PS.len P4
        have hlen1 := hP1.len
        have hzS := kS.size
        push_cast -dsimp [hz5]
        refine ⟨⟨m', c + 1, .many x 0 (-1), l2, i + 1, ?_, by omega, ⟨rfl, by omega, by omega⟩, ?_, P4, kS⟩, by rw [hlen4, hlen1]; omega⟩
        · rw [hag, if_neg (by omega)]
        · simp only [PatV]
          exact ⟨_, _, _, rfl, by omega, BY, sl_blk1 BX (by omega), VX⟩
      · rintro ce w0 ⟨h8, ht, hb⟩
        push_cast -dsimp
        refine ⟨4, _, ?_, ht.mono (by have := kS.size; omega), kS.trans (Kept.of_below hb (X := (· = pb)) (fun i h1 h2 => by omega)) (fun i _ h => h)⟩
        rw [hag, if_pos (by omega)]
        rfl
    · obtain rfl : w3 = w4 := hww.symm
      push_cast -dsimp
      refine callK_of (take_c [43] P3) ?_
      rintro _ w4 hT
      rcases hT with ⟨hs2, rfl, t4, l2, el4, h51, P4, kt, hz4⟩ | ⟨hs2, rfl, hww⟩
      · have hpop : popP l1 = .ok ((), l2) := by rw [el4]; exact popP_cons h51
        have hl2 : l1.length = l2.length + 1 := by rw [el4, List.length_cons]
        have hsuf : suffixP l1 = .ok (some (1, -1), l2) := by
          unfold suffixP pif
          rw [hs1, hs2, if_neg (by decide), if_pos rfl, pb_of hpop]
          rfl
        have BY4 := BY0.kept kt (by omega)
        have BX4 := BX3.kept kt (by omega)
        have k4 := k3.trans kt (fun i _ h => h)
        have V4 := V3.mono (X' := fun b => b < w.heap.size ∨ w'.heap.size ≤ b) kt (fun i h => by omega) (fun i h => h)
        push_cast -dsimp
        refine storeK_of BY4 (by simp) rfl ?_
        intro w5 hw5
        have BY : Blk w5 (w'.heap.size + 1) 83 [.int .i64 6, .pointer none, .slice (some ⟨w'.heap.size, 0, none⟩) 1 1, .int .i64 1, .int .i64 (-1)] := hw5.blk
        have BX := BX4.kept hw5.kept (by omega)
        have P5 := P4.kept hw5.kept (fun i h => by omega)
        have kS := k4.trans hw5.kept (fun i h1 h2 => by omega)
        have VX := V4.mono (X' := (· < w.heap.size)) hw5.kept (fun i h => by omega) (fun i h => .inl h)
        push_cast -dsimp [hz6]
        -- a round's end: lo, hi; tokens l2; world wS; y's cells BY; kS : Kept (· = pb) w wS
        have hm1 : ∃ m', m = m' + 1 := ⟨m - 1, by omega⟩
        obtain ⟨m', hmm⟩ := hm1
        have hag : againW d (unitP d) l0 = if d ≤ c + 1 then pfail 4 l2 else againLoop d m' (c + 1) (.many x 1 (-1)) l2 := by
          rw [← hm2, hmm, againLoop, pb_of hsuf]
          dsimp only
          split <;> rfl
        refine ⟨⟨by omega, by omega⟩, ?_⟩
        refine callP_of (deep_c (i + 1) P5) ?_ ?_
        · rintro _ w0 ⟨h8, rfl, hw0⟩
          obtain rfl : w5 = w0 := hw0.symm
          have hlen4 := PS.len P5
          have hlen1 := hP1.len
          have hzS := kS.size
          push_cast -dsimp [hz5]
          refine ⟨⟨m', c + 1, .many x 1 (-1), l2, i + 1, ?_, by omega, ⟨rfl, by omega, by omega⟩, ?_, P5, kS⟩, by rw [hlen4, hlen1]; omega⟩
          · rw [hag, if_neg (by omega)]
          · simp only [PatV]
            exact ⟨_, _, _, rfl, by omega, BY, sl_blk1 BX (by omega), VX⟩
        · rintro ce w0 ⟨h8, ht, hb⟩
          push_cast -dsimp
          refine ⟨4, _, ?_, ht.mono (by have := kS.size; omega), kS.trans (Kept.of_below hb (X := (· = pb)) (fun i h1 h2 => by omega)) (fun i _ h => h)⟩
          rw [hag, if_pos (by omega)]
          rfl
      · obtain rfl : w3 = w4 := hww.symm
        push_cast -dsimp
        refine callK_of (take_c [63] P3) ?_
        rintro _ w4 hT
        rcases hT with ⟨hs3, rfl, t4, l2, el4, h51, P4, kt, hz4⟩ | ⟨hs3, rfl, hww⟩
        · have hpop : popP l1 = .ok ((), l2) := by rw [el4]; exact popP_cons h51
          have hl2 : l1.length = l2.length + 1 := by rw [el4, List.length_cons]
          have hsuf : suffixP l1 = .ok (some (0, 1), l2) := by
            unfold suffixP pif
            rw [hs1, hs2, hs3, if_neg (by decide), if_neg (by decide), if_pos rfl, pb_of hpop]
            rfl
          have BY4 := BY0.kept kt (by omega)
          have BX4 := BX3.kept kt (by omega)
          have k4 := k3.trans kt (fun i _ h => h)
          have V4 := V3.mono (X' := fun b => b < w.heap.size ∨ w'.heap.size ≤ b) kt (fun i h => by omega) (fun i h => h)
          push_cast -dsimp
          refine storeK_of BY4 (by simp) rfl ?_
          intro w5 hw5
          have BY : Blk w5 (w'.heap.size + 1) 83 [.int .i64 6, .pointer none, .slice (some ⟨w'.heap.size, 0, none⟩) 1 1, .int .i64 0, .int .i64 1] := hw5.blk
          have BX := BX4.kept hw5.kept (by omega)
          have P5 := P4.kept hw5.kept (fun i h => by omega)
          have kS := k4.trans hw5.kept (fun i h1 h2 => by omega)
          have VX := V4.mono (X' := (· < w.heap.size)) hw5.kept (fun i h => by omega) (fun i h => .inl h)
          push_cast -dsimp [hz6]
          -- a round's end: lo, hi; tokens l2; world wS; y's cells BY; kS : Kept (· = pb) w wS
          have hm1 : ∃ m', m = m' + 1 := ⟨m - 1, by omega⟩
          obtain ⟨m', hmm⟩ := hm1
          have hag : againW d (unitP d) l0 = if d ≤ c + 1 then pfail 4 l2 else againLoop d m' (c + 1) (.many x 0 1) l2 := by
            rw [← hm2, hmm, againLoop, pb_of hsuf]
            dsimp only
            split <;> rfl
          refine ⟨⟨by omega, by omega⟩, ?_⟩
          refine callP_of (deep_c (i + 1) P5) ?_ ?_
          · rintro _ w0 ⟨h8, rfl, hw0⟩
            obtain rfl : w5 = w0 := hw0.symm
            have hlen4 := PS.len P5
            have hlen1 := hP1.len
            have hzS := kS.size
            push_cast -dsimp [hz5]
            refine ⟨⟨m', c + 1, .many x 0 1, l2, i + 1, ?_, by omega, ⟨rfl, by omega, by omega⟩, ?_, P5, kS⟩, by rw [hlen4, hlen1]; omega⟩
            · rw [hag, if_neg (by omega)]
            · simp only [PatV]
              exact ⟨_, _, _, rfl, by omega, BY, sl_blk1 BX (by omega), VX⟩
          · rintro ce w0 ⟨h8, ht, hb⟩
            push_cast -dsimp
            refine ⟨4, _, ?_, ht.mono (by have := kS.size; omega), kS.trans (Kept.of_below hb (X := (· = pb)) (fun i h1 h2 => by omega)) (fun i _ h => h)⟩
            rw [hag, if_pos (by omega)]
            rfl
        · obtain rfl : w3 = w4 := hww.symm
          push_cast -dsimp
          refine callK_of (take_c [123] P3) ?_
          rintro _ w4 hT
          rcases hT with ⟨hs4, rfl, t4, l2, el4, h51, P4, kt, hz4⟩ | ⟨hs4, rfl, hww⟩
          · have hpop : popP l1 = .ok ((), l2) := by rw [el4]; exact popP_cons h51
            have hl2 : l1.length = l2.length + 1 := by rw [el4, List.length_cons]
            have hsx : suffixP l1 = Cae.pb bracesP (fun r => pr (some r)) l2 := by
              unfold suffixP pif
              rw [hs1, hs2, hs3, hs4, if_neg (by decide), if_neg (by decide), if_neg (by decide), if_pos rfl, pb_of hpop]
            have BY4 := BY0.kept kt (by omega)
            have BX4 := BX3.kept kt (by omega)
            have k4 := k3.trans kt (fun i _ h => h)
            have V4 := V3.mono (X' := fun b => b < w.heap.size ∨ w'.heap.size ≤ b) kt (fun i h => by omega) (fun i h => h)
            push_cast -dsimp
            refine callP_of (times_c P4) ?_ ?_
            · rintro _ w5 ⟨n1, l3, e3, ⟨rfl, hn1⟩, P5, kt5⟩
              have BY5 := BY4.kept kt5 (by omega)
              have BX5 := BX4.kept kt5 (by omega)
              have k5 := k4.trans kt5 (fun i _ h => h)
              have V5 := V4.mono (X' := fun b => b < w.heap.size ∨ w'.heap.size ≤ b) kt5 (fun i h => by omega) (fun i h => h)
              push_cast -dsimp
              refine storeK_of BY5 (by simp) rfl ?_
              intro w6 hw6
              have BY6 : Blk w6 (w'.heap.size + 1) 83 [.int .i64 6, .pointer none, .slice (some ⟨w'.heap.size, 0, none⟩) 1 1, .int .i64 n1, .int .i64 (-1)] := hw6.blk
              have cy6 : w6.cell? ⟨w'.heap.size + 1, 3, none⟩ = some (.int .i64 n1) := BY6.cell rfl
              push_cast -dsimp [cy6]
              refine storeK_of BY6 (by simp) rfl ?_
              intro w7 hw7
              have BY7 : Blk w7 (w'.heap.size + 1) 83 [.int .i64 6, .pointer none, .slice (some ⟨w'.heap.size, 0, none⟩) 1 1, .int .i64 n1, .int .i64 n1] := hw7.blk
              have k57 : Kept (· = w'.heap.size + 1) w5 w7 := hw6.kept.trans hw7.kept (fun i _ h => h)
              have BX7 := BX5.kept k57 (by omega)
              have P7 := P5.kept k57 (fun i h => by omega)
              have k7 := k5.trans k57 (fun i h1 h2 => by omega)
              have V7 := V5.mono (X' := fun b => b < w.heap.size ∨ w'.heap.size ≤ b) k57 (fun i h => by omega) (fun i h => h)
              push_cast -dsimp
              refine callK_of (take_c [44] P7) ?_
              rintro _ w8 hT
              rcases hT with ⟨hs5, rfl, t8, l4, el8, h58, P8, kt8, hz8⟩ | ⟨hs5, rfl, hww⟩
              · have hpop8 : popP l3 = .ok ((), l4) := by rw [el8]; exact popP_cons h58
                have BY8 := BY7.kept kt8 (by omega)
                have BX8 := BX7.kept kt8 (by omega)
                have k8 := k7.trans kt8 (fun i _ h => h)
                have V8 := V7.mono (X' := fun b => b < w.heap.size ∨ w'.heap.size ≤ b) kt8 (fun i h => by omega) (fun i h => h)
                have hbr1 : bracesP l2 = pif (isKind 2) (Cae.pb timesP fun hi => if hi < n1 then pfail 2 else Cae.pb (mustP [125]) fun _ => pr ((n1 : Int), (hi : Int))) (Cae.pb (mustP [125]) fun _ => pr ((n1 : Int), -1)) l4 := by
                  unfold bracesP
                  rw [pb_of e3]
                  show (if seeP [44] l3 then _ else _) = _
                  rw [hs5, if_pos rfl, pb_of hpop8]
                push_cast -dsimp
                refine storeK_of BY8 (by simp) rfl ?_
                intro w9 hw9
                have BY9 : Blk w9 (w'.heap.size + 1) 83 [.int .i64 6, .pointer none, .slice (some ⟨w'.heap.size, 0, none⟩) 1 1, .int .i64 n1, .int .i64 (-1)] := hw9.blk
                have BX9 := BX8.kept hw9.kept (by omega)
                have P9 := P8.kept hw9.kept (fun i h => by omega)
                have k9 := k8.trans hw9.kept (fun i h1 h2 => by omega)
                have V9 := V8.mono (X' := fun b => b < w.heap.size ∨ w'.heap.size ≤ b) hw9.kept (fun i h => by omega) (fun i h => h)
                obtain ⟨t9, r9, el9⟩ := P9.tl.cons
                have P9' := P9
                rw [el9] at P9'
                obtain ⟨b9, o9, c9, hB9, hc9, hne9, c90, _, _, _⟩ := P9'.hd
                have cb9 : w9.cell? ⟨pb, 0, none⟩ = some (.slice (some ⟨b9, o9, none⟩) (r9.length + 1) c9) := hB9.cell rfl
                push_cast -dsimp [cb9, c90]
                refine ⟨by omega, fun hk2 => ?_, fun hk2 => ?_⟩
                · have hik : isKind 2 l4 = true := by
                    have : t9.kind = 2 := by omega
                    rw [el9]; simp [isKind, Cae.hd, this]
                  have hbr2 : bracesP l2 = Cae.pb timesP (fun hi => if hi < n1 then pfail 2 else Cae.pb (mustP [125]) fun _ => pr ((n1 : Int), (hi : Int))) l4 := by
                    rw [hbr1]
                    unfold pif
                    rw [hik, if_pos rfl]
                  refine callP_of (times_c P9) ?_ ?_
                  · rintro _ wa ⟨n2, l5, e5, ⟨rfl, hn2⟩, Pa, kta⟩
                    have BYa := BY9.kept kta (by omega)
                    have BXa := BX9.kept kta (by omega)
                    have ka := k9.trans kta (fun i _ h => h)
                    have Va := V9.mono (X' := fun b => b < w.heap.size ∨ w'.heap.size ≤ b) kta (fun i h => by omega) (fun i h => h)
                    push_cast -dsimp
                    refine storeK_of BYa (by simp) rfl ?_
                    intro wb hwb
                    have BYb : Blk wb (w'.heap.size + 1) 83 [.int .i64 6, .pointer none, .slice (some ⟨w'.heap.size, 0, none⟩) 1 1, .int .i64 n1, .int .i64 n2] := hwb.blk
                    have BXb := BXa.kept hwb.kept (by omega)
                    have Pb := Pa.kept hwb.kept (fun i h => by omega)
                    have kb' := ka.trans hwb.kept (fun i h1 h2 => by omega)
                    have VB' := Va.mono (X' := fun b => b < w.heap.size ∨ w'.heap.size ≤ b) hwb.kept (fun i h => by omega) (fun i h => h)
                    push_cast -dsimp
                    refine wpL_draw (fun w' => w' = wb.drew) mixed (by kernel_rfl) rfl ?_
                    have d3 : wb.drew.cell? ⟨w'.heap.size + 1, 3, none⟩ = some (.int .i64 n1) := BYb.drew.cell rfl
                    have d4 : wb.drew.cell? ⟨w'.heap.size + 1, 4, none⟩ = some (.int .i64 n2) := BYb.drew.cell rfl
                    have kd : Kept (fun _ => False) wb wb.drew := (Kept.refl _ _).drew
                    have BYd := BYb.kept kd (fun h => h)
                    have BXd := BXb.kept kd (fun h => h)
                    have Pd := Pb.kept kd (fun i h => h.elim)
                    have kdd := kb'.trans kd (fun i h1 h2 => h2.elim)
                    have VB := VB'.mono (X' := fun b => b < w.heap.size ∨ w'.heap.size ≤ b) kd (fun i h => h.elim) (fun i h => h)
                    push_cast -dsimp [d3, d4]
                    refine ⟨fun w'' h => by rw [h, d4]; exact rfl, fun w'' h => by rw [h, d3]; exact rfl, fun hlt2 => ?_, fun hge2 => ?_⟩
                    · refine callP_of (fail_c 2 Pd) (fun _ _ h => h.elim) ?_
                      rintro ce we ⟨ht, hb⟩
                      push_cast -dsimp
                      have hbr : bracesP l2 = .error (2, (Cae.hd l5).pos) := by
                        rw [hbr2, pb_of e5, if_pos (by omega)]
                        rfl
                      refine ⟨2, _, ?_, ht.mono (by have := kdd.size; omega), kdd.trans (Kept.of_below hb (X := (· = pb)) (fun i h1 h2 => by omega)) (fun i _ h => h)⟩
                      rw [← hm2]
                      refine again_err hm ?_
                      rw [hsx]
                      unfold Cae.pb
                      rw [hbr]
                    · have hbr3 : bracesP l2 = Cae.pb (mustP [125]) (fun _ => pr ((n1 : Int), (n2 : Int))) l5 := by
                        rw [hbr2, pb_of e5, if_neg (by omega)]
                      -- lo, hi, PS, world, tokens, cells of y, cells of the row, kept, the part; what is left to read
                      refine callP_of (must_c [125] Pd) ?_ ?_
                      · rintro _ wm ⟨_, lm, em, rfl, Pm, km⟩
                        have hbr : bracesP l2 = .ok (((n1 : Int), (n2 : Int)), lm) := by rw [hbr3, pb_of em]; rfl
                        have hsuf : suffixP l1 = .ok (some ((n1 : Int), (n2 : Int)), lm) := by rw [hsx, pb_of hbr]; rfl
                        have hlm : lm.length ≤ l2.length := by
                          obtain ⟨pre, _, e, _⟩ := lo_braces _ _ _ hbr
                          rw [e, List.length_append]; omega
                        have BY := BYd.kept km (by omega)
                        have BX := BXd.kept km (by omega)
                        have kS := kdd.trans km (fun i _ h => h)
                        have VX := VB.mono (X' := (· < w.heap.size)) km (fun i h => by omega) (fun i h => .inl h)
                        push_cast -dsimp [hz6]
                        -- a round's end: lo, hi; tokens l2; world wS; y's cells BY; kS : Kept (· = pb) w wS
                        have hm1 : ∃ m', m = m' + 1 := ⟨m - 1, by omega⟩
                        obtain ⟨m', hmm⟩ := hm1
                        have hag : againW d (unitP d) l0 = if d ≤ c + 1 then pfail 4 lm else againLoop d m' (c + 1) (.many x (n1 : Int) (n2 : Int)) lm := by
                          rw [← hm2, hmm, againLoop, pb_of hsuf]
                          dsimp only
                          split <;> rfl
                        refine ⟨⟨by omega, by omega⟩, ?_⟩
                        refine callP_of (deep_c (i + 1) Pm) ?_ ?_
                        · rintro _ w0 ⟨h8, rfl, hw0⟩
                          obtain rfl : wm = w0 := hw0.symm
                          have hlen4 := PS.len Pm
                          have hlen1 := hP1.len
                          have hzS := kS.size
                          push_cast -dsimp [hz5]
                          refine ⟨⟨m', c + 1, .many x (n1 : Int) (n2 : Int), lm, i + 1, ?_, by omega, ⟨rfl, by omega, by omega⟩, ?_, Pm, kS⟩, by rw [hlen4, hlen1]; omega⟩
                          · rw [hag, if_neg (by omega)]
                          · simp only [PatV]
                            exact ⟨_, _, _, rfl, by omega, BY, sl_blk1 BX (by omega), VX⟩
                        · rintro ce w0 ⟨h8, ht, hb⟩
                          push_cast -dsimp
                          refine ⟨4, _, ?_, ht.mono (by have := kS.size; omega), kS.trans (Kept.of_below hb (X := (· = pb)) (fun i h1 h2 => by omega)) (fun i _ h => h)⟩
                          rw [hag, if_pos (by omega)]
                          rfl
                      · rintro ce we ⟨e, pos, he, ht, hke⟩
                        push_cast -dsimp
                        refine ⟨e, pos, ?_, ht.mono (by have := kdd.size; omega), kdd.trans hke (fun i _ h => h)⟩
                        rw [← hm2]
                        refine again_err hm ?_
                        have hbr : bracesP l2 = .error (e, pos) := by rw [hbr3]; unfold Cae.pb; rw [he]
                        rw [hsx]
                        unfold Cae.pb
                        rw [hbr]
                  ·
                    rintro ce we ⟨e, pos, he, ht, hke⟩
                    push_cast -dsimp
                    refine ⟨e, pos, ?_, ht.mono (by have := k9.size; omega), k9.trans hke (fun i _ h => h)⟩
                    rw [← hm2]
                    refine again_err hm ?_
                    rw [hsx]
                    unfold Cae.pb
                    rw [show bracesP l2 = .error (e, pos) by rw [hbr2]; unfold Cae.pb; rw [he]]
                · have hik : isKind 2 l4 = false := by
                    have : t9.kind ≠ 2 := fun e => hk2 (by omega)
                    rw [el9]; simp [isKind, Cae.hd, this]
                  have hbr2 : bracesP l2 = Cae.pb (mustP [125]) (fun _ => pr ((n1 : Int), -1)) l4 := by
                    rw [hbr1]
                    unfold pif
                    rw [hik, if_neg (by decide)]
                  have VB := V9
                  -- lo, hi, PS, world, tokens, cells of y, cells of the row, kept, the part; what is left to read
                  refine callP_of (must_c [125] P9) ?_ ?_
                  · rintro _ wm ⟨_, lm, em, rfl, Pm, km⟩
                    have hbr : bracesP l2 = .ok (((n1 : Int), (-1)), lm) := by rw [hbr2, pb_of em]; rfl
                    have hsuf : suffixP l1 = .ok (some ((n1 : Int), (-1)), lm) := by rw [hsx, pb_of hbr]; rfl
                    have hlm : lm.length ≤ l2.length := by
                      obtain ⟨pre, _, e, _⟩ := lo_braces _ _ _ hbr
                      rw [e, List.length_append]; omega
                    have BY := BY9.kept km (by omega)
                    have BX := BX9.kept km (by omega)
                    have kS := k9.trans km (fun i _ h => h)
                    have VX := VB.mono (X' := (· < w.heap.size)) km (fun i h => by omega) (fun i h => .inl h)
                    push_cast -dsimp [hz6]
                    -- a round's end: lo, hi; tokens l2; world wS; y's cells BY; kS : Kept (· = pb) w wS
                    have hm1 : ∃ m', m = m' + 1 := ⟨m - 1, by omega⟩
                    obtain ⟨m', hmm⟩ := hm1
                    have hag : againW d (unitP d) l0 = if d ≤ c + 1 then pfail 4 lm else againLoop d m' (c + 1) (.many x (n1 : Int) (-1)) lm := by
                      rw [← hm2, hmm, againLoop, pb_of hsuf]
                      dsimp only
                      split <;> rfl
                    refine ⟨⟨by omega, by omega⟩, ?_⟩
                    refine callP_of (deep_c (i + 1) Pm) ?_ ?_
                    · rintro _ w0 ⟨h8, rfl, hw0⟩
                      obtain rfl : wm = w0 := hw0.symm
                      have hlen4 := PS.len Pm
                      have hlen1 := hP1.len
                      have hzS := kS.size
                      push_cast -dsimp [hz5]
                      refine ⟨⟨m', c + 1, .many x (n1 : Int) (-1), lm, i + 1, ?_, by omega, ⟨rfl, by omega, by omega⟩, ?_, Pm, kS⟩, by rw [hlen4, hlen1]; omega⟩
                      · rw [hag, if_neg (by omega)]
                      · simp only [PatV]
                        exact ⟨_, _, _, rfl, by omega, BY, sl_blk1 BX (by omega), VX⟩
                    · rintro ce w0 ⟨h8, ht, hb⟩
                      push_cast -dsimp
                      refine ⟨4, _, ?_, ht.mono (by have := kS.size; omega), kS.trans (Kept.of_below hb (X := (· = pb)) (fun i h1 h2 => by omega)) (fun i _ h => h)⟩
                      rw [hag, if_pos (by omega)]
                      rfl
                  · rintro ce we ⟨e, pos, he, ht, hke⟩
                    push_cast -dsimp
                    refine ⟨e, pos, ?_, ht.mono (by have := k9.size; omega), k9.trans hke (fun i _ h => h)⟩
                    rw [← hm2]
                    refine again_err hm ?_
                    have hbr : bracesP l2 = .error (e, pos) := by rw [hbr2]; unfold Cae.pb; rw [he]
                    rw [hsx]
                    unfold Cae.pb
                    rw [hbr]
              · obtain rfl : w7 = w8 := hww.symm
                have hbr2 : bracesP l2 = Cae.pb (mustP [125]) (fun _ => pr ((n1 : Int), (n1 : Int))) l3 := by
                  unfold bracesP
                  rw [pb_of e3]
                  show (if seeP [44] l3 then _ else _) = _
                  rw [hs5, if_neg (by decide)]
                have VB := V7
                push_cast -dsimp
                -- lo, hi, PS, world, tokens, cells of y, cells of the row, kept, the part; what is left to read
                refine callP_of (must_c [125] P7) ?_ ?_
                · rintro _ wm ⟨_, lm, em, rfl, Pm, km⟩
                  have hbr : bracesP l2 = .ok (((n1 : Int), (n1 : Int)), lm) := by rw [hbr2, pb_of em]; rfl
                  have hsuf : suffixP l1 = .ok (some ((n1 : Int), (n1 : Int)), lm) := by rw [hsx, pb_of hbr]; rfl
                  have hlm : lm.length ≤ l2.length := by
                    obtain ⟨pre, _, e, _⟩ := lo_braces _ _ _ hbr
                    rw [e, List.length_append]; omega
                  have BY := BY7.kept km (by omega)
                  have BX := BX7.kept km (by omega)
                  have kS := k7.trans km (fun i _ h => h)
                  have VX := VB.mono (X' := (· < w.heap.size)) km (fun i h => by omega) (fun i h => .inl h)
                  push_cast -dsimp [hz6]
                  -- a round's end: lo, hi; tokens l2; world wS; y's cells BY; kS : Kept (· = pb) w wS
                  have hm1 : ∃ m', m = m' + 1 := ⟨m - 1, by omega⟩
                  obtain ⟨m', hmm⟩ := hm1
                  have hag : againW d (unitP d) l0 = if d ≤ c + 1 then pfail 4 lm else againLoop d m' (c + 1) (.many x (n1 : Int) (n1 : Int)) lm := by
                    rw [← hm2, hmm, againLoop, pb_of hsuf]
                    dsimp only
                    split <;> rfl
                  refine ⟨⟨by omega, by omega⟩, ?_⟩
                  refine callP_of (deep_c (i + 1) Pm) ?_ ?_
                  · rintro _ w0 ⟨h8, rfl, hw0⟩
                    obtain rfl : wm = w0 := hw0.symm
                    have hlen4 := PS.len Pm
                    have hlen1 := hP1.len
                    have hzS := kS.size
                    push_cast -dsimp [hz5]
                    refine ⟨⟨m', c + 1, .many x (n1 : Int) (n1 : Int), lm, i + 1, ?_, by omega, ⟨rfl, by omega, by omega⟩, ?_, Pm, kS⟩, by rw [hlen4, hlen1]; omega⟩
                    · rw [hag, if_neg (by omega)]
                    · simp only [PatV]
                      exact ⟨_, _, _, rfl, by omega, BY, sl_blk1 BX (by omega), VX⟩
                  · rintro ce w0 ⟨h8, ht, hb⟩
                    push_cast -dsimp
                    refine ⟨4, _, ?_, ht.mono (by have := kS.size; omega), kS.trans (Kept.of_below hb (X := (· = pb)) (fun i h1 h2 => by omega)) (fun i _ h => h)⟩
                    rw [hag, if_pos (by omega)]
                    rfl
                · rintro ce we ⟨e, pos, he, ht, hke⟩
                  push_cast -dsimp
                  refine ⟨e, pos, ?_, ht.mono (by have := k7.size; omega), k7.trans hke (fun i _ h => h)⟩
                  rw [← hm2]
                  refine again_err hm ?_
                  have hbr : bracesP l2 = .error (e, pos) := by rw [hbr2]; unfold Cae.pb; rw [he]
                  rw [hsx]
                  unfold Cae.pb
                  rw [hbr]
            ·
              rintro ce we ⟨e, pos, he, ht, hke⟩
              push_cast -dsimp
              refine ⟨e, pos, ?_, ht.mono (by have := k4.size; omega), k4.trans hke (fun i _ h => h)⟩
              rw [← hm2]
              refine again_err hm ?_
              rw [hsx]
              unfold Cae.pb
              rw [show bracesP l2 = .error (e, pos) by unfold bracesP Cae.pb; rw [he]]
          · obtain rfl : w3 = w4 := hww.symm
            have hsuf : suffixP l1 = .ok (none, l1) := by
              unfold suffixP pif
              rw [hs1, hs2, hs3, hs4, if_neg (by decide), if_neg (by decide), if_neg (by decide), if_neg (by decide)]
              rfl
            push_cast -dsimp [hz5]
            refine ⟨x, l1, ?_, V3.mono (X' := (· < w.heap.size)) (Kept.refl (fun _ => False) _) (fun _ h => h.elim) (fun i h => .inl h), P3, k3⟩
            rw [← hm2]
            obtain ⟨m', rfl⟩ : ∃ m', m = m' + 1 := ⟨m - 1, by omega⟩
            rw [againLoop, pb_of hsuf]
            rfl
  · rintro c w3 ⟨e, pos, he, ht, hk3⟩
    push_cast -dsimp
    refine ⟨e, pos, ?_, ht, hk3⟩
    unfold againW Cae.pb
    rw [he]
end Go.Proofs.YtphebgkbkdjjoaaGreatDoor
end
section
/- The reference's parts. -/
namespace Go.Proofs.YtphebgkbkdjjoaaGreatDoor
open Go.Vc Go.Proofs Go.RowKit Cae
set_option maxRecDepth 100000
set_option linter.unusedSimpArgs false
set_option linter.unusedVariables false
attribute [local irreducible] wpL callK valK unitK runK Fun Sl Vc.Own vc vcOps opK pureK
set_option maxHeartbeats 8000000
/-- What is going on in a part: so often yet; or something is wrong. -/
def PartI (d : Nat) (rb B : Nat) (w w' : World) (i : Nat) (v : Value) (out : Except (Nat × Nat) (PatP × List Cae.Tok)) : Prop :=
  (∃ (m c : Nat) (x : PatP) (l1 : List Cae.Tok), againLoop d m c x l1 = out ∧ l1.length < m ∧ i = c + 1 ∧ c ≤ 9 ∧ PatV (· < w.heap.size) w' v x ∧ RS rb B w' l1 none) ∨ (∃ (e : Nat × Nat) (l1 : List Cae.Tok), out = .error e ∧ i ≤ 12 ∧ RS rb B w' l1 (some e))
theorem rpart_of (d : Nat) (hu : UnitR d) : PartR d := by
  intro n hn0 hn rb B w l0 bad h0
  have hle := h0.le
  have hlt := h0.lt
  refine fun_of_vc Tryz.func43 rfl (by kernel_rfl) [4] rfl ?_
  push_cast -dsimp (maxSteps := 4000000) [Tryz.ntmps43]
  refine callK_of (hu n hn0 hn rb B w l0 bad h0) ?_
  rintro v1 w1 ⟨k1, hO⟩
  have hgo : ∃ out, outP bad (againW d (unitP d)) l0 = out := ⟨_, rfl⟩
  obtain ⟨out, hout⟩ := hgo
  have hinv : (∃ a, v1 = .pointer a) ∧ PartI d rb B w w1 1 v1 out := by
    unfold PartI
    rw [← hout]
    cases ho : outP bad (unitP d) l0 with
    | ok q =>
      obtain ⟨x, l1⟩ := q
      rw [ho] at hO
      obtain ⟨hV, hR⟩ := hO
      have hp := hV.ptr
      obtain ⟨kb, e, _⟩ := hp
      cases bad with
      | some e => cases ho
      | none =>
        refine ⟨⟨_, e⟩, .inl ⟨1000, 0, x, l1, ?_, by have := hR.tl.len; omega, rfl, by omega, hV, hR⟩⟩
        show _ = againW d (unitP d) l0
        unfold againW
        rw [pb_of (show unitP d l0 = .ok (x, l1) from ho)]
    | error e =>
      rw [ho] at hO
      obtain ⟨hJ, l1, hR⟩ := hO
      refine ⟨hJ, .inr ⟨e, l1, ?_, by omega, hR⟩⟩
      cases bad with
      | some e' => exact ho
      | none =>
        show againW d (unitP d) l0 = _
        unfold againW Cae.pb
        rw [show unitP d l0 = .error e from ho]
  obtain ⟨⟨a1, rfl⟩, hI0⟩ := hinv
  unfold RRes
  rw [hout]
  push_cast -dsimp
  refine wpL_loop [4, 5, 6, 7, 11, 12, 13, 14, 15, 16, 17, 18, 19, 20, 21, 22, 23, 24, 25, 26, 27, 28, 29, 30, 31, 32, 33, 34, 35, 36, 37, 38, 39, 40, 41, 42, 43, 44, 45, 46, 47, 48, 49, 50, 51, 52, 53, 54, 55, 56, 57, 58, 59, 60, 61, 62, 63, 64, 65, 66, 67, 68, 69, 70, 71, 72, 73, 74, 75, 76, 77, 78, 79, 80, 81, 82, 83, 84, 85, 86, 87] (fun z w' => ∃ (i : Nat) (a : Option Addr), z 6 = .int .i64 i ∧ z 5 = .pointer a ∧ 1 ≤ i ∧ Kept (· = rb) w w' ∧ PartI d rb B w w' i (.pointer a) out) (fun z w' => muR rb w') ?_ ?_
  · exact ⟨1, a1, rfl, rfl, by omega, k1, hI0⟩
  · rintro z w' ⟨i, a, hz6, hz5, hi1, hkw, hI⟩
    unfold PartI at hI
    rcases hI with ⟨m, c, x, l1, hm2, hm, hic, hc9, V1, P1⟩ | ⟨e, l1, hoe, hi12, P1⟩
    · have hmu := P1.mu
      have hzw := hkw.size
      push_cast -dsimp [hz6, hz5]
      refine callK_of (rok_c P1) ?_
      rintro _ w0 ⟨rfl, hb0⟩
      have P0 := P1.below hb0
      have k0 := hkw.trans (Kept.rb P1.le P1.lt hb0) (fun i _ h => h)
      have V0 := V1.below hb0
      have z0 := hb0.size
      push_cast -dsimp [hz5]
      refine rowK elI_81 rfl rfl (by omega) ?_
      intro w2 hw2
      have BX0 : Blk w2 w0.heap.size 42 [.pointer a] := hw2.blk
      have P2 := P0.below hw2.below
      have z2 := hw2.size
      have k2 := k0.trans (Kept.new (X := (· = rb)) hw2) (fun i _ h => h)
      push_cast -dsimp
      refine boxK_of ?_
      intro w3 hw3
      have hp := V0.ptr
      obtain ⟨kb, ha, hkb, _⟩ := hp
      cases ha
      have BY3 : Blk w3 (w0.heap.size + 1) 83 [.int .i64 6, .pointer none, .slice (some ⟨w0.heap.size, 0, none⟩) 1 1, .int .i64 0, .int .i64 (-1)] := by
        have := hw3.blk
        rw [z2] at this
        exact this
      have BX3 : Blk w3 w0.heap.size 42 [ptrP kb] := BX0.below hw3.below (by omega)
      have P3 := P2.below hw3.below
      have z3 := hw3.size
      have k3 := k2.trans (Kept.new (X := (· = rb)) hw3) (fun i _ h => h)
      have V3 : PatV (fun b => b < w.heap.size ∨ w0.heap.size ≤ b) w3 (.pointer (some ⟨kb, 0, none⟩)) x := (V0.top.below hw2.below).below hw3.below
      push_cast -dsimp [z2]
      refine callK_of (rtake_c P3 [42]) ?_
      rintro _ w4 hT
      rcases hT with ⟨_, hs1, rfl, t4, l2, el4, h51, P4, kt⟩ | ⟨hs1, rfl, P4, b4⟩
      · have hpop : popP l1 = .ok ((), l2) := by rw [el4]; exact popP_cons h51
        have hl2 : l1.length = l2.length + 1 := by rw [el4, List.length_cons]
        have hsuf : suffixP l1 = .ok (some (0, -1), l2) := by
          unfold suffixP pif
          rw [hs1, if_pos rfl, pb_of hpop]
          rfl
        have BY := BY3.kept kt (by omega)
        have BX := BX3.kept kt (by omega)
        have kS := k3.trans kt (fun i _ h => h)
        have VX := V3.mono (X' := (· < w.heap.size)) kt (fun i h => by omega) (fun i h => .inl h)
        push_cast -dsimp [hz6]
        -- a round's end: 0 lo, (-1) hi, P4 the reader, w4 its world, l2 its tokens; y's cells BY, BX; kS
        have hm1 : ∃ m', m = m' + 1 := ⟨m - 1, by omega⟩
        obtain ⟨m', hmm⟩ := hm1
        have hag : out = if d ≤ c + 1 then pfail 4 l2 else againLoop d m' (c + 1) (.many x 0 (-1)) l2 := by
          rw [← hm2, hmm, againLoop, pb_of hsuf]
          dsimp only
          split <;> rfl
        refine ⟨by omega, fun h8 => ?_, fun h8 => ?_⟩
        · refine callK_of (rfails_c P4 4 (by decide)) ?_
          rintro _ we ⟨rfl, Pe, ke⟩
          have hmue := Pe.mu0
          push_cast -dsimp [hz6]
          refine ⟨by omega, ⟨i + 1, _, rfl, rfl, by omega, kS.trans ke (fun i _ h => h), .inr ⟨_, _, ?_, by omega, Pe⟩⟩, by rw [hmu, hmue]; omega⟩
          rw [hag, if_pos (by omega)]
          rfl
        · have hmue := RS.mu P4
          have hzS := kS.size
          push_cast -dsimp [hz6]
          refine ⟨by omega, ⟨i + 1, _, rfl, rfl, by omega, kS, .inl ⟨m', c + 1, .many x 0 (-1), l2, ?_, by omega, by omega, by omega, ?_, P4⟩⟩, by rw [hmu, hmue]; omega⟩
          · rw [hag, if_neg (by omega)]
          · simp only [PatV]
            exact ⟨_, _, _, rfl, by omega, BY, sl_blk1 BX (by omega), VX⟩
      · skip
        -- a token was not taken: 4 the new mark, 3 the old one
        have BY4 := BY3.below b4 BY3.lt
        have BX4 := BX3.below b4 BX3.lt
        have k4 := k3.trans (Kept.rb P3.le P3.lt b4) (fun i _ h => h)
        have V4 := V3.below b4
        push_cast -dsimp
        refine callK_of (rtake_c P4 [43]) ?_
        rintro _ w5 hT
        rcases hT with ⟨_, hs2, rfl, t4, l2, el4, h51, P5, kt⟩ | ⟨hs2, rfl, P5, b5⟩
        · have hpop : popP l1 = .ok ((), l2) := by rw [el4]; exact popP_cons h51
          have hl2 : l1.length = l2.length + 1 := by rw [el4, List.length_cons]
          have hsuf : suffixP l1 = .ok (some (1, -1), l2) := by
            unfold suffixP pif
            rw [show seeP [42] l1 = false from hs1, hs2, if_neg (by decide), if_pos rfl, pb_of hpop]
            rfl
          -- a token was taken
          have BY5 := BY4.kept kt (by omega)
          have BX5 := BX4.kept kt (by omega)
          have k5 := k4.trans kt (fun i _ h => h)
          have V5 := V4.mono (X' := fun b => b < w.heap.size ∨ w0.heap.size ≤ b) kt (fun i h => by omega) (fun i h => h)
          push_cast -dsimp
          refine storeK_of BY5 (by simp) rfl ?_
          intro w6 hw6
          have BY : Blk w6 (w0.heap.size + 1) 83 [.int .i64 6, .pointer none, .slice (some ⟨w0.heap.size, 0, none⟩) 1 1, .int .i64 1, .int .i64 (-1)] := hw6.blk
          -- y was stored into
          have BX := BX5.kept hw6.kept (by omega)
          have P6 := P5.keptB hw6.kept (fun i h => by omega)
          have kS := k5.trans hw6.kept (fun i h1 h2 => by omega)
          have VX := V5.mono (X' := (· < w.heap.size)) hw6.kept (fun i h => by omega) (fun i h => .inl h)
          push_cast -dsimp
          -- a round's end: 1 lo, (-1) hi, P6 the reader, w6 its world, l2 its tokens; y's cells BY, BX; kS
          have hm1 : ∃ m', m = m' + 1 := ⟨m - 1, by omega⟩
          obtain ⟨m', hmm⟩ := hm1
          have hag : out = if d ≤ c + 1 then pfail 4 l2 else againLoop d m' (c + 1) (.many x 1 (-1)) l2 := by
            rw [← hm2, hmm, againLoop, pb_of hsuf]
            dsimp only
            split <;> rfl
          refine ⟨by omega, fun h8 => ?_, fun h8 => ?_⟩
          · refine callK_of (rfails_c P6 4 (by decide)) ?_
            rintro _ we ⟨rfl, Pe, ke⟩
            have hmue := Pe.mu0
            push_cast -dsimp [hz6]
            refine ⟨by omega, ⟨i + 1, _, rfl, rfl, by omega, kS.trans ke (fun i _ h => h), .inr ⟨_, _, ?_, by omega, Pe⟩⟩, by rw [hmu, hmue]; omega⟩
            rw [hag, if_pos (by omega)]
            rfl
          · have hmue := RS.mu P6
            have hzS := kS.size
            push_cast -dsimp [hz6]
            refine ⟨by omega, ⟨i + 1, _, rfl, rfl, by omega, kS, .inl ⟨m', c + 1, .many x 1 (-1), l2, ?_, by omega, by omega, by omega, ?_, P6⟩⟩, by rw [hmu, hmue]; omega⟩
            · rw [hag, if_neg (by omega)]
            · simp only [PatV]
              exact ⟨_, _, _, rfl, by omega, BY, sl_blk1 BX (by omega), VX⟩
        · skip
          -- a token was not taken: 5 the new mark, 4 the old one
          have BY5 := BY4.below b5 BY4.lt
          have BX5 := BX4.below b5 BX4.lt
          have k5 := k4.trans (Kept.rb P4.le P4.lt b5) (fun i _ h => h)
          have V5 := V4.below b5
          push_cast -dsimp
          refine callK_of (rtake_c P5 [63]) ?_
          rintro _ w6 hT
          rcases hT with ⟨_, hs3, rfl, t4, l2, el4, h51, P6, kt⟩ | ⟨hs3, rfl, P6, b6⟩
          · have hpop : popP l1 = .ok ((), l2) := by rw [el4]; exact popP_cons h51
            have hl2 : l1.length = l2.length + 1 := by rw [el4, List.length_cons]
            have hsuf : suffixP l1 = .ok (some (0, 1), l2) := by
              unfold suffixP pif
              rw [show seeP [42] l1 = false from hs1, show seeP [43] l1 = false from hs2, hs3, if_neg (by decide), if_neg (by decide), if_pos rfl, pb_of hpop]
              rfl
            -- a token was taken
            have BY6 := BY5.kept kt (by omega)
            have BX6 := BX5.kept kt (by omega)
            have k6 := k5.trans kt (fun i _ h => h)
            have V6 := V5.mono (X' := fun b => b < w.heap.size ∨ w0.heap.size ≤ b) kt (fun i h => by omega) (fun i h => h)
            push_cast -dsimp
            refine storeK_of BY6 (by simp) rfl ?_
            intro w7 hw7
            have hw6 := hw7
            have BY : Blk w7 (w0.heap.size + 1) 83 [.int .i64 6, .pointer none, .slice (some ⟨w0.heap.size, 0, none⟩) 1 1, .int .i64 0, .int .i64 1] := hw7.blk
            -- y was stored into
            have BX := BX6.kept hw6.kept (by omega)
            have P7 := P6.keptB hw6.kept (fun i h => by omega)
            have kS := k6.trans hw6.kept (fun i h1 h2 => by omega)
            have VX := V6.mono (X' := (· < w.heap.size)) hw6.kept (fun i h => by omega) (fun i h => .inl h)
            push_cast -dsimp
            -- a round's end: 0 lo, 1 hi, P7 the reader, w7 its world, l2 its tokens; y's cells BY, BX; kS
            have hm1 : ∃ m', m = m' + 1 := ⟨m - 1, by omega⟩
            obtain ⟨m', hmm⟩ := hm1
            have hag : out = if d ≤ c + 1 then pfail 4 l2 else againLoop d m' (c + 1) (.many x 0 1) l2 := by
              rw [← hm2, hmm, againLoop, pb_of hsuf]
              dsimp only
              split <;> rfl
            refine ⟨by omega, fun h8 => ?_, fun h8 => ?_⟩
            · refine callK_of (rfails_c P7 4 (by decide)) ?_
              rintro _ we ⟨rfl, Pe, ke⟩
              have hmue := Pe.mu0
              push_cast -dsimp [hz6]
              refine ⟨by omega, ⟨i + 1, _, rfl, rfl, by omega, kS.trans ke (fun i _ h => h), .inr ⟨_, _, ?_, by omega, Pe⟩⟩, by rw [hmu, hmue]; omega⟩
              rw [hag, if_pos (by omega)]
              rfl
            · have hmue := RS.mu P7
              have hzS := kS.size
              push_cast -dsimp [hz6]
              refine ⟨by omega, ⟨i + 1, _, rfl, rfl, by omega, kS, .inl ⟨m', c + 1, .many x 0 1, l2, ?_, by omega, by omega, by omega, ?_, P7⟩⟩, by rw [hmu, hmue]; omega⟩
              · rw [hag, if_neg (by omega)]
              · simp only [PatV]
                exact ⟨_, _, _, rfl, by omega, BY, sl_blk1 BX (by omega), VX⟩
          · skip
            -- a token was not taken: 6 the new mark, 5 the old one
            have BY6 := BY5.below b6 BY5.lt
            have BX6 := BX5.below b6 BX5.lt
            have k6 := k5.trans (Kept.rb P5.le P5.lt b6) (fun i _ h => h)
            have V6 := V5.below b6
            push_cast -dsimp
            refine callK_of (rtake_c P6 [123]) ?_
            rintro _ w7 hT
            rcases hT with ⟨_, hs4, rfl, t4, l2, el4, h51, P7, kt⟩ | ⟨hs4, rfl, P7, b7⟩
            · have hpop : popP l1 = .ok ((), l2) := by rw [el4]; exact popP_cons h51
              have hl2 : l1.length = l2.length + 1 := by rw [el4, List.length_cons]
              have hsx : suffixP l1 = Cae.pb bracesP (fun r => pr (some r)) l2 := by
                unfold suffixP pif
                rw [show seeP [42] l1 = false from hs1, show seeP [43] l1 = false from hs2, show seeP [63] l1 = false from hs3, hs4, if_neg (by decide), if_neg (by decide), if_neg (by decide), if_pos rfl, pb_of hpop]
              have hbe : ∀ e, bracesP l2 = .error e → out = .error e := fun e he => by
                rw [← hm2]
                refine again_err hm ?_
                rw [hsx]
                unfold Cae.pb
                rw [he]
              -- a token was taken
              have BY7 := BY6.kept kt (by omega)
              have BX7 := BX6.kept kt (by omega)
              have k7 := k6.trans kt (fun i _ h => h)
              have V7 := V6.mono (X' := fun b => b < w.heap.size ∨ w0.heap.size ≤ b) kt (fun i h => by omega) (fun i h => h)
              push_cast -dsimp
              refine callK_of (rnumber_c P7) ?_
              rintro _ w8 ⟨k8, hN⟩
              rw [show outP none timesP l2 = timesP l2 from rfl] at hN
              have BY8 := BY7.kept k8 (by omega)
              have BX8 := BX7.kept k8 (by omega)
              have k8' := k7.trans k8 (fun i _ h => h)
              have V8 := V7.mono (X' := fun b => b < w.heap.size ∨ w0.heap.size ≤ b) k8 (fun i h => by omega) (fun i h => h)
              cases hn1 : timesP l2 with
              | error e =>
                rw [hn1] at hN
                obtain ⟨rfl, l3, P8⟩ := hN
                have hoe := hbe e (by unfold bracesP Cae.pb; rw [hn1])
                push_cast -dsimp
                refine storeK_of BY8 (by simp) rfl ?_
                intro w9 hw9
                have B9 : Blk w9 (w0.heap.size + 1) 83 [.int .i64 6, .pointer none, .slice (some ⟨w0.heap.size, 0, none⟩) 1 1, .int .i64 0, .int .i64 (-1)] := hw9.blk
                have c9 : w9.cell? ⟨w0.heap.size + 1, 3, none⟩ = some (.int .i64 0) := B9.cell rfl
                push_cast -dsimp [c9]
                refine storeK_of B9 (by simp) rfl ?_
                intro w10 hw10
                have k10 : Kept (· = w0.heap.size + 1) w8 w10 := hw9.kept.trans hw10.kept (fun i _ h => h)
                have P10 := P8.keptB k10 (fun i h => by omega)
                have k10' := k8'.trans k10 (fun i h1 h2 => by omega)
                push_cast -dsimp
                refine callK_of (rtake_c P10 [44]) ?_
                rintro _ w11 hT
                rcases hT with ⟨h0e, _⟩ | ⟨_, rfl, P11, b11⟩
                · cases h0e
                · have k11 := k10'.trans (Kept.rb P10.le P10.lt b11) (fun i _ h => h)
                  push_cast -dsimp
                  -- P11 reader (something is wrong), k11 kept, hoe what
                  refine callK_of (rmust_c P11 [125]) ?_
                  rintro _ wm ⟨km, hM⟩
                  have kS := Kept.trans k11 km (fun i _ h => h)
                  rw [show ∀ (e : Nat × Nat) l, outP (some e) (mustP [125]) l = .error e from fun _ _ => rfl] at hM
                  obtain ⟨rfl, lm, Pm⟩ := hM
                  push_cast -dsimp
                  -- a round's end, something is wrong: Pm the reader, kS kept, hoe what it is
                  refine ⟨by omega, fun h8 => ?_, fun h8 => ?_⟩
                  · refine callK_of (rfails_c Pm 4 (by decide)) ?_
                    rintro _ we ⟨rfl, Pe, ke⟩
                    have hmue := Pe.mu0
                    push_cast -dsimp [hz6]
                    exact ⟨by omega, ⟨i + 1, _, rfl, rfl, by omega, Kept.trans kS ke (fun i _ h => h), .inr ⟨_, _, hoe, by omega, Pe⟩⟩, by rw [hmu, hmue]; omega⟩
                  · have hmue := RS.mu0 Pm
                    push_cast -dsimp [hz6]
                    exact ⟨by omega, ⟨i + 1, _, rfl, rfl, by omega, kS, .inr ⟨_, _, hoe, by omega, Pm⟩⟩, by rw [hmu, hmue]; omega⟩
              | ok q =>
                obtain ⟨n1, l3⟩ := q
                rw [hn1] at hN
                obtain ⟨⟨rfl, hn12⟩, P8⟩ := hN
                push_cast -dsimp
                refine storeK_of BY8 (by simp) rfl ?_
                intro w9 hw9
                have B9 : Blk w9 (w0.heap.size + 1) 83 [.int .i64 6, .pointer none, .slice (some ⟨w0.heap.size, 0, none⟩) 1 1, .int .i64 n1, .int .i64 (-1)] := hw9.blk
                have c9 : w9.cell? ⟨w0.heap.size + 1, 3, none⟩ = some (.int .i64 n1) := B9.cell rfl
                push_cast -dsimp [c9]
                refine storeK_of B9 (by simp) rfl ?_
                intro w10 hw10
                have BY10 : Blk w10 (w0.heap.size + 1) 83 [.int .i64 6, .pointer none, .slice (some ⟨w0.heap.size, 0, none⟩) 1 1, .int .i64 n1, .int .i64 n1] := hw10.blk
                have k10 : Kept (· = w0.heap.size + 1) w8 w10 := hw9.kept.trans hw10.kept (fun i _ h => h)
                have BX10 := BX8.kept k10 (by omega)
                have P10 := P8.keptB k10 (fun i h => by omega)
                have k10' := k8'.trans k10 (fun i h1 h2 => by omega)
                have V10 := V8.mono (X' := fun b => b < w.heap.size ∨ w0.heap.size ≤ b) k10 (fun i h => by omega) (fun i h => h)
                push_cast -dsimp
                refine callK_of (rtake_c P10 [44]) ?_
                rintro _ w11 hT
                rcases hT with ⟨_, hs5, rfl, t8, l4, el8, h58, P11, kt11⟩ | ⟨hs5, rfl, P11, b11⟩
                · have hpop8 : popP l3 = .ok ((), l4) := by rw [el8]; exact popP_cons h58
                  have BY11 := BY10.kept kt11 (by omega)
                  have BX11 := BX10.kept kt11 (by omega)
                  have k11 := k10'.trans kt11 (fun i _ h => h)
                  have V11 := V10.mono (X' := fun b => b < w.heap.size ∨ w0.heap.size ≤ b) kt11 (fun i h => by omega) (fun i h => h)
                  have hbr1 : bracesP l2 = pif (isKind 2) (Cae.pb timesP fun hi => if hi < n1 then pfail 2 else Cae.pb (mustP [125]) fun _ => pr ((n1 : Int), (hi : Int))) (Cae.pb (mustP [125]) fun _ => pr ((n1 : Int), -1)) l4 := by
                    unfold bracesP
                    rw [pb_of hn1]
                    show (if seeP [44] l3 then _ else _) = _
                    rw [hs5, if_pos rfl, pb_of hpop8]
                  push_cast -dsimp
                  refine storeK_of BY11 (by simp) rfl ?_
                  intro w12 hw12
                  have BY12 : Blk w12 (w0.heap.size + 1) 83 [.int .i64 6, .pointer none, .slice (some ⟨w0.heap.size, 0, none⟩) 1 1, .int .i64 n1, .int .i64 (-1)] := hw12.blk
                  have BX12 := BX11.kept hw12.kept (by omega)
                  have P12 := P11.keptB hw12.kept (fun i h => by omega)
                  have k12 := k11.trans hw12.kept (fun i h1 h2 => by omega)
                  have V12 := V11.mono (X' := fun b => b < w.heap.size ∨ w0.heap.size ≤ b) hw12.kept (fun i h => by omega) (fun i h => h)
                  obtain ⟨t9, r9, el9⟩ := P12.cons
                  have P12' := P12
                  rw [el9] at P12'
                  obtain ⟨b9, o9, c9', hB9, hc9', hne9, c90, _⟩ := P12'.hd
                  have cb9 : w12.cell? ⟨rb, 0, none⟩ = some (.slice (some ⟨b9, o9, none⟩) (r9.length + 1) c9') := hB9.cell rfl
                  push_cast -dsimp [cb9, c90]
                  refine ⟨by omega, fun hk2 => ?_, fun hk2 => ?_⟩
                  · have hik : isKind 2 l4 = true := by
                      have : t9.kind = 2 := by omega
                      rw [el9]; simp [isKind, Cae.hd, this]
                    have hbr2 : bracesP l2 = Cae.pb timesP (fun hi => if hi < n1 then pfail 2 else Cae.pb (mustP [125]) fun _ => pr ((n1 : Int), (hi : Int))) l4 := by
                      rw [hbr1]
                      unfold pif
                      rw [hik, if_pos rfl]
                    refine callK_of (rnumber_c P12) ?_
                    rintro _ w13 ⟨k13, hN2⟩
                    rw [show outP none timesP l4 = timesP l4 from rfl] at hN2
                    have BY13 := BY12.kept k13 (by omega)
                    have BX13 := BX12.kept k13 (by omega)
                    have k13' := k12.trans k13 (fun i _ h => h)
                    have V13 := V12.mono (X' := fun b => b < w.heap.size ∨ w0.heap.size ≤ b) k13 (fun i h => by omega) (fun i h => h)
                    cases hn2 : timesP l4 with
                    | error e =>
                      rw [hn2] at hN2
                      obtain ⟨rfl, l5, P13⟩ := hN2
                      have hoe := hbe e (by rw [hbr2]; unfold Cae.pb; rw [hn2])
                      push_cast -dsimp
                      refine storeK_of BY13 (by simp) rfl ?_
                      intro w14 hw14
                      have BY14 : Blk w14 (w0.heap.size + 1) 83 [.int .i64 6, .pointer none, .slice (some ⟨w0.heap.size, 0, none⟩) 1 1, .int .i64 n1, .int .i64 0] := hw14.blk
                      have P14 := P13.keptB hw14.kept (fun i h => by omega)
                      have k14 := k13'.trans hw14.kept (fun i h1 h2 => by omega)
                      push_cast -dsimp
                      refine wpL_draw (fun w' => w' = w14.drew) mixed (by kernel_rfl) rfl ?_
                      have d3 : w14.drew.cell? ⟨w0.heap.size + 1, 3, none⟩ = some (.int .i64 n1) := BY14.drew.cell rfl
                      have d4 : w14.drew.cell? ⟨w0.heap.size + 1, 4, none⟩ = some (.int .i64 0) := BY14.drew.cell rfl
                      have PD := P14.below (below_drewR w14)
                      have kD := k14.trans (Kept.rb P14.le P14.lt (below_drewR w14)) (fun i _ h => h)
                      push_cast -dsimp [d3, d4]
                      refine ⟨fun w'' h => by rw [h, d4]; exact rfl, fun w'' h => by rw [h, d3]; exact rfl, fun hlt2 => ?_, fun hge2 => ?_⟩
                      · refine callK_of (rfails_c PD 2 (by decide)) ?_
                        rintro _ wf ⟨rfl, Pf, kf⟩
                        have kf' := kD.trans kf (fun i _ h => h)
                        push_cast -dsimp
                        -- Pf reader (something is wrong), kf' kept, hoe what
                        refine callK_of (rmust_c Pf [125]) ?_
                        rintro _ wm ⟨km, hM⟩
                        have kS := Kept.trans kf' km (fun i _ h => h)
                        rw [show ∀ (e : Nat × Nat) l, outP (some e) (mustP [125]) l = .error e from fun _ _ => rfl] at hM
                        obtain ⟨rfl, lm, Pm⟩ := hM
                        push_cast -dsimp
                        -- a round's end, something is wrong: Pm the reader, kS kept, hoe what it is
                        refine ⟨by omega, fun h8 => ?_, fun h8 => ?_⟩
                        · refine callK_of (rfails_c Pm 4 (by decide)) ?_
                          rintro _ we ⟨rfl, Pe, ke⟩
                          have hmue := Pe.mu0
                          push_cast -dsimp [hz6]
                          exact ⟨by omega, ⟨i + 1, _, rfl, rfl, by omega, Kept.trans kS ke (fun i _ h => h), .inr ⟨_, _, hoe, by omega, Pe⟩⟩, by rw [hmu, hmue]; omega⟩
                        · have hmue := RS.mu0 Pm
                          push_cast -dsimp [hz6]
                          exact ⟨by omega, ⟨i + 1, _, rfl, rfl, by omega, kS, .inr ⟨_, _, hoe, by omega, Pm⟩⟩, by rw [hmu, hmue]; omega⟩
                      ·
                        -- PD reader (something is wrong), kD kept, hoe what
                        refine callK_of (rmust_c PD [125]) ?_
                        rintro _ wm ⟨km, hM⟩
                        have kS := Kept.trans kD km (fun i _ h => h)
                        rw [show ∀ (e : Nat × Nat) l, outP (some e) (mustP [125]) l = .error e from fun _ _ => rfl] at hM
                        obtain ⟨rfl, lm, Pm⟩ := hM
                        push_cast -dsimp
                        -- a round's end, something is wrong: Pm the reader, kS kept, hoe what it is
                        refine ⟨by omega, fun h8 => ?_, fun h8 => ?_⟩
                        · refine callK_of (rfails_c Pm 4 (by decide)) ?_
                          rintro _ we ⟨rfl, Pe, ke⟩
                          have hmue := Pe.mu0
                          push_cast -dsimp [hz6]
                          exact ⟨by omega, ⟨i + 1, _, rfl, rfl, by omega, Kept.trans kS ke (fun i _ h => h), .inr ⟨_, _, hoe, by omega, Pe⟩⟩, by rw [hmu, hmue]; omega⟩
                        · have hmue := RS.mu0 Pm
                          push_cast -dsimp [hz6]
                          exact ⟨by omega, ⟨i + 1, _, rfl, rfl, by omega, kS, .inr ⟨_, _, hoe, by omega, Pm⟩⟩, by rw [hmu, hmue]; omega⟩
                    | ok q =>
                      obtain ⟨n2, l5⟩ := q
                      rw [hn2] at hN2
                      obtain ⟨⟨rfl, hn22⟩, P13⟩ := hN2
                      push_cast -dsimp
                      refine storeK_of BY13 (by simp) rfl ?_
                      intro w14 hw14
                      have BY14 : Blk w14 (w0.heap.size + 1) 83 [.int .i64 6, .pointer none, .slice (some ⟨w0.heap.size, 0, none⟩) 1 1, .int .i64 n1, .int .i64 n2] := hw14.blk
                      have BX14 := BX13.kept hw14.kept (by omega)
                      have P14 := P13.keptB hw14.kept (fun i h => by omega)
                      have k14 := k13'.trans hw14.kept (fun i h1 h2 => by omega)
                      have V14 := V13.mono (X' := fun b => b < w.heap.size ∨ w0.heap.size ≤ b) hw14.kept (fun i h => by omega) (fun i h => h)
                      push_cast -dsimp
                      refine wpL_draw (fun w' => w' = w14.drew) mixed (by kernel_rfl) rfl ?_
                      have d3 : w14.drew.cell? ⟨w0.heap.size + 1, 3, none⟩ = some (.int .i64 n1) := BY14.drew.cell rfl
                      have d4 : w14.drew.cell? ⟨w0.heap.size + 1, 4, none⟩ = some (.int .i64 n2) := BY14.drew.cell rfl
                      have PD := P14.below (below_drewR w14)
                      have kD := k14.trans (Kept.rb P14.le P14.lt (below_drewR w14)) (fun i _ h => h)
                      have BYD := BY14.below (below_drewR w14) BY14.lt
                      have BXD := BX14.below (below_drewR w14) BX14.lt
                      have VB := V14.below (below_drewR w14)
                      push_cast -dsimp [d3, d4]
                      refine ⟨fun w'' h => by rw [h, d4]; exact rfl, fun w'' h => by rw [h, d3]; exact rfl, fun hlt2 => ?_, fun hge2 => ?_⟩
                      · have hoe := hbe (2, (Cae.hd l5).pos) (by rw [hbr2, pb_of hn2, if_pos (by omega)]; rfl)
                        refine callK_of (rfails_c PD 2 (by decide)) ?_
                        rintro _ wf ⟨rfl, Pf, kf⟩
                        have kf' := kD.trans kf (fun i _ h => h)
                        have Pf : RS rb B wf l5 (some (2, (Cae.hd l5).pos)) := Pf
                        push_cast -dsimp
                        -- Pf reader (something is wrong), kf' kept, hoe what
                        refine callK_of (rmust_c Pf [125]) ?_
                        rintro _ wm ⟨km, hM⟩
                        have kS := Kept.trans kf' km (fun i _ h => h)
                        rw [show ∀ (e : Nat × Nat) l, outP (some e) (mustP [125]) l = .error e from fun _ _ => rfl] at hM
                        obtain ⟨rfl, lm, Pm⟩ := hM
                        push_cast -dsimp
                        -- a round's end, something is wrong: Pm the reader, kS kept, hoe what it is
                        refine ⟨by omega, fun h8 => ?_, fun h8 => ?_⟩
                        · refine callK_of (rfails_c Pm 4 (by decide)) ?_
                          rintro _ we ⟨rfl, Pe, ke⟩
                          have hmue := Pe.mu0
                          push_cast -dsimp [hz6]
                          exact ⟨by omega, ⟨i + 1, _, rfl, rfl, by omega, Kept.trans kS ke (fun i _ h => h), .inr ⟨_, _, hoe, by omega, Pe⟩⟩, by rw [hmu, hmue]; omega⟩
                        · have hmue := RS.mu0 Pm
                          push_cast -dsimp [hz6]
                          exact ⟨by omega, ⟨i + 1, _, rfl, rfl, by omega, kS, .inr ⟨_, _, hoe, by omega, Pm⟩⟩, by rw [hmu, hmue]; omega⟩
                      · have hbr3 : bracesP l2 = Cae.pb (mustP [125]) (fun _ => pr ((n1 : Int), (n2 : Int))) l5 := by
                          rw [hbr2, pb_of hn2, if_neg (by omega)]
                        have hlq : ∃ lq, lq = l5 := ⟨_, rfl⟩
                        obtain ⟨lq, hlq⟩ := hlq
                        rw [← hlq] at hbr3 PD
                        -- (n1 : Int) lo, (n2 : Int) hi, PD reader, w14.drew world, BYD BY, BXD BX, kD kept, hbr3 what is left of the braces
                        refine callK_of (rmust_c PD [125]) ?_
                        rintro _ wm ⟨km, hM⟩
                        have kS := Kept.trans kD km (fun i _ h => h)
                        cases hm5 : mustP [125] lq with
                        | ok q =>
                          obtain ⟨_, lm⟩ := q
                          rw [show outP none (mustP [125]) lq = mustP [125] lq from rfl, hm5] at hM
                          obtain ⟨rfl, Pm⟩ := hM
                          have hbr : bracesP l2 = .ok (((n1 : Int), (n2 : Int)), lm) := by rw [hbr3, pb_of hm5]; rfl
                          have hsuf : suffixP l1 = .ok (some ((n1 : Int), (n2 : Int)), lm) := by rw [hsx, pb_of hbr]; rfl
                          have hlm : lm.length ≤ l2.length := by
                            obtain ⟨pre, _, e, _⟩ := lo_braces _ _ _ hbr
                            rw [e, List.length_append]; omega
                          have BY := Blk.kept BYD km (by omega)
                          have BX := Blk.kept BXD km (by omega)
                          have VX := VB.mono (X' := (· < w.heap.size)) km (fun i h => by omega) (fun i h => .inl h)
                          push_cast -dsimp
                          -- a round's end: (n1 : Int) lo, (n2 : Int) hi, Pm the reader, wm its world, lm its tokens; y's cells BY, BX; kS
                          have hm1 : ∃ m', m = m' + 1 := ⟨m - 1, by omega⟩
                          obtain ⟨m', hmm⟩ := hm1
                          have hag : out = if d ≤ c + 1 then pfail 4 lm else againLoop d m' (c + 1) (.many x (n1 : Int) (n2 : Int)) lm := by
                            rw [← hm2, hmm, againLoop, pb_of hsuf]
                            dsimp only
                            split <;> rfl
                          refine ⟨by omega, fun h8 => ?_, fun h8 => ?_⟩
                          · refine callK_of (rfails_c Pm 4 (by decide)) ?_
                            rintro _ we ⟨rfl, Pe, ke⟩
                            have hmue := Pe.mu0
                            push_cast -dsimp [hz6]
                            refine ⟨by omega, ⟨i + 1, _, rfl, rfl, by omega, kS.trans ke (fun i _ h => h), .inr ⟨_, _, ?_, by omega, Pe⟩⟩, by rw [hmu, hmue]; omega⟩
                            rw [hag, if_pos (by omega)]
                            rfl
                          · have hmue := RS.mu Pm
                            have hzS := kS.size
                            push_cast -dsimp [hz6]
                            refine ⟨by omega, ⟨i + 1, _, rfl, rfl, by omega, kS, .inl ⟨m', c + 1, .many x (n1 : Int) (n2 : Int), lm, ?_, by omega, by omega, by omega, ?_, Pm⟩⟩, by rw [hmu, hmue]; omega⟩
                            · rw [hag, if_neg (by omega)]
                            · simp only [PatV]
                              exact ⟨_, _, _, rfl, by omega, BY, sl_blk1 BX (by omega), VX⟩
                        | error e =>
                          rw [show outP none (mustP [125]) lq = mustP [125] lq from rfl, hm5] at hM
                          obtain ⟨rfl, lm, Pm⟩ := hM
                          have hbr : bracesP l2 = .error e := by rw [hbr3]; unfold Cae.pb; rw [hm5]
                          have hoe : out = .error e := by
                            rw [← hm2]
                            refine again_err hm ?_
                            rw [hsx]
                            unfold Cae.pb
                            rw [hbr]
                          push_cast -dsimp
                          -- a round's end, something is wrong: Pm the reader, kS kept, hoe what it is
                          refine ⟨by omega, fun h8 => ?_, fun h8 => ?_⟩
                          · refine callK_of (rfails_c Pm 4 (by decide)) ?_
                            rintro _ we ⟨rfl, Pe, ke⟩
                            have hmue := Pe.mu0
                            push_cast -dsimp [hz6]
                            exact ⟨by omega, ⟨i + 1, _, rfl, rfl, by omega, Kept.trans kS ke (fun i _ h => h), .inr ⟨_, _, hoe, by omega, Pe⟩⟩, by rw [hmu, hmue]; omega⟩
                          · have hmue := RS.mu0 Pm
                            push_cast -dsimp [hz6]
                            exact ⟨by omega, ⟨i + 1, _, rfl, rfl, by omega, kS, .inr ⟨_, _, hoe, by omega, Pm⟩⟩, by rw [hmu, hmue]; omega⟩
                  · have hik : isKind 2 l4 = false := by
                      have : t9.kind ≠ 2 := fun e => hk2 (by omega)
                      rw [el9]; simp [isKind, Cae.hd, this]
                    have hbr2 : bracesP l2 = Cae.pb (mustP [125]) (fun _ => pr ((n1 : Int), -1)) l4 := by
                      rw [hbr1]
                      unfold pif
                      rw [hik, if_neg (by decide)]
                    have VB := V12
                    have hlq : ∃ lq, lq = l4 := ⟨_, rfl⟩
                    obtain ⟨lq, hlq⟩ := hlq
                    rw [← hlq] at hbr2 P12
                    -- (n1 : Int) lo, (-1) hi, P12 reader, w12 world, BY12 BY, BX12 BX, k12 kept, hbr2 what is left of the braces
                    refine callK_of (rmust_c P12 [125]) ?_
                    rintro _ wm ⟨km, hM⟩
                    have kS := Kept.trans k12 km (fun i _ h => h)
                    cases hm5 : mustP [125] lq with
                    | ok q =>
                      obtain ⟨_, lm⟩ := q
                      rw [show outP none (mustP [125]) lq = mustP [125] lq from rfl, hm5] at hM
                      obtain ⟨rfl, Pm⟩ := hM
                      have hbr : bracesP l2 = .ok (((n1 : Int), (-1)), lm) := by rw [hbr2, pb_of hm5]; rfl
                      have hsuf : suffixP l1 = .ok (some ((n1 : Int), (-1)), lm) := by rw [hsx, pb_of hbr]; rfl
                      have hlm : lm.length ≤ l2.length := by
                        obtain ⟨pre, _, e, _⟩ := lo_braces _ _ _ hbr
                        rw [e, List.length_append]; omega
                      have BY := Blk.kept BY12 km (by omega)
                      have BX := Blk.kept BX12 km (by omega)
                      have VX := VB.mono (X' := (· < w.heap.size)) km (fun i h => by omega) (fun i h => .inl h)
                      push_cast -dsimp
                      -- a round's end: (n1 : Int) lo, (-1) hi, Pm the reader, wm its world, lm its tokens; y's cells BY, BX; kS
                      have hm1 : ∃ m', m = m' + 1 := ⟨m - 1, by omega⟩
                      obtain ⟨m', hmm⟩ := hm1
                      have hag : out = if d ≤ c + 1 then pfail 4 lm else againLoop d m' (c + 1) (.many x (n1 : Int) (-1)) lm := by
                        rw [← hm2, hmm, againLoop, pb_of hsuf]
                        dsimp only
                        split <;> rfl
                      refine ⟨by omega, fun h8 => ?_, fun h8 => ?_⟩
                      · refine callK_of (rfails_c Pm 4 (by decide)) ?_
                        rintro _ we ⟨rfl, Pe, ke⟩
                        have hmue := Pe.mu0
                        push_cast -dsimp [hz6]
                        refine ⟨by omega, ⟨i + 1, _, rfl, rfl, by omega, kS.trans ke (fun i _ h => h), .inr ⟨_, _, ?_, by omega, Pe⟩⟩, by rw [hmu, hmue]; omega⟩
                        rw [hag, if_pos (by omega)]
                        rfl
                      · have hmue := RS.mu Pm
                        have hzS := kS.size
                        push_cast -dsimp [hz6]
                        refine ⟨by omega, ⟨i + 1, _, rfl, rfl, by omega, kS, .inl ⟨m', c + 1, .many x (n1 : Int) (-1), lm, ?_, by omega, by omega, by omega, ?_, Pm⟩⟩, by rw [hmu, hmue]; omega⟩
                        · rw [hag, if_neg (by omega)]
                        · simp only [PatV]
                          exact ⟨_, _, _, rfl, by omega, BY, sl_blk1 BX (by omega), VX⟩
                    | error e =>
                      rw [show outP none (mustP [125]) lq = mustP [125] lq from rfl, hm5] at hM
                      obtain ⟨rfl, lm, Pm⟩ := hM
                      have hbr : bracesP l2 = .error e := by rw [hbr2]; unfold Cae.pb; rw [hm5]
                      have hoe : out = .error e := by
                        rw [← hm2]
                        refine again_err hm ?_
                        rw [hsx]
                        unfold Cae.pb
                        rw [hbr]
                      push_cast -dsimp
                      -- a round's end, something is wrong: Pm the reader, kS kept, hoe what it is
                      refine ⟨by omega, fun h8 => ?_, fun h8 => ?_⟩
                      · refine callK_of (rfails_c Pm 4 (by decide)) ?_
                        rintro _ we ⟨rfl, Pe, ke⟩
                        have hmue := Pe.mu0
                        push_cast -dsimp [hz6]
                        exact ⟨by omega, ⟨i + 1, _, rfl, rfl, by omega, Kept.trans kS ke (fun i _ h => h), .inr ⟨_, _, hoe, by omega, Pe⟩⟩, by rw [hmu, hmue]; omega⟩
                      · have hmue := RS.mu0 Pm
                        push_cast -dsimp [hz6]
                        exact ⟨by omega, ⟨i + 1, _, rfl, rfl, by omega, kS, .inr ⟨_, _, hoe, by omega, Pm⟩⟩, by rw [hmu, hmue]; omega⟩
                · have BY11 := BY10.below b11 BY10.lt
                  have BX11 := BX10.below b11 BX10.lt
                  have k11 := k10'.trans (Kept.rb P10.le P10.lt b11) (fun i _ h => h)
                  have VB := V10.below b11
                  have hbr2 : bracesP l2 = Cae.pb (mustP [125]) (fun _ => pr ((n1 : Int), (n1 : Int))) l3 := by
                    unfold bracesP
                    rw [pb_of hn1]
                    show (if seeP [44] l3 then _ else _) = _
                    rw [show seeP [44] l3 = false from hs5, if_neg (by decide)]
                  have hlq : ∃ lq, lq = l3 := ⟨_, rfl⟩
                  obtain ⟨lq, hlq⟩ := hlq
                  rw [← hlq] at hbr2 P11
                  push_cast -dsimp
                  -- (n1 : Int) lo, (n1 : Int) hi, P11 reader, w11 world, BY11 BY, BX11 BX, k11 kept, hbr2 what is left of the braces
                  refine callK_of (rmust_c P11 [125]) ?_
                  rintro _ wm ⟨km, hM⟩
                  have kS := Kept.trans k11 km (fun i _ h => h)
                  cases hm5 : mustP [125] lq with
                  | ok q =>
                    obtain ⟨_, lm⟩ := q
                    rw [show outP none (mustP [125]) lq = mustP [125] lq from rfl, hm5] at hM
                    obtain ⟨rfl, Pm⟩ := hM
                    have hbr : bracesP l2 = .ok (((n1 : Int), (n1 : Int)), lm) := by rw [hbr2, pb_of hm5]; rfl
                    have hsuf : suffixP l1 = .ok (some ((n1 : Int), (n1 : Int)), lm) := by rw [hsx, pb_of hbr]; rfl
                    have hlm : lm.length ≤ l2.length := by
                      obtain ⟨pre, _, e, _⟩ := lo_braces _ _ _ hbr
                      rw [e, List.length_append]; omega
                    have BY := Blk.kept BY11 km (by omega)
                    have BX := Blk.kept BX11 km (by omega)
                    have VX := VB.mono (X' := (· < w.heap.size)) km (fun i h => by omega) (fun i h => .inl h)
                    push_cast -dsimp
                    -- a round's end: (n1 : Int) lo, (n1 : Int) hi, Pm the reader, wm its world, lm its tokens; y's cells BY, BX; kS
                    have hm1 : ∃ m', m = m' + 1 := ⟨m - 1, by omega⟩
                    obtain ⟨m', hmm⟩ := hm1
                    have hag : out = if d ≤ c + 1 then pfail 4 lm else againLoop d m' (c + 1) (.many x (n1 : Int) (n1 : Int)) lm := by
                      rw [← hm2, hmm, againLoop, pb_of hsuf]
                      dsimp only
                      split <;> rfl
                    refine ⟨by omega, fun h8 => ?_, fun h8 => ?_⟩
                    · refine callK_of (rfails_c Pm 4 (by decide)) ?_
                      rintro _ we ⟨rfl, Pe, ke⟩
                      have hmue := Pe.mu0
                      push_cast -dsimp [hz6]
                      refine ⟨by omega, ⟨i + 1, _, rfl, rfl, by omega, kS.trans ke (fun i _ h => h), .inr ⟨_, _, ?_, by omega, Pe⟩⟩, by rw [hmu, hmue]; omega⟩
                      rw [hag, if_pos (by omega)]
                      rfl
                    · have hmue := RS.mu Pm
                      have hzS := kS.size
                      push_cast -dsimp [hz6]
                      refine ⟨by omega, ⟨i + 1, _, rfl, rfl, by omega, kS, .inl ⟨m', c + 1, .many x (n1 : Int) (n1 : Int), lm, ?_, by omega, by omega, by omega, ?_, Pm⟩⟩, by rw [hmu, hmue]; omega⟩
                      · rw [hag, if_neg (by omega)]
                      · simp only [PatV]
                        exact ⟨_, _, _, rfl, by omega, BY, sl_blk1 BX (by omega), VX⟩
                  | error e =>
                    rw [show outP none (mustP [125]) lq = mustP [125] lq from rfl, hm5] at hM
                    obtain ⟨rfl, lm, Pm⟩ := hM
                    have hbr : bracesP l2 = .error e := by rw [hbr2]; unfold Cae.pb; rw [hm5]
                    have hoe : out = .error e := by
                      rw [← hm2]
                      refine again_err hm ?_
                      rw [hsx]
                      unfold Cae.pb
                      rw [hbr]
                    push_cast -dsimp
                    -- a round's end, something is wrong: Pm the reader, kS kept, hoe what it is
                    refine ⟨by omega, fun h8 => ?_, fun h8 => ?_⟩
                    · refine callK_of (rfails_c Pm 4 (by decide)) ?_
                      rintro _ we ⟨rfl, Pe, ke⟩
                      have hmue := Pe.mu0
                      push_cast -dsimp [hz6]
                      exact ⟨by omega, ⟨i + 1, _, rfl, rfl, by omega, Kept.trans kS ke (fun i _ h => h), .inr ⟨_, _, hoe, by omega, Pe⟩⟩, by rw [hmu, hmue]; omega⟩
                    · have hmue := RS.mu0 Pm
                      push_cast -dsimp [hz6]
                      exact ⟨by omega, ⟨i + 1, _, rfl, rfl, by omega, kS, .inr ⟨_, _, hoe, by omega, Pm⟩⟩, by rw [hmu, hmue]; omega⟩
            · have hnone : out = .ok (x, l1) := by
                obtain ⟨m', rfl⟩ : ∃ m', m = m' + 1 := ⟨m - 1, by omega⟩
                rw [← hm2, againLoop]
                have hsn : suffixP l1 = .ok (none, l1) := by
                  unfold suffixP pif
                  rw [show seeP [42] l1 = false from hs1, show seeP [43] l1 = false from hs2, show seeP [63] l1 = false from hs3, show seeP [123] l1 = false from hs4, if_neg (by decide), if_neg (by decide), if_neg (by decide), if_neg (by decide)]
                  rfl
                rw [pb_of hsn]
                rfl
              -- a token was not taken: 7 the new mark, 6 the old one
              have BY7 := BY6.below b7 BY6.lt
              have BX7 := BX6.below b7 BX6.lt
              have k7 := k6.trans (Kept.rb P6.le P6.lt b7) (fun i _ h => h)
              have V7 := V6.below b7
              rw [hnone]
              push_cast -dsimp [hz5]
              exact ⟨k7, V7.mono (X' := (· < w.heap.size)) (Kept.refl (fun _ => False) w7) (fun _ h => h.elim) (fun i h => .inl h), P7⟩
    · push_cast -dsimp [hz6, hz5]
      refine callK_of (rok_c P1) ?_
      rintro _ w2 ⟨rfl, hb2⟩
      push_cast -dsimp [hz5]
      rw [hoe]
      exact ⟨hkw.trans (Kept.rb P1.le P1.lt hb2) (fun i _ h => h), ⟨_, rfl⟩, _, P1.below hb2⟩
end Go.Proofs.YtphebgkbkdjjoaaGreatDoor
end
section
/- (its rules are those of V, since V lets nil checks float.) -/
end
