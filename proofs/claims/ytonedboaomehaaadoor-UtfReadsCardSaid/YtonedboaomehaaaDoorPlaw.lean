import Derived.Test.YtonedboaomehaaaDoorPutf
/- What reading and writing texts have to do with one another, in plain words. -/
namespace Cae

theorem urd_stop (t : List UInt8) : ∀ (u : List UInt8) (p : Nat), urd (u ++ 122 :: t) p = none
  | [], p => by rw [List.nil_append, urd, if_neg (by decide)]
  | c :: u, p => by
    rw [List.cons_append, urd]
    split
    · exact urd_stop t u _
    · rfl

theorem ufirst_app {s : List UInt8} (t : List UInt8) (h : s ≠ []) : ufirst (s ++ 122 :: t) = ufirst s := by
  obtain ⟨c, s', rfl⟩ := List.exists_cons_of_ne_nil h
  rw [List.cons_append]
  unfold ufirst
  dsimp only
  by_cases h0 : usize c.toNat = 0
  · rw [if_pos (.inl h0), if_pos (.inl h0)]
  · by_cases h1 : (c :: s').length < usize c.toNat
    · rw [if_pos (Or.inr h1 : _ ∨ (c :: s').length < usize c.toNat)]
      split
      · rfl
      · have e : List.drop 1 (List.take (usize c.toNat) (c :: (s' ++ 122 :: t))) = s' ++ 122 :: List.take (usize c.toNat - 1 - s'.length - 1) t := by
          simp only [List.length_cons] at h1
          obtain ⟨k, hk⟩ : ∃ k, usize c.toNat = s'.length + 1 + 1 + k := ⟨usize c.toNat - (s'.length + 1 + 1), by omega⟩
          rw [hk, show s'.length + 1 + 1 + k - 1 - s'.length - 1 = k by omega]
          rw [show s'.length + 1 + 1 + k = (s'.length + (1 + k)) + 1 by omega, List.take_succ_cons, List.drop_succ_cons, List.drop_zero, List.take_append, List.take_of_length_le (by omega),
            show s'.length + (1 + k) - s'.length = k + 1 by omega, List.take_succ_cons]
        rw [e, urd_stop]
    · have h2 : ¬ (c :: (s' ++ 122 :: t)).length < usize c.toNat := by simp only [List.length_cons, List.length_append] at h1 ⊢; omega
      rw [if_neg (by omega), if_neg (by omega), ← List.cons_append, List.take_append_of_le_length (by omega)]

theorem ustep_app {s : List UInt8} (t : List UInt8) (h : s ≠ []) : ustep (s ++ 122 :: t) = ustep s := by
  unfold ustep
  rw [ufirst_app t h]

theorem udec_app (t : List UInt8) (n : Nat) : ∀ (s : List UInt8) (a : Nat), s.length = n → udec a (s ++ 122 :: t) = udec a s ++ udec (a + s.length) (122 :: t) := by
  induction n using Nat.strongRecOn with
  | _ n ih =>
    intro s a hs
    by_cases h : s = []
    · subst h; simp [udec_nil]
    · have h1 := ustep_pos s
      have h2 := ustep_le s h
      rw [udec_cons a (s ++ 122 :: t) (by simp), ustep_app t h, List.drop_append_of_le_length h2, ih (s.drop (ustep s).2).length (by rw [List.length_drop]; omega) _ _ rfl, udec_cons a s h,
        List.length_drop, show a + (ustep s).2 + (s.length - (ustep s).2) = a + s.length by omega]
      rfl

theorem udec_z (t : List UInt8) (a : Nat) : ∃ r, udec a (122 :: t) = ⟨122, a, 1⟩ :: r := by
  have e : ustep (122 :: t) = (122, 1) := by
    have : ufirst (122 :: t) = (122, 1) := by
      unfold ufirst
      dsimp only
      rw [show usize (122 : UInt8).toNat = 1 by decide, if_neg (by simp)]
      rfl
    unfold ustep
    rw [this]; rfl
  rw [udec_cons a _ (by simp), e]
  exact ⟨_, rfl⟩

theorem ufirst_of {c : UInt8} {tl : List UInt8} (r : List UInt8) {n p : Nat} (hu : usize c.toNat = n) (hl : tl.length + 1 = n) (hr : urd tl (ulead n c.toNat) = some p) (hb : ¬ ubad n p) : ufirst (c :: tl ++ r) = (p, n) := by
  rw [List.cons_append]
  unfold ufirst
  dsimp only
  rw [hu, if_neg (by simp only [List.length_cons, List.length_append]; omega)]
  have e : List.drop 1 (List.take n (c :: (tl ++ r))) = tl := by
    rw [← hl, List.take_succ_cons, List.drop_succ_cons, List.drop_zero, List.take_left]
  rw [e, hr]
  dsimp only
  rw [if_neg hb]

theorem byt_cont {x : Nat} (h : x < 64) : (byt (128 + x)).toNat / 64 = 2 ∧ (byt (128 + x)).toNat % 64 = x := by
  rw [byt_toNat (by omega)]; omega

theorem ufirst_enc {p : Nat} (r : List UInt8) (h : okPoint p) : ufirst (uenc1 p ++ r) = (p, (uenc1 p).length) := by
  obtain ⟨h0, h1, h2⟩ := h
  unfold uenc1
  by_cases c1 : p < 128
  · rw [if_pos c1]
    refine ufirst_of r (n := 1) (by rw [byt_toNat (by omega)]; unfold usize; rw [if_pos c1]) rfl (by rw [byt_toNat (by omega)]; rfl) (by unfold ubad uleast; simp; omega)
  rw [if_neg c1]
  by_cases c2 : p < 2048
  · rw [if_pos c2]
    refine ufirst_of r (n := 2) (by rw [byt_toNat (by omega)]; unfold usize; rw [if_neg (by omega), if_pos (by omega)]) rfl ?_ (by unfold ubad uleast; simp; omega)
    have t1 := byt_cont (x := p % 64) (by omega)
    rw [byt_toNat (by omega), urd, if_pos t1.1, urd, t1.2]
    simp only [ulead]
    congr 1
    simp
    omega
  rw [if_neg c2]
  by_cases c3 : p < 65536
  · rw [if_pos c3]
    refine ufirst_of r (n := 3) (by rw [byt_toNat (by omega)]; unfold usize; rw [if_neg (by omega), if_neg (by omega), if_pos (by omega)]) rfl ?_ (by unfold ubad uleast; simp; omega)
    have t1 := byt_cont (x := p % 64) (by omega)
    have t2 := byt_cont (x := p / 64 % 64) (by omega)
    rw [byt_toNat (by omega), urd, if_pos t2.1, urd, if_pos t1.1, urd, t1.2, t2.2]
    simp only [ulead]
    congr 1
    simp
    omega
  · rw [if_neg c3]
    refine ufirst_of r (n := 4) (by rw [byt_toNat (by omega)]; unfold usize; rw [if_neg (by omega), if_neg (by omega), if_neg (by omega), if_pos (by omega)]) rfl ?_ (by unfold ubad uleast; simp; omega)
    have t1 := byt_cont (x := p % 64) (by omega)
    have t2 := byt_cont (x := p / 64 % 64) (by omega)
    have t3 := byt_cont (x := p / 4096 % 64) (by omega)
    rw [byt_toNat (by omega), urd, if_pos t3.1, urd, if_pos t2.1, urd, if_pos t1.1, urd, t1.2, t2.2, t3.2]
    simp only [ulead]
    congr 1
    simp
    omega

theorem udec_enc : ∀ (l : List Int) (a : Nat), (∀ x ∈ l, okPoint x) → (udec a (uenc l)).map (fun u => (u.p : Int)) = l
  | [], a, _ => by rw [show uenc [] = [] from rfl, udec_nil]; rfl
  | x :: l, a, h => by
    have hx := h x (by simp)
    obtain ⟨p, rfl⟩ : ∃ p : Nat, x = p := ⟨x.toNat, by have := hx.1; omega⟩
    have e : uenc ((p : Int) :: l) = uenc1 p ++ uenc l := rfl
    have hl := uenc1_length p
    have hf := ufirst_enc (uenc l) hx
    have hs : ustep (uenc1 p ++ uenc l) = (p, (uenc1 p).length) := by unfold ustep; rw [hf, if_neg (by dsimp only; omega)]
    rw [e, udec_cons _ _ (by intro h; have := congrArg List.length h; simp only [List.length_append, List.length_nil] at this; omega), hs]
    simp only [List.drop_left, List.map_cons]
    rw [udec_enc l _ (fun y hy => h y (by simp [hy]))]
end Cae
