import Derived.Test.YtonedboaomehaaaDoorPlaw
/- That writing what was read gives the bytes read, in plain words. -/
namespace Cae

theorem byt_of {c : UInt8} {n : Nat} (h : n = c.toNat) : byt n = c := by
  subst h; simp [byt]

theorem usize_eq (c : Nat) : (usize c = 1 ∧ c < 128) ∨ (usize c = 2 ∧ 194 ≤ c ∧ c < 224) ∨ (usize c = 3 ∧ 224 ≤ c ∧ c < 240) ∨ (usize c = 4 ∧ 240 ≤ c ∧ c < 245) ∨ usize c = 0 := by
  unfold usize; grind

/-- Where a point is read, writing it gives the bytes that were read. -/
theorem enc_first {s : List UInt8} (h : (ufirst s).2 ≠ 0) : uenc1 (ufirst s).1 = s.take (ufirst s).2 ∧ okPoint (ufirst s).1 := by
  cases s with
  | nil => exact absurd rfl h
  | cons c s =>
    by_cases h0 : usize c.toNat = 0 ∨ (c :: s).length < usize c.toNat
    · exact absurd (by unfold ufirst; dsimp only; rw [if_pos h0]) h
    · have h1 : usize c.toNat ≠ 0 := fun e => h0 (.inl e)
      have h2 : usize c.toNat ≤ (c :: s).length := Nat.le_of_not_lt fun e => h0 (.inr e)
      cases hr : urd (((c :: s).take (usize c.toNat)).drop 1) (ulead (usize c.toNat) c.toNat) with
      | none => rw [ufirst_none h1 h2 hr] at h; exact absurd rfl h
      | some p =>
        rw [ufirst_some h1 h2 hr] at h ⊢
        by_cases hb : ubad (usize c.toNat) p
        · rw [if_pos hb] at h; exact absurd rfl h
        rw [if_neg hb]
        dsimp only
        have hb' := hb
        unfold ubad at hb
        simp only [not_or, Nat.not_lt] at hb
        obtain ⟨hb1, hb2, hb3⟩ := hb
        refine ⟨?_, by unfold okPoint; omega⟩
        rcases usize_eq c.toNat with ⟨e, l1⟩ | ⟨e, l1, l2⟩ | ⟨e, l1, l2⟩ | ⟨e, l1, l2⟩ | e
        · rw [e] at hr ⊢
          simp [urd, ulead] at hr
          subst hr
          unfold uenc1
          rw [if_pos l1, byt_of rfl]; rfl
        · rw [e] at hr hb1 h2 ⊢
          match s, h2 with
          | b1 :: r, _ =>
            simp [urd, ulead] at hr
            obtain ⟨k1, hp⟩ := hr
            simp [uleast] at hb1
            have q1 := b1.toNat_lt
            unfold uenc1
            rw [if_neg (by omega), if_pos (by omega), byt_of (c := c) (by omega), byt_of (c := b1) (by omega)]; rfl
        · rw [e] at hr hb1 h2 ⊢
          match s, h2 with
          | b1 :: b2 :: r, _ =>
            simp [urd, ulead] at hr
            obtain ⟨k1, k2, hp⟩ := hr
            simp [uleast] at hb1
            have q1 := b1.toNat_lt
            have q2 := b2.toNat_lt
            unfold uenc1
            rw [if_neg (by omega), if_neg (by omega), if_pos (by omega), byt_of (c := c) (by omega), byt_of (c := b1) (by omega), byt_of (c := b2) (by omega)]; rfl
        · rw [e] at hr hb1 h2 ⊢
          match s, h2 with
          | b1 :: b2 :: b3 :: r, _ =>
            simp [urd, ulead] at hr
            obtain ⟨k1, k2, k3, hp⟩ := hr
            simp [uleast] at hb1
            have q1 := b1.toNat_lt
            have q2 := b2.toNat_lt
            have q3 := b3.toNat_lt
            unfold uenc1
            rw [if_neg (by omega), if_neg (by omega), if_neg (by omega), byt_of (c := c) (by omega), byt_of (c := b1) (by omega), byt_of (c := b2) (by omega), byt_of (c := b3) (by omega)]; rfl
        · exact absurd e h1

theorem uenc_cons (x : Int) (l : List Int) : uenc (x :: l) = uenc1 x.toNat ++ uenc l := rfl

/-- What was read can be written again: at most three bytes for each, and the same bytes where no byte was misread. -/
theorem udec_write (n : Nat) : ∀ (s : List UInt8) (a : Nat), s.length = n → (∀ x ∈ (udec a s).map (fun u => (u.p : Int)), okPoint x) ∧ (uenc ((udec a s).map fun u => (u.p : Int))).length ≤ 3 * s.length ∧
    ((65533 : Int) ∉ (udec a s).map (fun u => (u.p : Int)) → uenc ((udec a s).map fun u => (u.p : Int)) = s) := by
  induction n using Nat.strongRecOn with
  | _ n ih =>
    intro s a hs
    by_cases h : s = []
    · subst h; simp [udec_nil, uenc]
    · have h1 := ustep_pos s
      have h2 := ustep_le s h
      obtain ⟨i1, i2, i3⟩ := ih (s.drop (ustep s).2).length (by rw [List.length_drop]; omega) (s.drop (ustep s).2) (a + (ustep s).2) rfl
      rw [udec_cons a s h]
      simp only [List.map_cons, uenc_cons, Int.toNat_natCast, List.length_append, List.mem_cons, not_or]
      rw [List.length_drop] at i2
      by_cases h0 : (ufirst s).2 = 0
      · have e : ustep s = (65533, 1) := by unfold ustep; rw [if_pos h0]
        rw [e] at i1 i2 i3 h2 ⊢
        refine ⟨?_, ?_, fun hn => absurd rfl hn.1⟩
        · rintro x (rfl | hx)
          · decide
          · exact i1 x hx
        · have : (uenc1 65533).length = 3 := by decide
          dsimp only at i2 h2 ⊢
          omega
      · have e : ustep s = ufirst s := by unfold ustep; rw [if_neg h0]
        obtain ⟨f1, f2⟩ := enc_first h0
        rw [e] at i1 i2 i3 h2 h1 ⊢
        refine ⟨?_, ?_, fun hn => ?_⟩
        · rintro x (rfl | hx)
          · exact f2
          · exact i1 x hx
        · rw [f1, List.length_take]; omega
        · rw [f1, i3 hn.2, List.take_append_drop]
end Cae
