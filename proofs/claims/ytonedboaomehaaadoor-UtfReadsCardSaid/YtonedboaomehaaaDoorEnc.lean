import Derived.Test.YtonedboaomehaaaDoorList
namespace Go.Proofs.YtonedboaomehaaaDoor
open Go.Vc Go.Proofs Go.RowKit Cae
set_option maxRecDepth 100000
set_option linter.unusedSimpArgs false
set_option linter.unusedVariables false
attribute [local irreducible] wpL callK valK unitK runK Fun Sl Own vc vcOps opK pureK
set_option maxHeartbeats 2000000

/-- What Encode gives: the bytes, or the first point that is none. -/
def Coded (l : List Int) (v : Value) (w : World) (base : Nat) : Prop :=
  ((∀ x ∈ l, okPoint x) ∧ v = .tuple #[str (uenc l), .nilIface]) ∨
  (∃ k x b, l[k]? = some x ∧ ¬ okPoint x ∧ (∀ y ∈ l.take k, okPoint y) ∧ base ≤ b ∧ v = .tuple #[str [], .iface 50 (.pointer (some ⟨b, 0, none⟩))] ∧ w.cell? ⟨b, 0, none⟩ = some (.int .i64 1) ∧ w.cell? ⟨b, 1, none⟩ = some (.int .i64 k))

theorem or_b {x : Nat} : (x < 64 → x ||| 128 = 128 + x) ∧ (x < 32 → x ||| 192 = 192 + x) ∧ (x < 16 → x ||| 224 = 224 + x) ∧ (x < 8 → x ||| 240 = 240 + x) := by
  have h1 : ∀ x : Nat, x < 64 → x ||| 128 = 128 + x := by decide
  have h2 : ∀ x : Nat, x < 32 → x ||| 192 = 192 + x := by decide
  have h3 : ∀ x : Nat, x < 16 → x ||| 224 = 224 + x := by decide
  have h4 : ∀ x : Nat, x < 8 → x ||| 240 = 240 + x := by decide
  exact ⟨h1 x, h2 x, h3 x, h4 x⟩
theorem enc_lead {q c m : Nat} (hc : c < 256) (hq : q < m) (hm : m ≤ 256) (h : q ||| c = c + q) (hb : c + q < 256) : bitop .or .u8 (IntKind.u8.wrap (q : Int)) (c : Int) = (((byt (c + q)).toNat : Nat) : Int) := by
  rw [wrap_u8_nat, Nat.mod_eq_of_lt (by omega), bits_or_u8 (by omega) hc, h, byt_toNat hb]
theorem enc_tail {q : Nat} (hq : q < 9223372036854775808) : bitop .or .u8 (IntKind.u8.wrap (bitop .and .i64 (q : Int) 63)) 128 = (((byt (128 + q % 64)).toNat : Nat) : Int) := by
  rw [show (63 : Int) = ((2 ^ 6 - 1 : Nat) : Int) from rfl, bits_and_i64 hq (by omega), and_mask]
  have : q % 2 ^ 6 < 64 := Nat.mod_lt _ (by omega)
  exact enc_lead (c := 128) (m := 64) (by omega) this (by omega) (or_b.1 this) (by omega)
theorem enc_shr {p k : Nat} {b : Int} (hb : b.toNat = k) (hk : k ≤ 64) : ((p : Int).fdiv (2 ^ min b.toNat IntKind.i64.bits)) = ((p / 2 ^ k : Nat) : Int) := shr_nat hb hk

theorem enc_l2 {q : Nat} (h : q < 32) : bitop .or .u8 (IntKind.u8.wrap (q : Int)) 192 = (((byt (192 + q)).toNat : Nat) : Int) := enc_lead (c := 192) (m := 32) (by omega) h (by omega) (or_b.2.1 h) (by omega)
theorem enc_l3 {q : Nat} (h : q < 16) : bitop .or .u8 (IntKind.u8.wrap (q : Int)) 224 = (((byt (224 + q)).toNat : Nat) : Int) := enc_lead (c := 224) (m := 16) (by omega) h (by omega) (or_b.2.2.1 h) (by omega)
theorem enc_l4 {q : Nat} (h : q < 8) : bitop .or .u8 (IntKind.u8.wrap (q : Int)) 240 = (((byt (240 + q)).toNat : Nat) : Int) := enc_lead (c := 240) (m := 8) (by omega) h (by omega) (or_b.2.2.2 h) (by omega)
theorem uenc1_len {p : Nat} : (p < 128 → (uenc1 p).length = 1) ∧ (¬ p < 128 → p < 2048 → (uenc1 p).length = 2) ∧ (¬ p < 128 → ¬ p < 2048 → p < 65536 → (uenc1 p).length = 3) ∧ (¬ p < 128 → ¬ p < 2048 → ¬ p < 65536 → (uenc1 p).length = 4) := by
  unfold uenc1
  refine ⟨fun h => ?_, fun h h1 => ?_, fun h h1 h2 => ?_, fun h h1 h2 => ?_⟩ <;> simp [*]
theorem enc_1 {p : Nat} (h : p < 128) : partCells [(0, .int .u8 (IntKind.u8.wrap (p : Int)))] = (uenc1 p).flatMap encB := by
  simp only [uenc1, if_pos h, partCells, cellsL, List.flatMap_cons, List.flatMap_nil, encB, List.append_nil]
  rw [wrap_u8_nat, byt_toNat (by omega), Nat.mod_eq_of_lt (by omega)]
theorem enc_2 {p : Nat} (h0 : ¬ p < 128) (h : p < 2048) : partCells [(0, .int .u8 (bitop .or .u8 (IntKind.u8.wrap ((p : Int).fdiv (2 ^ min (6 : Int).toNat IntKind.i64.bits))) 192)), (1, .int .u8 (bitop .or .u8 (IntKind.u8.wrap (bitop .and .i64 (p : Int) 63)) 128))] = (uenc1 p).flatMap encB := by
  simp only [uenc1, if_neg h0, if_pos h, partCells, cellsL, List.flatMap_cons, List.flatMap_nil, encB, List.append_nil]
  rw [enc_shr (k := 6) rfl (by omega), enc_tail (by omega), enc_l2 (by omega)]
theorem enc_3 {p : Nat} (h0 : ¬ p < 128) (h1 : ¬ p < 2048) (h : p < 65536) : partCells [(0, .int .u8 (bitop .or .u8 (IntKind.u8.wrap ((p : Int).fdiv (2 ^ min (12 : Int).toNat IntKind.i64.bits))) 224)),
    (1, .int .u8 (bitop .or .u8 (IntKind.u8.wrap (bitop .and .i64 ((p : Int).fdiv (2 ^ min (6 : Int).toNat IntKind.i64.bits)) 63)) 128)), (2, .int .u8 (bitop .or .u8 (IntKind.u8.wrap (bitop .and .i64 (p : Int) 63)) 128))] = (uenc1 p).flatMap encB := by
  simp only [uenc1, if_neg h0, if_neg h1, if_pos h, partCells, cellsL, List.flatMap_cons, List.flatMap_nil, encB, List.append_nil]
  rw [enc_shr (k := 12) rfl (by omega), enc_shr (k := 6) rfl (by omega), enc_tail (q := p) (by omega), enc_tail (by omega), enc_l3 (by omega)]
theorem enc_4 {p : Nat} (h0 : ¬ p < 128) (h1 : ¬ p < 2048) (h2 : ¬ p < 65536) (h : p < 2097152) : partCells [(0, .int .u8 (bitop .or .u8 (IntKind.u8.wrap ((p : Int).fdiv (2 ^ min (18 : Int).toNat IntKind.i64.bits))) 240)),
    (1, .int .u8 (bitop .or .u8 (IntKind.u8.wrap (bitop .and .i64 ((p : Int).fdiv (2 ^ min (12 : Int).toNat IntKind.i64.bits)) 63)) 128)),
    (2, .int .u8 (bitop .or .u8 (IntKind.u8.wrap (bitop .and .i64 ((p : Int).fdiv (2 ^ min (6 : Int).toNat IntKind.i64.bits)) 63)) 128)), (3, .int .u8 (bitop .or .u8 (IntKind.u8.wrap (bitop .and .i64 (p : Int) 63)) 128))] = (uenc1 p).flatMap encB := by
  simp only [uenc1, if_neg h0, if_neg h1, if_neg h2, partCells, cellsL, List.flatMap_cons, List.flatMap_nil, encB, List.append_nil]
  rw [enc_shr (k := 18) rfl (by omega), enc_shr (k := 12) rfl (by omega), enc_shr (k := 6) rfl (by omega), enc_tail (q := p) (by omega), enc_tail (q := p / 2 ^ 6) (by omega), enc_tail (by omega), enc_l4 (by omega)]

theorem encode_c (l : List Int) (hl : l.length < 10000000) (X : Nat → Prop) (v : Value) (w : World) (hv : Sl X 1 (En encI) w v l) :
    Fun Tryd.prog 9 [v] w fun v w' => Coded l v w' w.heap.size ∧ Below w.heap.size w w' := by
  obtain ⟨a, c, rfl, hc⟩ := hv.shape
  refine fun_of_vc Tryd.func9 rfl (by kernel_rfl) [2, 3] rfl ?_
  simp -dsimp only [push_cast, fr0, Tryd.ntmps9, List.length_cons, List.length_nil, Nat.reduceAdd, Nat.reduceSub, List.replicate_succ, List.replicate_zero]
  refine wpL_loop [2, 3, 4, 5, 6, 9, 10, 11, 12, 13, 14, 15, 16, 17, 18, 19, 20, 21, 22, 23, 24, 25, 26, 27, 28, 29, 30, 31, 32, 33, 34, 35, 36, 37, 38, 39, 40, 41, 42, 43, 44, 45, 46, 47, 48, 49, 50, 51, 52, 53, 54, 55, 56, 57, 58, 59, 60, 61, 62, 63, 64, 65, 66, 67, 68, 69, 70, 71, 72, 73, 74, 75, 76, 77, 78, 79, 80, 81, 82, 83, 84, 85, 86, 87, 88, 89, 90, 91, 92, 93, 94, 95] (fun z wx => ∃ (i : Nat), z 9 = .int .i64 i ∧ i ≤ l.length ∧ (∀ y ∈ l.take i, okPoint y) ∧ 
    Own w.heap.size 5 1 encB wx (z 4) (uenc (l.take i)) ∧ Below w.heap.size w wx) (fun z _ => l.length - (intOf (z 9)).toNat) ?_ ?_
  · exact ⟨0, rfl, Nat.zero_le _, by simp, Own.nil (enc := encB) _ _ (fun _ => rfl) _, Below.refl _ _⟩
  · intro z wx hI
    obtain ⟨i, h9, hi, hok, ho, hb⟩ := hI
    simp -dsimp only [push_cast, Nat.reduceAdd, Nat.reduceLeDiff, decide_true, h9]
    refine ⟨fun hlt => ?_, fun hge => ?_⟩
    · obtain ⟨x, hx, hxm, hd, ht⟩ := lt_get (l := l) (i := i) (by omega)
      obtain ⟨b, o, rfl, hX, hcell⟩ := (hv.below hb).get hx
      have c0 : wx.cell? ⟨b, o + i, none⟩ = some (.int .i64 x) := by simpa using hcell 0 _ rfl
      simp -dsimp only [push_cast, Nat.reduceAdd, Nat.reduceLeDiff, decide_true, c0]
      refine ⟨⟨by omega, by omega⟩, ?_⟩
      repeat' first | apply And.intro | intro _
      all_goals (try omega)
      all_goals first
      | (refine boxK_of ?_
         intro w2 hw2
         simp -dsimp only [push_cast, Nat.reduceAdd, Nat.reduceLeDiff, decide_true]
         exact ⟨.inr ⟨i, x, _, hx, by unfold okPoint; omega, hok, hb.size, rfl, hw2.cell rfl, hw2.cell rfl⟩, hb.trans (hw2.below.mono hb.size)⟩)
      | (obtain ⟨p, rfl⟩ : ∃ p : Nat, x = p := ⟨x.toNat, by omega⟩
         refine rowK elI_49 rfl rfl (by omega) ?_
         intro w2 hw2
         first | rw [enc_1 (by omega)] at hw2 | rw [enc_2 (by omega) (by omega)] at hw2 | rw [enc_3 (by omega) (by omega) (by omega)] at hw2 | rw [enc_4 (by omega) (by omega) (by omega) (by omega)] at hw2
         simp -dsimp only [push_cast, Nat.reduceAdd, Nat.reduceLeDiff, decide_true]
         have hlen := uenc_length (l.take i)
         have hlen1 := uenc1_length p
         rw [List.length_take] at hlen
         refine appendK' (uenc1 p) (enc := encB) elI_49 (ho.below hw2.below) (by first | exact uenc1_len.1 (by omega) | exact uenc1_len.2.1 (by omega) (by omega) | exact uenc1_len.2.2.1 (by omega) (by omega) (by omega) | exact uenc1_len.2.2.2 (by omega) (by omega) (by omega)) (fun j u hu => by simpa using hw2.cell hu) (by simp [encB, Value.oneCell']) (by omega) (by have := hb.size; have := hw2.size; omega) ?_
         intro v' w3 ho3 _ hb3
         simp -dsimp only [push_cast, Nat.reduceAdd, Nat.reduceLeDiff, decide_true]
         refine ⟨⟨by omega, by omega⟩, ⟨i + 1, rfl, by omega, ?_, ?_, (hb.trans (hw2.below.mono hb.size)).trans hb3⟩, by rw [h9]; simp only [intOf]; omega⟩
         · intro y hy
           rw [ht, List.mem_append, List.mem_singleton] at hy
           rcases hy with hy | rfl
           · exact hok y hy
           · unfold okPoint; omega
         · rw [ht]
           simpa [uenc, List.flatMap_append] using ho3)
    · rw [List.take_of_length_le (by omega)] at hok ho
      obtain ⟨a4, c4, h4⟩ := ho.slice
      rw [h4] at ho
      simp -dsimp only [push_cast, Nat.reduceAdd, Nat.reduceLeDiff, decide_true, h4]
      refine strK (e := 5) (by kernel_rfl) (by kernel_rfl) (by kernel_rfl) ho.sl ?_
      simp -dsimp only [push_cast, Nat.reduceAdd, Nat.reduceLeDiff, decide_true]
      exact ⟨.inl ⟨hok, rfl⟩, hb⟩
end Go.Proofs.YtonedboaomehaaaDoor
