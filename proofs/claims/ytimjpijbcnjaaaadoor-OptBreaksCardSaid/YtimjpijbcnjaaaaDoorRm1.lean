import Derived.Test.YtimjpijbcnjaaaaDoorImr1b
import Derived.Test.YtimjpijbcnjaaaaDoorV
import Derived.Test.YtimjpijbcnjaaaaDoorThr
namespace Go.Proofs.YtimjpijbcnjaaaaDoor
open Go.Vc Go.Proofs Go.RowKit Cae
set_option maxRecDepth 100000
set_option linter.unusedSimpArgs false
set_option linter.unusedVariables false
attribute [local irreducible] wpL callK valK unitK runK Fun Sl Own vc vcOps opK pureK
set_option maxHeartbeats 4000000

/-- Which places were met. -/
def Met (w : World) (mb : Nat) (q : List Nat) : Prop := ∃ ks, MapI w mb ks ∧ ∀ n : Nat, ((n : Int) ∈ ks ↔ n ∈ q)
theorem Met.kept {X : Nat → Prop} {w w' : World} {b : Nat} {q : List Nat} (h : Met w b q) (hk : Kept X w w') (hX : ¬ X b) : Met w' b q := by
  obtain ⟨ks, h1, h2⟩ := h
  exact ⟨ks, h1.kept hk hX, h2⟩
theorem mem_addI {ks : List Int} {q : List Nat} {k : Nat} (h : ∀ n : Nat, ((n : Int) ∈ ks ↔ n ∈ q)) : ∀ n : Nat, ((n : Int) ∈ addI ks k ↔ n ∈ addQ q k) := fun n => by
  unfold addI addQ
  by_cases hk : k ∈ q
  · rw [if_pos hk, if_pos ((h k).2 hk)]; exact h n
  · rw [if_neg hk, if_neg (fun hh => hk ((h k).1 hh)), List.mem_append, List.mem_append, List.mem_singleton, List.mem_singleton, h n]
    constructor
    · rintro (h' | h')
      · exact .inl h'
      · exact .inr (by omega)
    · rintro (h' | h')
      · exact .inl h'
      · exact .inr (by omega)

theorem meet_c (base k mb pm ph : Nat) (q : List Nat) (hv : Value) (w : World) (hM : Met w mb q) (hpm : Blk w pm 90 [.map (some mb)]) (hph : Blk w ph 26 [hv]) (ho : Own base 3 1 encN w hv q)
    (hb : base ≤ w.heap.size) (hne : pm ≠ ph) (hown : ∀ g, hv.ownBlock = some g → g ≠ pm ∧ g ≠ ph) (hq : q.length < 1000000) :
    Fun Tryd.prog 50 [.int .i64 k, .pointer (some ⟨pm, 0, none⟩), .pointer (some ⟨ph, 0, none⟩)] w fun _ w' => ∃ hv', Met w' mb (addQ q k) ∧ Blk w' pm 90 [.map (some mb)] ∧ Blk w' ph 26 [hv'] ∧ Own base 3 1 encN w' hv' (addQ q k) ∧
      (∀ g, hv'.ownBlock = some g → hv.ownBlock = some g ∨ w.heap.size ≤ g) ∧ Kept (fun j => j = mb ∨ j = ph ∨ hv.ownBlock = some j) w w' := by
  obtain ⟨ks, hmap, hks⟩ := hM
  have cm : w.cell? ⟨pm, 0, none⟩ = some (.map (some mb)) := hpm.cell rfl
  have m1 := mapNe hmap hpm
  have m2 := mapNe hmap hph
  have m3 := mapNeOwn hmap ho
  refine fun_of_vc Tryd.func50 rfl (by kernel_rfl) [] rfl ?_
  simp -dsimp only [push_cast, fr0, Tryd.ntmps50, List.length_cons, List.length_nil, Nat.reduceAdd, Nat.reduceSub, Nat.reduceBEq, List.replicate_succ, List.replicate_zero]
  simp -dsimp only [push_cast, Nat.reduceAdd, Nat.reduceLeDiff, Nat.reduceBEq, decide_true, cm]
  refine lookupK (kt := 3) (et := 4) (by kernel_rfl) (by kernel_rfl) (by kernel_rfl) hmap ?_
  simp -dsimp only [push_cast, Nat.reduceAdd, Nat.reduceLeDiff, Nat.reduceBEq, decide_true, ne_eq, eq_self, not_true_eq_false, not_false_eq_true, true_imp_iff, false_imp_iff, Int.reduceNe, Int.reduceEq, Int.reduceLT, Int.reduceLE, Bool.not_true, Bool.not_false]
  refine ⟨fun hin => ?_, fun hin => ?_⟩
  · have hkq : k ∉ q := fun h => hin ((hks k).2 h)
    have eA : addQ q k = q ++ [k] := by unfold addQ; rw [if_neg hkq]
    simp -dsimp only [push_cast, Nat.reduceAdd, Nat.reduceLeDiff, Nat.reduceBEq, decide_true, cm]
    refine updateK (kt := 3) (et := 4) (by kernel_rfl) (by kernel_rfl) hmap ?_
    intro w1 hm1 hk1 sz1
    have hpm1 := hpm.kept hk1 (fun h => m1 h.symm)
    have hph1 := hph.kept hk1 (fun h => m2 h.symm)
    have ho1 := ho.keptX hk1 (fun g hg h => m3 (by rw [hg, h]))
    have ch : w1.cell? ⟨ph, 0, none⟩ = some hv := hph1.cell rfl
    simp -dsimp only [push_cast, Nat.reduceAdd, Nat.reduceLeDiff, Nat.reduceBEq, decide_true, ch]
    refine rowK elI_26 rfl rfl (by omega) ?_
    intro w2 hw2
    simp -dsimp only [push_cast, Nat.reduceAdd, Nat.reduceLeDiff, Nat.reduceBEq, decide_true]
    have hsz2 := hw2.size
    refine appendK2 (base := base) [k] (enc := encN) elI_26 (ho1.new hw2) rfl (fun j u hu => by simpa using hw2.cell hu) (by simp [encN, Value.oneCell']) (by simp only [List.length_cons, List.length_nil]; omega) (by omega) ?_
    intro v' w3 ho3 hg3 hn3
    have k2 : Kept (fun _ => False) w1 w2 := Kept.new hw2
    have hgk : Kept (fun j => hv.ownBlock = some j) w2 w3 := Kept.grown hg3 (fun _ h => h)
    have hpm3 := (hpm1.kept k2 id).kept hgk (fun h => (hown _ h).1 rfl)
    have hph3 := (hph1.kept k2 id).kept hgk (fun h => (hown _ h).2 rfl)
    have hm3 := (hm1.kept k2 id).kept hgk m3
    obtain ⟨a3, c3, hv3⟩ := ho3.slice
    subst hv3
    simp -dsimp only [push_cast, Nat.reduceAdd, Nat.reduceLeDiff, Nat.reduceBEq, decide_true]
    refine storeK_of hph3 (by simp) rfl ?_
    intro w4 hw4
    simp -dsimp only [push_cast, Nat.reduceAdd, Nat.reduceLeDiff, Nat.reduceBEq, decide_true]
    have hlt1 := hpm1.lt
    have hlt2 := hph1.lt
    have hnew : ∀ g, (Value.slice a3 (q ++ [k]).length c3).ownBlock = some g → hv.ownBlock = some g ∨ w.heap.size ≤ g := fun g hg => by
      rcases hn3 g hg with h | h
      · exact .inl h
      · exact .inr (by omega)
    have hne4 : ∀ g, (Value.slice a3 (q ++ [k]).length c3).ownBlock = some g → ¬ g = ph := fun g hg h => by
      rcases hn3 g hg with h' | h'
      · exact (hown g h').2 h
      · omega
    rw [eA]
    refine ⟨_, ⟨addI ks k, hm3.kept hw4.kept (fun h => m2 h), ?_⟩, hpm3.kept hw4.kept (fun h => hne h), hw4.blk, ho3.keptX hw4.kept hne4, hnew, ?_⟩
    · have := mem_addI hks (k := k)
      rwa [eA] at this
    · exact (((hk1.weaken (fun _ _ h => .inl h)).trans k2 (fun _ _ h => h.elim)).trans hgk (fun _ _ h => .inr (.inr h))).trans hw4.kept (fun _ _ h => .inr (.inl h))
  · have hin : (k : Int) ∈ ks := Classical.byContradiction hin
    have hkq : k ∈ q := (hks k).1 hin
    have eA : addQ q k = q := by unfold addQ; rw [if_pos hkq]
    rw [eA]
    exact ⟨hv, ⟨ks, hmap, hks⟩, hpm, hph, ho, fun g hg => .inl hg, Kept.refl _ _⟩

theorem hasR_c (s : List Rg) (p : Int) (hs : s.length < 1000000000) (X : Nat → Prop) (v : Value) (w : World) (hv : Sl X 2 (En encR) w v s) :
    Fun Tryd.prog 51 [v, .int .i64 p] w fun r w' => r = .bool (hasP s p) ∧ Below w.heap.size w w' := by
  obtain ⟨a, c, rfl, hc⟩ := hv.shape
  refine fun_of_vc Tryd.func51 rfl (by kernel_rfl) [4] rfl ?_
  simp -dsimp only [push_cast, fr0, Tryd.ntmps51, List.length_cons, List.length_nil, Nat.reduceAdd, Nat.reduceSub, Nat.reduceBEq, List.replicate_succ, List.replicate_zero]
  refine wpL_loop [4, 6, 9, 10, 11, 12, 13, 14, 15, 16, 17, 18, 19, 20, 21, 22, 23] (fun z wx => ∃ (i : Nat), z 9 = .int .i64 i ∧ i ≤ s.length ∧ (∀ r ∈ s.take i, ¬ (r.1 ≤ p ∧ p ≤ r.2)) ∧ Below w.heap.size w wx) (fun z _ => s.length - (intOf (z 9)).toNat) ?_ ?_
  · exact ⟨0, rfl, Nat.zero_le _, by simp, Below.refl _ _⟩
  · intro z wx hI
    obtain ⟨i, h9, hi, hok, hb⟩ := hI
    have szx := hb.size
    simp -dsimp only [push_cast, Nat.reduceAdd, Nat.reduceLeDiff, Nat.reduceBEq, decide_true, h9]
    refine ⟨fun hlt => ?_, fun hge => ?_⟩
    · obtain ⟨r, hex⟩ := lt_get (l := s) (i := i) (by omega)
      have hrm := hex.2.1
      have ht := hex.2.2.2
      have hget := (hv.below hb).get hex.1
      obtain ⟨b, o, rfl, hX, hcell⟩ := hget
      have ce : cellsAt wx ⟨b, o + i * 2, none⟩ 0 2 = some [.int .i64 r.1, .int .i64 r.2] := cellsAt_of (encR r) 0 (fun k u hu => by simpa using hcell k u hu)
      simp -dsimp only [push_cast, Nat.reduceAdd, Nat.reduceLeDiff, Nat.reduceBEq, decide_true, ce]
      refine ⟨⟨by omega, by omega⟩, ?_⟩
      refine allocK (z := [.int .i64 0, .int .i64 0]) (by kernel_rfl) ?_
      intro w1 hw1
      simp -dsimp only [push_cast, Nat.reduceAdd, Nat.reduceLeDiff, Nat.reduceBEq, decide_true]
      refine storeAgg (n := 2) (by kernel_rfl) hw1.blk rfl (by simp) (by simp [Value.oneCell']) ?_
      intro w2 hw2
      have sz1 := hw1.size
      have hB2 : Blk w2 wx.heap.size 79 [.int .i64 r.1, .int .i64 r.2] := hw2.blk
      have f0 : w2.cell? ⟨wx.heap.size, 0, none⟩ = some (.int .i64 r.1) := hB2.cell rfl
      have f1 : w2.cell? ⟨wx.heap.size, 1, none⟩ = some (.int .i64 r.2) := hB2.cell rfl
      have hb2 : Below w.heap.size w w2 := hb.trans ((hw1.below.mono szx).trans (hw2.kept.below (by omega) (fun _ h => by omega)))
      have hyes : (r.1 ≤ p ∧ p ≤ r.2) → Value.bool true = Value.bool (hasP s p) := fun h => by
        congr 1; unfold hasP
        exact (List.any_eq_true.2 ⟨r, hrm, decide_eq_true h⟩).symm
      have hno : ¬ (r.1 ≤ p ∧ p ≤ r.2) → ∀ y ∈ s.take (i + 1), ¬ (y.1 ≤ p ∧ p ≤ y.2) := fun h y hy => by
        rw [ht, List.mem_append, List.mem_singleton] at hy
        rcases hy with hy | rfl
        · exact hok y hy
        · exact h
      simp -dsimp only [push_cast, Nat.reduceAdd, Nat.reduceLeDiff, Nat.reduceBEq, decide_true, f0, f1]
      exact ⟨fun q1 => ⟨fun q2 => ⟨hyes ⟨q1, q2⟩, hb2⟩, fun q2 => ⟨⟨by omega, by omega⟩, ⟨i + 1, rfl, by omega, hno (fun h => q2 h.2), hb2⟩, by rw [h9]; simp only [intOf]; omega⟩⟩,
        fun q1 => ⟨⟨by omega, by omega⟩, ⟨i + 1, rfl, by omega, hno (fun h => q1 h.1), hb2⟩, by rw [h9]; simp only [intOf]; omega⟩⟩
    · rw [List.take_of_length_le (by omega)] at hok
      refine ⟨?_, hb⟩
      congr 1
      unfold hasP
      exact (List.any_eq_false.2 (fun r hr h => hok r hr (of_decide_eq_true h))).symm
end Go.Proofs.YtimjpijbcnjaaaaDoor
