import Derived.Test.YtimjpijbcnjaaaaDoorVe
set_option linter.unusedSimpArgs false
set_option linter.unusedVariables false
namespace Go.Vc
open Go.RowKit

def encI (n : Int) : List Value := [.int .i64 n]

/-- A literal's block is the call's own. -/
theorem New.own {α : Type} {base k n : Nat} {e : TypeId} {enc : α → List Value} {w w' : World} {cs : List Value} {l : List α} (h : New w w' e cs) (hcs : cs = l.flatMap enc) (hn : l.length = n) (hk : ∀ x, (enc x).length = k) (hb : base ≤ w.heap.size) (hm : n ≤ 140737488355328) :
    Own base e k enc w' (.slice (some ⟨w.heap.size, 0, none⟩) n n) l := by
  subst hcs hn
  have hlen : (l.flatMap enc).length = l.length * k := by
    clear h hb hm
    induction l with
    | nil => simp
    | cons y ys ih => simp [List.flatMap_cons, hk, ih, Nat.add_mul]; omega
  refine ⟨⟨hlen, .inr ⟨w.heap.size, l.length, (l.flatMap enc).toArray, rfl, hb, h.block, Nat.le_refl _, by simp only [maxLen]; omega, by simp [hlen], ?_⟩⟩, hk⟩
  rw [← hlen]
  exact List.take_length
theorem Sl.getR {α : Type} {X : Nat → Prop} {k : Nat} {R : List Value → α → Prop} {w : World} {a : Option Addr} {n c : Nat} {l : List α} (h : Sl X k R w (.slice a n c) l) {i : Nat} {x : α} (hx : l[i]? = some x) :
    ∃ b o cs, a = some ⟨b, o, none⟩ ∧ ¬ X b ∧ cs.length = k ∧ (∀ j u, cs[j]? = some u → w.cell? ⟨b, o + i * k + j, none⟩ = some u) ∧ R cs x := by
  obtain ⟨a', c', he, _, h⟩ := h
  cases he
  exact h i x hx
/-- The first ones of a slice that the call owns. -/
theorem Own.cut {α : Type} {base k n c : Nat} {e : TypeId} {enc : α → List Value} {w : World} {a : Option Addr} {l : List α} (h : Own base e k enc w (.slice a n c) l) :
    (a = none ∧ n = 0 ∧ c = 0 ∧ l = []) ∨ ∃ g, a = some ⟨g, 0, none⟩ ∧ n = l.length ∧ n ≤ c ∧ ∀ m, m ≤ n → Own base e k enc w (.slice (some ⟨g, 0, none⟩) m c) (l.take m) := by
  obtain ⟨⟨h1, h2⟩, hk⟩ := h
  rcases h2 with ⟨he, h0⟩ | ⟨g, cap, cur, he, hbg, hgg, hnc, hcm, hcs, htk⟩
  · cases he
    exact .inl ⟨rfl, rfl, rfl, List.eq_nil_of_length_eq_zero h0⟩
  · cases he
    refine .inr ⟨g, rfl, rfl, hnc, fun m hm => ⟨⟨?_, .inr ⟨g, c, cur, ?_, hbg, hgg, ?_, hcm, hcs, ?_⟩⟩, hk⟩⟩
    · clear htk h1
      have : ∀ (l : List α), (l.flatMap enc).length = l.length * k := by
        intro l
        induction l with
        | nil => simp
        | cons y ys ih => simp [List.flatMap_cons, hk, ih, Nat.add_mul]; omega
      rw [this]
    · rw [List.length_take, Nat.min_eq_left hm]
    · rw [List.length_take]; omega
    · have hl : ∀ (l : List α), (l.flatMap enc).length = l.length * k := by
        intro l
        induction l with
        | nil => simp
        | cons y ys ih => simp [List.flatMap_cons, hk, ih, Nat.add_mul]; omega
      have h3 : l.flatMap enc = (l.take m).flatMap enc ++ (l.drop m).flatMap enc := by rw [← List.flatMap_append, List.take_append_drop]
      rw [h3] at htk
      have h4 := congrArg (List.take ((l.take m).length * k)) htk
      rw [List.take_take, ← hl (l.take m), List.take_left, hl, Nat.min_eq_left (Nat.mul_le_mul_right k (by rw [List.length_take]; omega))] at h4
      exact h4
theorem sliceK_nil_hi (e : TypeId) (e' : TypeId) (k : Nat) (kk : IntKind) (L : VP) (other : Prop) (p) : sliceK (some (.slice e)) (some (e', k)) (.slice none 0 0) none (some (.int kk 0)) none L other p = L (.slice none 0 0) := by
  simp [sliceK, natAt]
attribute [push_cast] sliceK_nil_hi
theorem Blk.cellsAt {w : World} {b : Nat} {e : TypeId} {cs : List Value} (h : Blk w b e cs) : cellsAt w ⟨b, 0, none⟩ 0 cs.length = some cs :=
  cellsAt_of cs 0 fun j u hu => by rw [Nat.zero_add, Nat.zero_add]; exact h.cell hu
end Go.Vc
