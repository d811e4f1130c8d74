import Derived.Test.YtonedboaomehaaaDoorVe
namespace Go.Vc
open Go.RowKit

/-- A literal's block is the call's own. -/
theorem New.own {α : Type} {base k n : Nat} {e : TypeId} {enc : α → List Value} {w w' : World} {cs : List Value} {l : List α} (h : New w w' e cs) (hcs : cs = l.flatMap enc) (hn : l.length = n) (hk : ∀ x, (enc x).length = k) (hb : base ≤ w.heap.size) (hm : n ≤ 140737488355328) :
    Own base e k enc w' (.slice (some ⟨w.heap.size, 0, none⟩) n n) l := by
  subst hcs hn
  have hlen : (l.flatMap enc).length = l.length * k := by
    clear h hb hm
    induction l with
    | nil => simp
    | cons y ys ih => simp [List.flatMap_cons, hk, ih, Nat.add_mul]; omega
  refine ⟨⟨hlen, .inr ⟨w.heap.size, l.length, (l.flatMap enc).toArray, rfl, hb, h.block, Nat.le_refl _, by simp only [maxLen]; omega, by simp [hlen], ?_⟩⟩, hk⟩
  rw [← hlen]
  exact List.take_length
theorem Blk.cellsAt {w : World} {b : Nat} {e : TypeId} {cs : List Value} (h : Blk w b e cs) : cellsAt w ⟨b, 0, none⟩ 0 cs.length = some cs :=
  cellsAt_of cs 0 fun j u hu => by rw [Nat.zero_add, Nat.zero_add]; exact h.cell hu
end Go.Vc
