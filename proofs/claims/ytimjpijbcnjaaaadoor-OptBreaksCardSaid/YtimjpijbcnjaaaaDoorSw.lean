import Derived.Test.YtimjpijbcnjaaaaDoorSv
set_option linter.unusedSimpArgs false
set_option linter.unusedVariables false
namespace Go.Vc
open Go.RowKit
/-- Blocks that came later are not read. -/
theorem Sl.fresh {α : Type} {X X' : Nat → Prop} {k : Nat} {enc : α → List Value} {w : World} {v : Value} {l : List α} (hk : ∀ x, 0 < (enc x).length) (h : Sl X k (En enc) w v l) (hX : ∀ b, X' b → X b ∨ w.heap.size ≤ b) : Sl X' k (En enc) w v l := by
  obtain ⟨a, c, rfl, hc, h⟩ := h
  refine ⟨a, c, rfl, hc, fun i x hx => ?_⟩
  obtain ⟨b, o, cs, e, hnb, hl, hcell, rfl⟩ := h i x hx
  refine ⟨b, o, _, e, fun hb => ?_, hl, hcell, rfl⟩
  have : b < w.heap.size := World.block_lt_of_cell? w _ (hcell 0 _ (List.getElem?_eq_getElem (hk x)))
  rcases hX b hb with h | h
  · exact hnb h
  · omega
/-- What the call owns lies in its own block alone. -/
theorem Own.slOwn {α : Type} {base : Nat} {e : TypeId} {k : Nat} {enc : α → List Value} {w : World} {v : Value} {l : List α} (h : Own base e k enc w v l) : Sl (fun b => v.ownBlock ≠ some b) k (En enc) w v l := by
  have hs := h.sl
  obtain ⟨a, c, rfl, hc, hs⟩ := hs
  refine ⟨a, c, rfl, hc, fun i x hx => ?_⟩
  obtain ⟨b, o, cs, e, hnb, hl, hcell, hcs⟩ := hs i x hx
  refine ⟨b, o, cs, e, ?_, hl, hcell, hcs⟩
  subst e
  simp [Value.ownBlock]
end Go.Vc
namespace Go.Proofs.YtimjpijbcnjaaaaDoor
open Go.Vc Go.Proofs Go.RowKit Cae
theorem SetsV.fresh {X X' : Nat → Prop} {w : World} {v : Value} {l : List (List Rg)} (h : SetsV X w v l) (hX : ∀ b, X' b → X b ∨ w.heap.size ≤ b) : SetsV X' w v l := by
  have hu := SetsV.values h
  obtain ⟨us, hl, h1, h2⟩ := hu
  exact SetsV.of_values hl (h1.fresh (fun _ => by simp [encSV]) hX) (fun i u s hu hs => (h2 i u s hu hs).fresh (fun _ => by simp [encR]) hX)
theorem CodeV.fresh {X X' : Nat → Prop} {w : World} {v : Value} {c : CodeP} (h : CodeV X w v c) (hX : ∀ b, X' b → X b ∨ w.heap.size ≤ b) : CodeV X' w v c := by
  obtain ⟨sv, iv, rfl, hs, hi⟩ := h
  exact ⟨sv, iv, rfl, hs.fresh hX, hi.fresh (fun _ => by simp [encIn]) hX⟩
end Go.Proofs.YtimjpijbcnjaaaaDoor
