import Derived.Test.YtieaebjkbhaoaaaGreatDoorRq4
import Derived.Shelf.Strings.BuilderK
namespace Go.Proofs.YtieaebjkbhaoaaaGreatDoor
open Go.Vc Go.Proofs Go.RowKit Cae
set_option maxRecDepth 100000
set_option linter.unusedSimpArgs false
set_option linter.unusedVariables false
attribute [local irreducible] wpL callK valK unitK runK Fun Sl Own vc vcOps opK pureK
set_option maxHeartbeats 4000000
/-- A builder of the call's own, that holds l. -/
def Bu (B b : Nat) (l : List UInt8) (w : World) : Prop := Lib.IsBuilderF 55 5 B b (Lib.byteCells l) w
theorem Bu.below {B b : Nat} {l : List UInt8} {w w' : World} (h : Bu B b l w) (hb : Below w.heap.size w w') : Bu B b l w' := by
  have one : ∀ {p : Value}, Lib.BuilderAtF 55 5 B b p (Lib.byteCells l) w → Lib.BuilderAtF 55 5 B b p (Lib.byteCells l) w' := by
    intro p h
    have hlt := h.lt
    obtain ⟨hB, v, hv, hown, hne⟩ := h
    exact ⟨hB, v, (hb.block b hlt).trans hv, hown.kept (row := none) ⟨hb.os, hb.tape, hb.output, hb.size, fun k hk _ => hb.block k hk⟩ (Classical.em _), hne⟩
  exact h.elim (fun x => .inl (one x)) (fun x => .inr (one x))
theorem Bu.lt {B b : Nat} {l : List UInt8} {w : World} (h : Bu B b l w) : b < w.heap.size := h.elim (fun x => x.lt) (fun x => x.lt)
theorem write_c (B b : Nat) (l s : List UInt8) (w : World) (h : Bu B b l w) (hlen : l.length + s.length ≤ 1000000000) (hB : B ≤ w.heap.size) :
    Fun Tryz.prog 15 [.pointer (some ⟨b, 0, none⟩), str s] w fun _ w' => Bu B b (l ++ s) w' ∧ Below B w w' := by
  refine fun_of_calls Tryz.func15 (by kernel_rfl) (by kernel_rfl) ?_
  have e : (⟨s.toArray⟩ : ByteArray).size = s.length := by simp [ByteArray.size]
  refine Calls.mono (Any.Builder_WriteString_k { joinR with } joinX B b (Lib.byteCells l) ⟨s.toArray⟩ w h (by rw [e, Lib.byteCells_length]; omega) hB) ?_
  rintro _ w' ⟨rfl, h1, h2, _⟩
  refine ⟨_, rfl, .inr ?_, h2⟩
  rw [Lib.byteCells_append]
  exact h1
theorem bstring_c (B b : Nat) (l : List UInt8) (w : World) (h : Bu B b l w) (hB : B ≤ w.heap.size) :
    Fun Tryz.prog 18 [.pointer (some ⟨b, 0, none⟩)] w fun r w' => r = str l ∧ Below B w w' := by
  refine fun_of_calls Tryz.func18 (by kernel_rfl) (by kernel_rfl) ?_
  refine Calls.mono (Any.Builder_String_any_k { joinR with } joinX B b l w h hB) ?_
  rintro _ w' ⟨rfl, h1, h2, _⟩
  exact ⟨_, rfl, rfl, h2⟩
theorem Bu.fresh {w w' : World} {b : Nat} (h : New w w' 55 [.pointer none, .slice none 0 0]) (hb : b = w.heap.size) (B : Nat) (hB : B ≤ b) : Bu B b [] w' := by
  subst hb
  refine .inl ⟨hB, .slice none 0 0, h.blk, ?_, by simp [Value.ownBlock]⟩
  exact ⟨by simp, .inl ⟨rfl, rfl⟩⟩
end Go.Proofs.YtieaebjkbhaoaaaGreatDoor
