import Derived.Test.YtimjpijbcnjaaaaDoorThr
import Derived.Test.YtimjpijbcnjaaaaDoorV
namespace Go.Proofs.YtimjpijbcnjaaaaDoor
open Go.Vc Go.Proofs Go.RowKit Cae
set_option maxRecDepth 100000
set_option linter.unusedSimpArgs false
set_option linter.unusedVariables false
attribute [local irreducible] wpL callK valK unitK runK Fun Sl Own vc vcOps opK pureK
set_option maxHeartbeats 4000000

/-- Two lists of places, apart, in blocks of D. -/
def Two (D : Nat → Prop) (w : World) (pA pB n : Nat) (q nx : List Nat) : Prop :=
  ∃ FA FB, Th w pA n q FA ∧ Th w pB n nx FB ∧ (∀ j, FA j → ¬ FB j) ∧ (∀ j, FA j → D j ∧ j < w.heap.size) ∧ (∀ j, FB j → D j ∧ j < w.heap.size)

theorem Two.swap {D : Nat → Prop} {w : World} {pA pB n : Nat} {q nx : List Nat} (h : Two D w pA pB n q nx) : Two D w pB pA n nx q := by
  obtain ⟨FA, FB, h1, h2, h3, h4, h5⟩ := h
  exact ⟨FB, FA, h2, h1, fun j hb ha => h3 j ha hb, h5, h4⟩
theorem Two.kept {D X : Nat → Prop} {w w' : World} {pA pB n : Nat} {q nx : List Nat} (h : Two D w pA pB n q nx) (hk : Kept X w w') (hX : ∀ j, D j → j < w.heap.size → ¬ X j) : Two D w' pA pB n q nx := by
  obtain ⟨FA, FB, h1, h2, h3, h4, h5⟩ := h
  have hs := hk.size
  exact ⟨FA, FB, h1.kept hk (fun j hj => hX j (h4 j hj).1 (h4 j hj).2), h2.kept hk (fun j hj => hX j (h5 j hj).1 (h5 j hj).2), h3, fun j hj => ⟨(h4 j hj).1, by have := (h4 j hj).2; omega⟩, fun j hj => ⟨(h5 j hj).1, by have := (h5 j hj).2; omega⟩⟩
theorem Two.narrow {D D' : Nat → Prop} {w : World} {pA pB n : Nat} {q nx : List Nat} (h : Two D w pA pB n q nx) (hD : ∀ j, D j → j < w.heap.size → D' j) : Two D' w pA pB n q nx := by
  obtain ⟨FA, FB, h1, h2, h3, h4, h5⟩ := h
  exact ⟨FA, FB, h1, h2, h3, fun j hj => ⟨hD j (h4 j hj).1 (h4 j hj).2, (h4 j hj).2⟩, fun j hj => ⟨hD j (h5 j hj).1 (h5 j hj).2, (h5 j hj).2⟩⟩
theorem Two.places {D : Nat → Prop} {w : World} {pA pB n : Nat} {q nx : List Nat} (h : Two D w pA pB n q nx) : Places n q ∧ Places n nx := by
  obtain ⟨FA, FB, ⟨_, _, _, _, _, _, _, _, _, h1⟩, ⟨_, _, _, _, _, _, _, _, _, h2⟩, _⟩ := h
  exact ⟨h1, h2⟩
/-- The list's slice, as it is read. -/
theorem Two.read {D : Nat → Prop} {w : World} {pA pB n : Nat} {q nx : List Nat} (h : Two D w pA pB n q nx) : ∃ a c, w.cell? ⟨pA, 0, none⟩ = some (.slice a q.length c) ∧ Sl (fun _ => False) 1 (En encN) w (.slice a q.length c) q := by
  obtain ⟨FA, FB, ⟨lv, sb, hp, hl, _⟩, _⟩ := h
  obtain ⟨a, c, rfl⟩ := hl.slice
  exact ⟨a, c, hp.cell rfl, hl.sl.weaken (fun _ h => h.elim)⟩

theorem twoAdd_c {D : Nat → Prop} {w : World} {pA pB n : Nat} {q nx : List Nat} (h : Two D w pA pB n q nx) {k : Nat} (hk : k < n) (hn : n < 1000000) :
    Fun Tryd.prog 41 [.pointer (some ⟨pA, 0, none⟩), .int .i64 k] w fun _ w' => Two (fun j => D j ∨ w.heap.size ≤ j) w' pA pB n (addQ q k) nx ∧ Kept D w w' := by
  obtain ⟨FA, FB, h1, h2, h3, h4, h5⟩ := h
  refine (add_c pA n q FA k hk hn w h1).mono ?_
  rintro _ w' ⟨hk', hT⟩
  have hs := hk'.size
  refine ⟨⟨fun j => (FA j ∨ w.heap.size ≤ j) ∧ j < w'.heap.size, FB, ?_, h2.kept hk' (fun j hj hh => h3 j hh hj), fun j ⟨hj, _⟩ hb => ?_, fun j ⟨hj, hl⟩ => ⟨?_, hl⟩, fun j hj => ⟨.inl (h5 j hj).1, by have := (h5 j hj).2; omega⟩⟩, hk'.weaken (fun i _ hi => (h4 i hi).1)⟩
  · obtain ⟨lv, sb, g1, g2, g3, g4, g5, g6, g7, g8⟩ := hT
    exact ⟨lv, sb, g1, g2, g3, g4, fun g hg => ⟨(g5 g hg).1, (g5 g hg).2.1, (g5 g hg).2.2, (g2.block g hg).2⟩, ⟨g6, g1.lt⟩, ⟨g7, g3.lt⟩, g8⟩
  · rcases hj with hj | hj
    · exact h3 j hj hb
    · have := (h5 j hb).2; omega
  · rcases hj with hj | hj
    · exact .inl (h4 j hj).1
    · exact .inr hj

theorem twoClear_c {D : Nat → Prop} {w : World} {pA pB n : Nat} {q nx : List Nat} (h : Two D w pA pB n q nx) (hn : n < 1000000) :
    Fun Tryd.prog 43 [.pointer (some ⟨pA, 0, none⟩)] w fun _ w' => Two D w' pA pB n [] nx ∧ Kept D w w' := by
  obtain ⟨FA, FB, h1, h2, h3, h4, h5⟩ := h
  refine (clear_c pA n q FA hn w h1).mono ?_
  rintro _ w' ⟨hk', hT⟩
  have hs := hk'.size
  exact ⟨⟨FA, FB, hT, h2.kept hk' (fun j hj hh => h3 j hh hj), h3, fun j hj => ⟨(h4 j hj).1, by have := (h4 j hj).2; omega⟩, fun j hj => ⟨(h5 j hj).1, by have := (h5 j hj).2; omega⟩⟩, hk'.weaken (fun i _ hi => (h4 i hi).1)⟩

theorem makeK {P : Program} {bt e : TypeId} {bytes : Nat} {z : Value} {n : Nat} {t : Fr} {w : World} {K : VK} {Q : EP} {p} (hE : elI P bt = some (e, 1, bytes)) (hz : (P.info? e).bind (·.zero) = some z) (hz1 : oneCell z = true) (hb : bytes * n ≤ 281474976710656) (hn : n ≤ 140737488355328)
    (kk : ∀ w', New w w' e (List.replicate n z) → K (.slice (some ⟨w.heap.size, 0, none⟩) n n) w') : valK P (Instr.makeSlice bt (.int .i64 n) (.int .i64 n)) t w K Q p := by
  obtain ⟨hu, i, z', hi, hz', hk, rfl, hzs, _, _⟩ := elI_spec hE
  rw [hi] at hz
  simp only [Option.bind_some] at hz
  rw [hz'] at hz
  cases hz
  have := run_make (P := P) w bt e i z hu hi hz' .i64 .i64 n n (by omega) (Int.le_refl _) (by rw [← Int.natCast_mul]; omega) (by omega)
  refine valK_of this ?_
  simp only [Int.toNat_natCast]
  refine kk _ ⟨?_⟩
  congr 2
  have hzc : z.cells = #[z] := by cases z <;> simp_all [oneCell, Value.cells]
  rw [hzc, hk]
  apply Array.ext'
  simp only [madeCells, Array.toList_map, Array.toList_range]
  apply List.ext_getElem?
  intro j
  simp only [List.getElem?_map, List.getElem?_replicate, Nat.mul_one]
  by_cases hj : j < n
  · simp [hj, Nat.mod_one]
  · simp [hj]
end Go.Proofs.YtimjpijbcnjaaaaDoor
