import Derived.Test.YtplbgmoeannobaaGreatDoorVo
set_option linter.unusedSimpArgs false
set_option linter.unusedVariables false
namespace Go.Vc
open Go.RowKit
/-- A block that bytes of a text were laid in. -/
def Byt (w : World) (b : Nat) (e : TypeId) (l : List UInt8) : Prop :=
  ∃ (cs : Array Value) (n : Nat), w.heap[b]? = some (.cells cs e (n, n + 1)) ∧ cs.size ≤ n ∧ ∀ (j : Nat) (c : UInt8), l[j]? = some c → cs[j]? = some (Value.int IntKind.u8 (c.toNat : Int))

theorem Byt.lt {w : World} {b : Nat} {e : TypeId} {l : List UInt8} (h : Byt w b e l) : b < w.heap.size := by
  obtain ⟨cs, n, h, _⟩ := h
  exact (Array.getElem?_eq_some_iff.1 h).1
theorem Byt.cell {w : World} {b : Nat} {e : TypeId} {l : List UInt8} (h : Byt w b e l) {j : Nat} {c : UInt8} (hc : l[j]? = some c) : w.cell? ⟨b, j, none⟩ = some (.int .u8 (c.toNat : Int)) := by
  obtain ⟨cs, n, h, _, hh⟩ := h
  simp [World.cell?, h, hh j c hc]
theorem Byt.kept {X : Nat → Prop} {w w' : World} {b : Nat} {e : TypeId} {l : List UInt8} (h : Byt w b e l) (hk : Kept X w w') (hX : ¬ X b) : Byt w' b e l := by
  have hlt := h.lt
  obtain ⟨cs, n, h, r⟩ := h
  exact ⟨cs, n, (hk.block b hlt hX).trans h, r⟩
theorem Byt.sl {w : World} {b cap : Nat} {e : TypeId} {l : List UInt8} (h : Byt w b e l) (hc : l.length ≤ cap) : Sl (fun _ => False) 1 (En encB) w (.slice (some ⟨b, 0, none⟩) l.length cap) l := by
  unfold Sl
  refine ⟨_, _, rfl, hc, fun i x hx => ⟨b, 0, encB x, rfl, id, rfl, fun j u hu => ?_, rfl⟩⟩
  have hj : j = 0 := by have := (List.getElem?_eq_some_iff.1 hu).1; simp [encB] at this; omega
  subst hj
  simp [encB] at hu
  subst hu
  simpa using h.cell hx

theorem bytesK {P : Program} {s d e : TypeId} {l : List UInt8} {t : Fr} {w : World} {K : VK} {Q : EP} {p} (hs : P.underlying s = some .string) (hd : P.underlying d = some (.slice e)) (he : P.underlying e = some (.int .u8))
    (kk : ∀ c w', l.length ≤ c → Byt w' w.heap.size e l → Below w.heap.size w w' → K (.slice (some ⟨w.heap.size, 0, none⟩) l.length c) w') : valK P (convert s d (str l)) t w K Q p := by
  have hr := run_bytes_of_string (P := P) w s d e ⟨l.toArray⟩ hs hd he
  have hsz : ByteArray.size ⟨l.toArray⟩ = l.length := by simp [ByteArray.size]
  refine valK_of hr ?_
  rw [hsz]
  refine kk _ _ (grownCap_ge _ _ _ _) ⟨bytesRow ⟨l.toArray⟩ (grownCap w l.length 0 e), (bytesRow ⟨l.toArray⟩ (grownCap w l.length 0 e)).size, ?_, Nat.le_refl _, fun j c hj => ?_⟩ ((Below.refl w.heap.size w).drew.alloc (Nat.le_refl _) _)
  · exact heap_alloc_new w.drew _
  · have hlt := (List.getElem?_eq_some_iff.1 hj).1
    have := bytesRow_at ⟨l.toArray⟩ (grownCap w l.length 0 e) j (by simpa using hlt)
    rw [this]
    have : l[j]? = some l[j] := List.getElem?_eq_getElem hlt
    rw [this] at hj
    cases hj
    simp
end Go.Vc
