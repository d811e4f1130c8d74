import Derived.Test.YtimjpijbcnjaaaaDoorVd
import Derived.Laws.BytesArg
namespace Go.Vc
open Go.RowKit

/-! ### Memory -/

/-- The slice value v reads as l: k cells an element, told by R; no block of X is read. -/
def Sl {α : Type} (X : Nat → Prop) (k : Nat) (R : List Value → α → Prop) (w : World) (v : Value) (l : List α) : Prop :=
  ∃ a c, v = .slice a l.length c ∧ l.length ≤ c ∧ ∀ i x, l[i]? = some x → ∃ b o cs, a = some ⟨b, o, none⟩ ∧ ¬ X b ∧ cs.length = k ∧ (∀ j u, cs[j]? = some u → w.cell? ⟨b, o + i * k + j, none⟩ = some u) ∧ R cs x

theorem Sl.mono {α : Type} {X X' : Nat → Prop} {k : Nat} {R R' : List Value → α → Prop} {w w' : World} {v : Value} {l : List α} (h : Sl X k R w v l) (hs : ∀ b, ¬ X b → b < w.heap.size → w'.heap[b]? = w.heap[b]?)
    (hR : ∀ cs x, x ∈ l → R cs x → R' cs x) (hX : ∀ b, X' b → X b) : Sl X' k R' w' v l := by
  obtain ⟨a, c, rfl, hc, h⟩ := h
  refine ⟨a, c, rfl, hc, fun i x hx => ?_⟩
  obtain ⟨b, o, cs, ha, hb, hk, hcell, hr⟩ := h i x hx
  refine ⟨b, o, cs, ha, fun hh => hb (hX b hh), hk, fun j u hu => ?_, hR _ _ (List.mem_of_getElem? hx) hr⟩
  have hc := hcell j u hu
  exact (World.cell?_of_block (w := w) (hs b hb (World.block_lt_of_cell? w _ hc))).trans hc

/-- Elements that are just their cells. -/
abbrev En {α : Type} (enc : α → List Value) : List Value → α → Prop := fun cs x => cs = enc x

theorem Sl.below {α : Type} {X : Nat → Prop} {k : Nat} {R : List Value → α → Prop} {w w' : World} {v : Value} {l : List α} (h : Sl X k R w v l) (hb : Below w.heap.size w w') : Sl X k R w' v l :=
  h.mono (fun b _ hlt => hb.block b hlt) (fun _ _ _ h => h) (fun _ h => h)

theorem Sl.weaken {α : Type} {X X' : Nat → Prop} {k : Nat} {R : List Value → α → Prop} {w : World} {v : Value} {l : List α} (h : Sl X k R w v l) (hX : ∀ b, X' b → X b) : Sl X' k R w v l :=
  h.mono (fun _ _ _ => rfl) (fun _ _ _ h => h) hX

theorem Sl.nil {α : Type} (X : Nat → Prop) (k : Nat) (R : List Value → α → Prop) (w : World) (c : Nat) (a : Option Addr) : Sl X k R w (.slice a 0 c) ([] : List α) := ⟨a, c, rfl, Nat.zero_le _, fun i x hx => by simp at hx⟩

theorem cellsAt_of {w : World} {b o : Nat} : ∀ (cs : List Value) (i : Nat), (∀ j u, cs[j]? = some u → w.cell? ⟨b, o + (i + j), none⟩ = some u) → cellsAt w ⟨b, o, none⟩ i cs.length = some cs
  | [], _, _ => rfl
  | c :: cs, i, h => by
    have h0 := h 0 c rfl
    have h1 := cellsAt_of cs (i + 1) (fun j u hu => by have := h (j + 1) u (by simpa using hu); rwa [show i + (j + 1) = i + 1 + j by omega] at this)
    simp only [List.length_cons, cellsAt, add_lit, h1]
    rw [show o + i = o + (i + 0) by omega, h0]

/-- A slice that the call itself has made and goes on making. -/
def Own {α : Type} (base : Nat) (e : TypeId) (k : Nat) (enc : α → List Value) (w : World) (v : Value) (l : List α) : Prop := w.ownsRow base e k v l.length (l.flatMap enc) ∧ ∀ x, (enc x).length = k

theorem flatMap_get {α : Type} {enc : α → List Value} {k : Nat} (hk : ∀ x, (enc x).length = k) : ∀ (l : List α) (i j : Nat) (x : α) (u : Value), l[i]? = some x → (enc x)[j]? = some u → (l.flatMap enc)[i * k + j]? = some u
  | [], i, j, x, u, h, _ => by simp at h
  | y :: l, 0, j, x, u, h, hu => by
    simp at h; subst h
    simp only [List.flatMap_cons, Nat.zero_mul, Nat.zero_add]
    rw [List.getElem?_append_left (List.getElem?_eq_some_iff.1 hu).1]
    exact hu
  | y :: l, i + 1, j, x, u, h, hu => by
    simp only [List.flatMap_cons]
    rw [List.getElem?_append_right (by rw [hk]; simp [Nat.add_mul]; omega), hk, show (i + 1) * k + j - k = i * k + j by rw [Nat.add_mul]; omega]
    exact flatMap_get hk l i j x u (by simpa using h) hu

theorem Own.sl {α : Type} {base : Nat} {e : TypeId} {k : Nat} {enc : α → List Value} {w : World} {v : Value} {l : List α} (h : Own base e k enc w v l) : Sl (· < base) k (En enc) w v l := by
  obtain ⟨h, hk⟩ := h
  rcases h.2 with ⟨rfl, h0⟩ | ⟨g, cap, cur, rfl, hb, hg, hn, _, hs, ht⟩
  · have : l = [] := List.eq_nil_of_length_eq_zero h0
    subst this
    exact Sl.nil _ _ _ _ _ _
  · refine ⟨_, cap, rfl, hn, fun i x hx => ⟨g, 0, enc x, rfl, by omega, hk x, fun j u hu => ?_, rfl⟩⟩
    have hjk : j < k := by have := (List.getElem?_eq_some_iff.1 hu).1; rw [hk] at this; exact this
    have hil : i < l.length := (List.getElem?_eq_some_iff.1 hx).1
    have hlt : i * k + j < l.length * k := by
      have : (i + 1) * k ≤ l.length * k := Nat.mul_le_mul_right k hil
      rw [Nat.add_mul] at this
      omega
    have h1 := flatMap_get hk l i j x u hx hu
    rw [← ht, List.getElem?_take, if_pos hlt] at h1
    rw [cell_of_row w g _ cur e (0, 0) hg]
    rw [Nat.zero_add]
    simpa using h1

theorem Sl.shape {α : Type} {X : Nat → Prop} {k : Nat} {R : List Value → α → Prop} {w : World} {v : Value} {l : List α} (h : Sl X k R w v l) : ∃ a c, v = .slice a l.length c ∧ l.length ≤ c := by
  obtain ⟨a, c, h, hc, _⟩ := h
  exact ⟨a, c, h, hc⟩
theorem Sl.get {α : Type} {X : Nat → Prop} {k : Nat} {enc : α → List Value} {w : World} {a : Option Addr} {n c : Nat} {l : List α} (h : Sl X k (En enc) w (.slice a n c) l) {i : Nat} {x : α} (hx : l[i]? = some x) :
    ∃ b o, a = some ⟨b, o, none⟩ ∧ ¬ X b ∧ ∀ j u, (enc x)[j]? = some u → w.cell? ⟨b, o + i * k + j, none⟩ = some u := by
  obtain ⟨a', c', he, _, h⟩ := h
  obtain ⟨b, o, cs, ha, hX, _, hc, hr⟩ := h i x hx
  cases he
  subst hr
  exact ⟨b, o, ha, hX, hc⟩
theorem lt_get {α : Type} {l : List α} {i : Nat} (h : i < l.length) : ∃ x, l[i]? = some x ∧ x ∈ l ∧ l.drop i = x :: l.drop (i + 1) ∧ l.take (i + 1) = l.take i ++ [x] := by
  refine ⟨l[i], List.getElem?_eq_getElem h, List.getElem_mem h, List.drop_eq_getElem_cons h, ?_⟩
  rw [List.take_add_one, List.getElem?_eq_getElem h]; rfl

theorem Own.nil {α : Type} (base : Nat) (e : TypeId) {k : Nat} {enc : α → List Value} (hk : ∀ x, (enc x).length = k) (w : World) : Own base e k enc w (.slice none 0 0) ([] : List α) :=
  ⟨World.ownsRow_nil w base e k, hk⟩

theorem Own.mono {α : Type} {base base' : Nat} {e : TypeId} {k : Nat} {enc : α → List Value} {w : World} {v : Value} {l : List α} (h : Own base e k enc w v l) (hb : base' ≤ base) : Own base' e k enc w v l :=
  ⟨⟨h.1.1, h.1.2.imp id fun ⟨g, cap, cur, h1, h2, h3⟩ => ⟨g, cap, cur, h1, Nat.le_trans hb h2, h3⟩⟩, h.2⟩
theorem Own.slice {α : Type} {base : Nat} {e : TypeId} {k : Nat} {enc : α → List Value} {w : World} {v : Value} {l : List α} (h : Own base e k enc w v l) : ∃ a c, v = .slice a l.length c := by
  rcases h.1.2 with ⟨rfl, h0⟩ | ⟨g, cap, cur, rfl, _⟩
  · exact ⟨none, 0, by rw [h0]⟩
  · exact ⟨_, cap, rfl⟩

theorem Own.below {α : Type} {base : Nat} {e : TypeId} {k : Nat} {enc : α → List Value} {w w' : World} {v : Value} {l : List α} (h : Own base e k enc w v l) (hb : Below w.heap.size w w') : Own base e k enc w' v l := by
  refine ⟨h.1.kept (w' := w') (row := none) ⟨hb.os, hb.tape, hb.output, hb.size, fun k hk _ => hb.block k hk⟩ ?_, h.2⟩
  cases v.ownBlock <;> simp

/-- A slice type's element: its number, its cells, its bytes. -/
def elI (P : Program) (t : TypeId) : Option (TypeId × Nat × Nat) := match P.underlying t with
  | some (.slice e) => match P.info? e with
    | some i => match i.zero with
      | some z => if z.cells.size = i.size ∧ 0 < i.size ∧ 0 < i.bytes then some (e, i.size, i.bytes) else none
      | none => none
    | none => none
  | _ => none

theorem elI_spec {P : Program} {t e : TypeId} {k bytes : Nat} (h : elI P t = some (e, k, bytes)) :
    P.underlying t = some (.slice e) ∧ ∃ i z, P.info? e = some i ∧ i.zero = some z ∧ i.size = k ∧ i.bytes = bytes ∧ z.cells.size = k ∧ 0 < k ∧ 0 < bytes := by
  unfold elI at h
  split at h
  · rename_i e' hu
    split at h
    · rename_i i hi
      split at h
      · rename_i z hz
        split at h
        · rename_i hh
          cases h
          exact ⟨hu, i, z, hi, hz, rfl, rfl, hh.1, hh.2⟩
        · cases h
      · cases h
    · cases h
  · cases h

/-- A new block. -/
structure New (w w' : World) (e : TypeId) (cs : List Value) : Prop where
  is : w' = w.alloc (.cells cs.toArray e)

theorem New.below {w w' : World} {e : TypeId} {cs : List Value} (h : New w w' e cs) : Below w.heap.size w w' := by rw [h.is]; exact (Below.refl _ _).alloc (Nat.le_refl _) _
theorem New.size {w w' : World} {e : TypeId} {cs : List Value} (h : New w w' e cs) : w'.heap.size = w.heap.size + 1 := by rw [h.is]; simp
theorem New.block {w w' : World} {e : TypeId} {cs : List Value} (h : New w w' e cs) : w'.heap[w.heap.size]? = some (.cells cs.toArray e (0, 0)) := by rw [h.is]; exact heap_alloc_new w _
theorem New.cell {w w' : World} {e : TypeId} {cs : List Value} (h : New w w' e cs) {j : Nat} {u : Value} (hu : cs[j]? = some u) : w'.cell? ⟨w.heap.size, j, none⟩ = some u := by
  rw [h.is, World.cell?_alloc_new]; simpa using hu
theorem New.cell0 {w w' : World} {e : TypeId} {u : Value} {cs : List Value} (h : New w w' e (u :: cs)) : w'.cell? ⟨w.heap.size, 0, none⟩ = some u := h.cell rfl

theorem Below.own {base : Nat} {w0 w w' : World} (h : Below base w0 w) (h' : Below w.heap.size w w') (hb : base ≤ w.heap.size) : Below base w0 w' := h.trans (h'.mono hb)

section
variable {P : Program} {t : Fr} {w : World} {K : VK} {Q : EP}

theorem boxK_of {e : TypeId} {v : Value} {p} (k : ∀ w', New w w' e (cellsL v) → K (.pointer (some ⟨w.heap.size, 0, none⟩)) w') : boxK e v w K p :=
  k _ ⟨by rw [← cellsL_eq]⟩

/-- The cells of a literal's parts. -/
def partCells : List (Nat × Value) → List Value
  | [] => []
  | (_, v) :: r => cellsL v ++ partCells r
theorem partCells_nil : partCells [] = [] := (rfl)
theorem partCells_cons (i v r) : partCells ((i, v) :: r) = cellsL v ++ partCells r := (rfl)

/-- The parts stand in order, each of k cells. -/
def partsOk (k : Nat) : Nat → List (Nat × Value) → Bool
  | _, [] => true
  | i, (j, v) :: r => i == j && sizeOk (cellsL v) k && partsOk k (i + 1) r

theorem fill_row (k : Nat) : ∀ (parts : List (Nat × Value)) (i : Nat) (l1 l2 : List Value), partsOk k i parts = true → l1.length = i * k → l2.length = parts.length * k →
    Instr.fill (fun i => some (i * k, k)) (l1 ++ l2).toArray parts = some (l1 ++ partCells parts).toArray
  | [], i, l1, l2, _, _, h2 => by
    have : l2 = [] := List.eq_nil_of_length_eq_zero (by simpa using h2)
    simp [Instr.fill, partCells, this]
  | (j, v) :: r, i, l1, l2, h, h1, h2 => by
    simp only [partsOk, Bool.and_eq_true, beq_iff_eq] at h
    obtain ⟨⟨rfl, hs⟩, hr⟩ := h
    have h3 := sizeOk_spec _ _ hs
    have h4 : v.cells.size = k := by rw [← h3, ← cellsL_eq, Array.length_toList]
    simp only [List.length_cons, Nat.add_mul, Nat.one_mul] at h2
    simp only [Instr.fill]
    rw [if_neg (by simp [h4, h1]; omega)]
    have e1 : (v.cells.zipIdx.foldl (fun cs (x : Value × Nat) => match x with | (c, j) => cs.setIfInBounds (i * k + j) c) (l1 ++ l2).toArray) = ((l1 ++ cellsL v) ++ l2.drop k).toArray := by
      apply Array.ext'
      rw [← Array.foldl_toList]
      have : ∀ (ps : List (Value × Nat)) (a : Array Value), (ps.foldl (fun cs (x : Value × Nat) => match x with | (c, j) => cs.setIfInBounds (i * k + j) c) a).toList = ps.foldl (fun a p => a.set (i * k + p.2) p.1) a.toList := by
        intro ps
        induction ps with
        | nil => intro a; rfl
        | cons p ps ih => intro a; simp only [List.foldl_cons, ih, Array.toList_setIfInBounds]
      rw [this, Array.toList_zipIdx, cellsL_eq]
      have h5 := splice_fold (cellsL v) (i * k) 0 (l1 ++ l2)
      rw [Nat.add_zero] at h5
      rw [h5, ← h1]
      have sp1 : ∀ (cs l : List Value), cs.length ≤ l.length → splice l 0 cs = cs ++ l.drop cs.length := by
        intro cs
        induction cs with
        | nil => intro l _; cases l <;> simp [splice]
        | cons c cs ih => intro l hl; cases l with
          | nil => simp at hl
          | cons x l => simp only [splice, List.cons_append, List.length_cons, List.drop_succ_cons]; rw [ih l (by simpa using hl)]
      have sp2 : ∀ (a b cs : List Value), splice (a ++ b) a.length cs = a ++ splice b 0 cs := by
        intro a
        induction a with
        | nil => intro b cs; rfl
        | cons x a ih => intro b cs; simp only [List.cons_append, List.length_cons, splice, ih]
      rw [sp2, sp1 _ _ (by omega), h3]
      simp
    rw [e1, fill_row k r (i + 1) (l1 ++ cellsL v) (l2.drop k) hr (by simp [h1, h3, Nat.add_mul]) (by simp; omega)]
    simp [partCells]

theorem rowK {bt e : TypeId} {k bytes n : Nat} {parts : List (Nat × Value)} {p} (hE : elI P bt = some (e, k, bytes)) (hp : partsOk k 0 parts = true) (hl : parts.length = n) (hn : n * k ≤ 16777216)
    (kk : ∀ w', New w w' e (partCells parts) → K (.slice (some ⟨w.heap.size, 0, none⟩) n n) w') : valK P (Instr.buildSlice bt n parts.toArray) t w K Q p := by
  obtain ⟨hu, i, z, hi, hz, rfl, rfl, hzs, hk, _⟩ := elI_spec hE
  refine valK_of (w' := w.alloc (.cells (partCells parts).toArray e)) ?_ (kk _ ⟨rfl⟩)
  have hf := fun (l2 : List Value) (h2 : l2.length = parts.length * i.size) => fill_row i.size parts 0 [] l2 hp (by simp) h2
  simp only [List.nil_append] at hf
  have hf' := hf ((Array.range (n * i.size)).map (z.cells[· % z.cells.size]!)).toList (by simp [hl])
  simp only [Array.toArray_toList] at hf'
  by_cases h0 : n * i.size = 0
  · have hn0 : n = 0 := by rcases Nat.mul_eq_zero.1 h0 with h | h <;> omega
    subst hn0
    have : parts = [] := List.eq_nil_of_length_eq_zero hl
    subst this
    simp [Instr.buildSlice, run_underlying hu, sizeOf, typeInfo, hi, Instr.fill, newRow, partCells, Array.range_zero']
  · simp [Instr.buildSlice, run_underlying hu, sizeOf, typeInfo, hi, zeroValue, hz, h0, show ¬ 16777216 < n * i.size by omega, hf', newRow]

theorem appendK {α : Type} {bt ty e : TypeId} {k bytes base : Nat} {enc : α → List Value} {v : Value} {l ys : List α} {b o c : Nat} {p} (hE : elI P bt = some (e, k, bytes)) (hown : Own base e k enc w v l)
    (hy : ∀ j u, (ys.flatMap enc)[j]? = some u → w.cell? ⟨b, o + j, none⟩ = some u) (h1 : ∀ x, ∀ u ∈ enc x, u.oneCell' = true)
    (hm : (l.length + ys.length) * bytes ≤ 140737488355328) (hbase : base ≤ w.heap.size)
    (kk : ∀ v' w', Own base e k enc w' v' (l ++ ys) → w.grownBy w' v.ownBlock → Below base w w' → K v' w') : valK P (Builtin.append_ #[bt, bt] ty [v, .slice (some ⟨b, o, none⟩) ys.length c].toArray) t w K Q p := by
  obtain ⟨hu, i, z, hi, hz, rfl, rfl, hzs, hk, hby⟩ := elI_spec hE
  have hlen : ∀ (ys : List α), (ys.flatMap enc).length = ys.length * i.size := by
    intro ys
    induction ys with
    | nil => simp
    | cons y ys ih => simp [List.flatMap_cons, hown.2, ih, Nat.add_mul]; omega
  have hle : l.length + ys.length ≤ 140737488355328 := Nat.le_trans (Nat.le_mul_of_pos_right _ hby) hm
  obtain ⟨v', w', hr, ho, hg, _⟩ := run_append_own (P := P) w base bt ty e i z i.size i.bytes hu hi hz rfl rfl hzs hk v l.length (l.flatMap enc) hown.1 ⟨b, o, none⟩ ys.length c (ys.flatMap enc) (hlen ys)
    (fun j u hj => by rw [add_lit]; exact hy j u hj) (fun u hu' => by obtain ⟨x, _, hx⟩ := List.mem_flatMap.1 hu'; exact h1 x u hx) (by simp only [maxLen]; omega) hm hbase
  refine valK_of hr (kk v' w' ⟨by simpa [List.flatMap_append] using ho, hown.2⟩ hg ?_)
  exact (Below.refl _ _).grown hg hbase fun k hk => (hown.1.lt k hk).1

theorem appendK' {α : Type} {bt ty e : TypeId} {k bytes base n : Nat} {enc : α → List Value} {v : Value} {l : List α} (ys : List α) {b o c : Nat} {p} (hE : elI P bt = some (e, k, bytes)) (hown : Own base e k enc w v l) (hn : ys.length = n)
    (hy : ∀ j u, (ys.flatMap enc)[j]? = some u → w.cell? ⟨b, o + j, none⟩ = some u) (h1 : ∀ x, ∀ u ∈ enc x, u.oneCell' = true)
    (hm : (l.length + ys.length) * bytes ≤ 140737488355328) (hbase : base ≤ w.heap.size)
    (kk : ∀ v' w', Own base e k enc w' v' (l ++ ys) → w.grownBy w' v.ownBlock → Below base w w' → K v' w') : valK P (Builtin.append_ #[bt, bt] ty [v, .slice (some ⟨b, o, none⟩) n c].toArray) t w K Q p := by
  subst hn
  exact appendK hE hown hy h1 hm hbase kk

theorem strK_nil {s d e : TypeId} {n c : Nat} {p} (hs : P.underlying s = some (.slice e)) (he : P.underlying e = some (.int .u8)) (hd : P.underlying d = some .string) (k : K (str []) w) : valK P (convert s d (.slice none n c)) t w K Q p :=
  valK_of (run_convert_bytes_nil w s e hs he n c d hd) k

/-- Bytes as a string. -/
def encB (b : UInt8) : List Value := [.int .u8 b.toNat]

theorem strK {s d e : TypeId} {v : Value} {l : List UInt8} {X : Nat → Prop} {p} (hs : P.underlying s = some (.slice e)) (he : P.underlying e = some (.int .u8)) (hd : P.underlying d = some .string) (hl : Sl X 1 (En encB) w v l) (k : K (str l) w) :
    valK P (convert s d v) t w K Q p := by
  obtain ⟨a, c, rfl, hc, h⟩ := hl
  by_cases h0 : l = []
  · subst h0
    cases a with
    | none => exact strK_nil hs he hd k
    | some a =>
      refine valK_of ?_ k
      rw [run_convert_bytes_string w s d e _ _ c hs he hd, run_bytesToString w a _ c [] (by rfl)]
      rfl
  · obtain ⟨x, l', rfl⟩ := List.exists_cons_of_ne_nil h0
    obtain ⟨b, o, cs, rfl, _, _, _, _⟩ := h 0 x rfl
    have hcell : ∀ i, i < (x :: l').length → w.cell? ⟨b, o + i, none⟩ = some (.int .u8 (((x :: l').map fun b => (b.toNat : Int)).getD i 0)) := by
      intro i hi
      obtain ⟨b', o', cs, hb', _, _, hcc, rfl⟩ := h i (x :: l')[i] (by simp)
      cases hb'
      have := hcc 0 _ rfl
      rw [Nat.mul_one, Nat.add_zero] at this
      rw [this, List.getD_eq_getElem?_getD, List.getElem?_map, List.getElem?_eq_getElem hi]
      rfl
    have hr := run_convert_bytes_arg (P := P) w s e hs he b o (x :: l').length c ((x :: l').map fun b => (b.toNat : Int)) (by simp) hcell d hd
    refine valK_of hr ?_
    have e2 : Value.string (strOfNums ((x :: l').map fun b => (b.toNat : Int))) = str (x :: l') := by
      simp only [str, strOfNums]
      congr 3
      rw [List.map_map]
      conv => rhs; rw [← List.map_id (x :: l')]
      apply List.map_congr_left
      intro b _
      simp
    rw [e2]; exact k
end
attribute [push_cast] partCells_nil partCells_cons Nat.add_zero Nat.mul_one
end Go.Vc
