import Derived.Test.YtplbgmoeannobaaGreatDoorV
set_option linter.unusedSimpArgs false
set_option linter.unusedVariables false
namespace Go.Vc
open Go.RowKit

theorem eqn3 {L : VP} {other : Prop} (c : Bool) (n k n' k' : Nat) (p) : eqNilK 3 c .eql (.slice none n k) (.slice none n' k') L other p = L (.bool true) := by cases c <;> rfl
theorem eqs3 {L : VP} {other : Prop} (c : Bool) (a : Addr) (n k n' k' : Nat) (p) : eqNilK 3 c .eql (.slice (some a) n k) (.slice none n' k') L other p = L (.bool false) := by cases c <;> rfl

/-- What is owned at two types lies in two blocks. -/
theorem ownNe {α β : Type} {w : World} {base base' k k' : Nat} {e e' : TypeId} {enc : α → List Value} {enc' : β → List Value} {v v' : Value} {l : List α} {l' : List β} (h : Own base e k enc w v l) (h' : Own base' e' k' enc' w v' l') (hne : e ≠ e') : ∀ g, v.ownBlock = some g → v'.ownBlock ≠ some g := fun g hg hg' => by
  rcases h.1.2 with ⟨he, _⟩ | ⟨g1, cap, cur, he, _, h1, _⟩
  · rw [he] at hg; cases hg
  · rcases h'.1.2 with ⟨he', _⟩ | ⟨g2, cap', cur', he', _, h2, _⟩
    · rw [he'] at hg'; cases hg'
    · rw [he] at hg
      rw [he'] at hg'
      have e1 : g1 = g := by simpa [Value.ownBlock] using hg
      have e2 : g2 = g := by simpa [Value.ownBlock] using hg'
      subst e1 e2
      rw [h1] at h2
      cases h2
      exact hne rfl
/-- A slice over a block that is told. -/
theorem slBlk {α : Type} {f : α → Value} {w : World} {b c n : Nat} {e : TypeId} {l : List α} (hB : Blk w b e (l.map f)) (hn : n = l.length) (hc : l.length ≤ c) : Sl (fun _ => False) 1 (En (fun x => [f x])) w (.slice (some ⟨b, 0, none⟩) n c) l := by
  subst hn
  refine ⟨_, _, rfl, hc, fun i x hx => ⟨b, 0, [f x], rfl, id, rfl, fun j u hu => ?_, rfl⟩⟩
  cases j with
  | zero =>
    simp at hu; subst hu
    rw [Nat.mul_one, Nat.add_zero, Nat.zero_add]
    exact hB.cell (by rw [List.getElem?_map, hx]; rfl)
  | succ j => simp at hu

/-! Maps. -/
theorem beq_dec {α : Type} [DecidableEq α] [BEq α] [LawfulBEq α] (a b : α) : (a == b) = decide (a = b) := by
  by_cases h : a = b
  · subst h; simp
  · rw [decide_eq_false h]; exact beq_eq_false_iff_ne.2 h
theorem beq_str (a b : List UInt8) : ((⟨a.toArray⟩ : ByteArray) == ⟨b.toArray⟩) = decide (a = b) := by
  show (a.toArray == b.toArray) = _
  rw [List.beq_toArray]
  exact beq_dec a b

section
set_option linter.unusedSectionVars false
variable {P : Program} {α : Type} [DecidableEq α]

/-- A kind of keys. -/
structure KeyOk (P : Program) (kt : TypeId) (key : α → Value) : Prop where
  und : ∃ d, P.underlying kt = some d ∧ ∀ a b, Instr.sameNow d (key a) (key b) = some (decide (a = b))
  bits : ∀ n a, Instr.sameBits n (key a) (key a) = true
  check : ∀ em n a w, (Instr.checkKey em (n + 1) kt (key a)).run P w = .ok () w

theorem keyInt {kt : TypeId} (hk : P.underlying kt = some (.int .i64)) : KeyOk P kt (fun n : Int => Value.int .i64 n) where
  und := ⟨_, hk, fun a b => by simp only [Instr.sameNow, if_true, Option.some.injEq]; exact (beq_dec a b)⟩
  bits := fun n a => by cases n <;> simp [Instr.sameBits]
  check := fun em n a w => by simp [Instr.checkKey, run_underlying hk]
theorem keyNat {kt : TypeId} (hk : P.underlying kt = some (.int .i64)) : KeyOk P kt (fun n : Nat => Value.int .i64 (n : Int)) where
  und := ⟨_, hk, fun a b => by simp only [Instr.sameNow, if_true, Option.some.injEq]; rw [beq_dec, decide_eq_decide]; exact Int.ofNat_inj⟩
  bits := fun n a => by cases n <;> simp [Instr.sameBits]
  check := fun em n a w => by simp [Instr.checkKey, run_underlying hk]
theorem keyStr {kt : TypeId} (hk : P.underlying kt = some .string) : KeyOk P kt (fun l : List UInt8 => str l) where
  und := ⟨_, hk, fun a b => by
    simp only [str, Instr.sameNow, Option.some.injEq]
    exact beq_str a b⟩
  bits := fun n a => by have := (beq_str a a).trans (decide_eq_true rfl); cases n <;> simpa [str, Instr.sameBits] using this
  check := fun em n a w => by simp [str, Instr.checkKey, run_underlying hk]

def MapG (key : α → Value) (w : World) (b : Nat) (kvs : List (α × Value)) : Prop :=
  ∃ (es : Array MapEntry) (clock : Nat), w.heap[b]? = some (.map es clock) ∧ (es.toList.map fun e => (e.key, e.val)) = kvs.map fun p => (key p.1, p.2)
def assocG (k : α) : List (α × Value) → Option Value
  | [] => none
  | p :: r => if k = p.1 then some p.2 else assocG k r
def putG (k : α) (v : Value) : List (α × Value) → List (α × Value)
  | [] => [(k, v)]
  | p :: r => if k = p.1 then (p.1, v) :: r else p :: putG k v r

variable {key : α → Value}
theorem MapG.kept {X : Nat → Prop} {w w' : World} {b : Nat} {kvs : List (α × Value)} (h : MapG key w b kvs) (hk : Kept X w w') (hX : ¬ X b) : MapG key w' b kvs := by
  obtain ⟨es, clock, h1, h2⟩ := h
  exact ⟨es, clock, (hk.block b (Array.getElem?_eq_some_iff.1 h1).1 hX).trans h1, h2⟩
theorem MapG.lt {w : World} {b : Nat} {kvs : List (α × Value)} (h : MapG key w b kvs) : b < w.heap.size := by
  obtain ⟨es, clock, h1, h2⟩ := h
  exact (Array.getElem?_eq_some_iff.1 h1).1
theorem MapG.below {B : Nat} {w w' : World} {b : Nat} {kvs : List (α × Value)} (h : MapG key w b kvs) (hk : Below B w w') (hX : b < B) : MapG key w' b kvs := by
  obtain ⟨es, clock, h1, h2⟩ := h
  exact ⟨es, clock, (hk.block b hX).trans h1, h2⟩

theorem findNow_G {d : TypeDesc} (hd : ∀ a b, Instr.sameNow d (key a) (key b) = some (decide (a = b))) (k : α) : ∀ (es : List MapEntry) (kvs : List (α × Value)) (i : Nat), (es.map fun e => (e.key, e.val)) = (kvs.map fun p => (key p.1, p.2)) →
    ∃ r, Instr.findNow d (key k) es i = some r ∧ ((∃ j e u, r = some (j, u) ∧ i ≤ j ∧ es[j - i]? = some e ∧ e.key = key k ∧ assocG k kvs = some u ∧ ∀ v, (es.modify (j - i) (fun e => { e with key := key k, val := v })).map (fun e => (e.key, e.val)) = (putG k v kvs).map fun p => (key p.1, p.2)) ∨
      (r = none ∧ assocG k kvs = none ∧ ∀ v, putG k v kvs = kvs ++ [(k, v)]))
  | [], [], i, _ => ⟨none, rfl, .inr ⟨rfl, rfl, fun _ => rfl⟩⟩
  | [], _ :: _, _, h => by simp at h
  | _ :: _, [], _, h => by simp at h
  | e :: es, p :: kvs, i, h => by
    simp only [List.map_cons, List.cons.injEq, Prod.mk.injEq] at h
    obtain ⟨⟨h1, h2⟩, h3⟩ := h
    rw [Instr.findNow, h1, hd]
    by_cases hx : k = p.1
    · rw [decide_eq_true hx]
      refine ⟨some (i, e.val), rfl, .inl ⟨i, e, e.val, rfl, Nat.le_refl _, by simp, by rw [h1, hx], by rw [assocG, if_pos hx, h2], fun v => ?_⟩⟩
      rw [Nat.sub_self, putG, if_pos hx]
      simp [h3, hx]
    · rw [decide_eq_false hx]
      obtain ⟨r, hr, hh⟩ := findNow_G hd k es kvs (i + 1) h3
      refine ⟨r, hr, ?_⟩
      rcases hh with ⟨j, e', u, h4, h5, h6, h7, h8, h9⟩ | ⟨h4, h5, h6⟩
      · refine .inl ⟨j, e', u, h4, by omega, ?_, h7, by rw [assocG, if_neg hx, h8], fun v => ?_⟩
        · rw [show j - i = (j - (i + 1)) + 1 by omega]
          simpa using h6
        · rw [show j - i = (j - (i + 1)) + 1 by omega, putG, if_neg hx]
          simp only [List.modify_succ_cons, List.map_cons, h1, h2]
          rw [h9 v]
      · exact .inr ⟨h4, by rw [assocG, if_neg hx, h5], fun v => by rw [putG, if_neg hx, h6 v]; rfl⟩

theorem lookup_runG {mt kt et : TypeId} {w : World} {b : Nat} {kvs : List (α × Value)} {z : Value} (hm : P.underlying mt = some (.map kt et)) (hk : KeyOk P kt key) (hz : (P.info? et).bind (·.zero) = some z) (h : MapG key w b kvs) (k : α) (c : Bool) :
    (Instr.lookup mt (.map (some b)) (key k) c).run P w = .ok (if c then .tuple #[(assocG k kvs).getD z, .bool (assocG k kvs).isSome] else (assocG k kvs).getD z) w := by
  obtain ⟨es, clock, h1, h2⟩ := h
  obtain ⟨i, hi, hz⟩ := Option.bind_eq_some_iff.1 hz
  obtain ⟨d, hd, hs⟩ := hk.und
  obtain ⟨r, hr, hh⟩ := findNow_G hs k es.toList kvs 0 h2
  have hck : (Instr.checkKey es.isEmpty 10000 kt (key k)).run P w = .ok () w := hk.check _ 9999 k w
  have hfk : (Instr.findKey kt (key k) es.toList).run P w = .ok r w := by simp [Instr.findKey, run_underlying hd, hr]
  have hgo : (getObj b).run P w = .ok (.map es clock) w := by simp [getObj, Sem.run, h1]
  rcases hh with ⟨j, e, u, rfl, _, _, _, ha, _⟩ | ⟨rfl, ha, _⟩
  · simp [Instr.lookup, run_underlying hm, hgo, hck, hfk, ha]
  · simp [Instr.lookup, run_underlying hm, hgo, hck, hfk, ha, zeroValue, typeInfo, hi, hz]
theorem lookup_nilG {mt kt et : TypeId} {w : World} {z : Value} (hm : P.underlying mt = some (.map kt et)) (hk : KeyOk P kt key) (hz : (P.info? et).bind (·.zero) = some z) (k : α) (c : Bool) :
    (Instr.lookup mt (.map none) (key k) c).run P w = .ok (if c then .tuple #[z, .bool false] else z) w := by
  obtain ⟨i, hi, hz⟩ := Option.bind_eq_some_iff.1 hz
  obtain ⟨d, hd, hs⟩ := hk.und
  have hck : (Instr.checkKey true 10000 kt (key k)).run P w = .ok () w := hk.check _ 9999 k w
  have hfk : (Instr.findKey kt (key k) []).run P w = .ok none w := by simp [Instr.findKey, run_underlying hd, Instr.findNow]
  simp [Instr.lookup, run_underlying hm, hck, hfk, zeroValue, typeInfo, hi, hz]

theorem update_runG {mt kt et : TypeId} {w : World} {b : Nat} {kvs : List (α × Value)} (hm : P.underlying mt = some (.map kt et)) (hk : KeyOk P kt key) (h : MapG key w b kvs) (k : α) (v : Value) :
    ∃ w', (Instr.mapUpdate mt (.map (some b)) (key k) v).run P w = .ok () w' ∧ MapG key w' b (putG k v kvs) ∧ Kept (· = b) w w' ∧ w'.heap.size = w.heap.size := by
  obtain ⟨es, clock, h1, h2⟩ := h
  have hlt := (Array.getElem?_eq_some_iff.1 h1).1
  obtain ⟨d, hd, hs⟩ := hk.und
  obtain ⟨r, hr, hh⟩ := findNow_G hs k es.toList kvs 0 h2
  have hck : (Instr.checkKey false 10000 kt (key k)).run P w = .ok () w := hk.check _ 9999 k w
  have hfk : (Instr.findKey kt (key k) es.toList).run P w = .ok r w := by simp [Instr.findKey, run_underlying hd, hr]
  have hgo : (getObj b).run P w = .ok (.map es clock) w := by simp [getObj, Sem.run, h1]
  have hset : ∀ o, (setObj b o).run P w = .ok () { w with heap := w.heap.setIfInBounds b o } := fun o => by simp [setObj, Sem.run, h1]
  have hkept : ∀ o, Kept (· = b) w { w with heap := w.heap.setIfInBounds b o } := fun o => ⟨rfl, rfl, rfl, by simp, fun i hi hne => by simp [Array.getElem?_setIfInBounds, Ne.symm hne]⟩
  rcases hh with ⟨j, e, u, rfl, _, he, hek, ha, hp⟩ | ⟨rfl, ha, hp⟩
  · have hesj : es[j]? = some e := by simpa using he
    have hkey : (Instr.keyThatStays e.key (key k)).run P w = .ok (key k) w := by
      have : Instr.sameBits 10000 e.key (key k) = true := by rw [hek]; exact hk.bits 10000 k
      simp only [Instr.keyThatStays, this, if_true]; rfl
    refine ⟨{ w with heap := w.heap.setIfInBounds b (.map (es.modify j fun e => { e with key := key k, val := v }) clock) }, ?_, ⟨es.modify j fun e => { e with key := key k, val := v }, clock, ?_, ?_⟩, hkept _, by simp⟩
    · simp [Instr.mapUpdate, run_underlying hm, hgo, hck, hfk, hesj, hkey, hset]
    · simp [hlt]
    · rw [← hp v, Nat.sub_zero, Array.toList_modify]
  · refine ⟨{ w with heap := w.heap.setIfInBounds b (.map (es.push { key := key k, val := v, born := clock }) (clock + 1)) }, ?_, ⟨es.push { key := key k, val := v, born := clock }, clock + 1, ?_, ?_⟩, hkept _, by simp⟩
    · simp [Instr.mapUpdate, run_underlying hm, hgo, hck, hfk, hset]
    · simp [hlt]
    · rw [hp v]; simp [h2]

theorem lookupG {mt kt et : TypeId} {w : World} {b : Nat} {kvs : List (α × Value)} {z : Value} {t : Fr} {K : VK} {Q : EP} {p} {c : Bool} {k : α} (hm : P.underlying mt = some (.map kt et)) (hk : KeyOk P kt key) (hz : (P.info? et).bind (·.zero) = some z) (h : MapG key w b kvs)
    (kk : K (if c then .tuple #[(assocG k kvs).getD z, .bool (assocG k kvs).isSome] else (assocG k kvs).getD z) w) : valK P (Instr.lookup mt (.map (some b)) (key k) c) t w K Q p := valK_of (lookup_runG hm hk hz h k c) kk
theorem updateG {mt kt et : TypeId} {w : World} {b : Nat} {kvs : List (α × Value)} {t : Fr} {K : VK} {Q : EP} {k : α} {v : Value} (hm : P.underlying mt = some (.map kt et)) (hk : KeyOk P kt key) (h : MapG key w b kvs)
    (kk : ∀ w', MapG key w' b (putG k v kvs) → Kept (· = b) w w' → w'.heap.size = w.heap.size → K undef w') : unitK P (Instr.mapUpdate mt (.map (some b)) (key k) v) t w K Q .mk := by
  obtain ⟨w', hr, h1, h2, h3⟩ := update_runG hm hk h k v
  exact unitK_of hr (kk w' h1 h2 h3)
theorem lookupG_some {mt kt et : TypeId} {w : World} {b : Nat} {kvs : List (α × Value)} {z kv u : Value} {t : Fr} {K : VK} {Q : EP} {p} {k : α} (hm : P.underlying mt = some (.map kt et)) (hk : KeyOk P kt key) (hz : (P.info? et).bind (·.zero) = some z) (h : MapG key w b kvs) (hkv : kv = key k) (ha : assocG k kvs = some u)
    (kk : K (.tuple #[u, .bool true]) w) : valK P (Instr.lookup mt (.map (some b)) kv true) t w K Q p := by
  subst hkv
  refine lookupG hm hk hz h ?_
  rw [ha]
  exact kk
theorem lookupG_none {mt kt et : TypeId} {w : World} {b : Nat} {kvs : List (α × Value)} {z kv : Value} {t : Fr} {K : VK} {Q : EP} {p} {k : α} (hm : P.underlying mt = some (.map kt et)) (hk : KeyOk P kt key) (hz : (P.info? et).bind (·.zero) = some z) (h : MapG key w b kvs) (hkv : kv = key k) (ha : assocG k kvs = none)
    (kk : K (.tuple #[z, .bool false]) w) : valK P (Instr.lookup mt (.map (some b)) kv true) t w K Q p := by
  subst hkv
  refine lookupG hm hk hz h ?_
  rw [ha]
  exact kk
theorem putG_none {k : α} {v : Value} : ∀ {kvs : List (α × Value)}, assocG k kvs = none → putG k v kvs = kvs ++ [(k, v)]
  | [], _ => rfl
  | p :: r, h => by
    rw [assocG] at h
    split at h
    · cases h
    · rename_i hne
      rw [putG, if_neg hne, putG_none h]; rfl
theorem updateG_new {mt kt et : TypeId} {w : World} {b : Nat} {kvs : List (α × Value)} {t : Fr} {K : VK} {Q : EP} {k : α} {v kv : Value} (hm : P.underlying mt = some (.map kt et)) (hk : KeyOk P kt key) (h : MapG key w b kvs) (hkv : kv = key k) (ha : assocG k kvs = none)
    (kk : ∀ w', MapG key w' b (kvs ++ [(k, v)]) → Kept (· = b) w w' → w'.heap.size = w.heap.size → K undef w') : unitK P (Instr.mapUpdate mt (.map (some b)) kv v) t w K Q .mk := by
  subst hkv
  refine updateG hm hk h ?_
  rw [putG_none ha]
  exact kk
theorem makeMapG {mt : TypeId} {w : World} {t : Fr} {K : VK} {Q : EP} {p} {key : α → Value} (kk : ∀ w', MapG key w' w.heap.size [] → Below w.heap.size w w' → w'.heap.size = w.heap.size + 1 → K (.map (some w.heap.size)) w') : valK P (Instr.makeMap mt none) t w K Q p :=
  valK_of (w' := w.alloc (.map #[] 0)) (v := .map (some w.heap.size)) rfl (kk _ ⟨#[], 0, heap_alloc_new w _, rfl⟩ ((Below.refl _ _).alloc (Nat.le_refl _) _) (by simp))
theorem mapGNe {w : World} {b c : Nat} {kvs : List (α × Value)} {e : TypeId} {cs : List Value} (h : MapG key w b kvs) (h' : Blk w c e cs) : b ≠ c := fun hh => by
  subst hh
  obtain ⟨es, clock, h1, _⟩ := h
  have h' : w.heap[b]? = some (.cells cs.toArray e (0, 0)) := h'
  rw [h1] at h'; cases h'
theorem mapGNeOwn {β : Type} {w : World} {b base k : Nat} {kvs : List (α × Value)} {e : TypeId} {enc : β → List Value} {v : Value} {l : List β} (h : MapG key w b kvs) (ho : Own base e k enc w v l) : v.ownBlock ≠ some b := fun hh => by
  obtain ⟨es, clock, h1, _⟩ := h
  rcases ho.1.2 with ⟨he, _⟩ | ⟨g, cap, cur, he, _, hg, _⟩
  · rw [he] at hh; cases hh
  · rw [he] at hh
    have : g = b := by simpa [Value.ownBlock] using hh
    subst this
    rw [h1] at hg; cases hg
end
end Go.Vc
