/- Texts of this claim, merged: Vo, Vw, So0, Hex, Join, Sprint, Cut, Byt, Pint, Ppar, Rng, Spl, Pin2. -/
import Derived.Test.YtiofleijieepgaaGreatDoorM1
import Derived.Test.YtiofleijieepgaaGreatDoorM3
import Derived.Shelf.Strings.OnBuilder
import Derived.Shelf.Strings.Search3
import Derived.Shelf.Small.Wraps
import Derived.Lib.IfaceEq
import Derived.Lib.IfaceNeq
import Derived.RangeFuncFrom
import Derived.LoopIn
import Derived.RangeFuncLeaves
import Derived.Shelf.Strconv.ToErrorRange
import Derived.Shelf.Strconv.ToError
section
set_option linter.unusedSimpArgs false
set_option linter.unusedVariables false
namespace Go.Vc
open Go.RowKit

theorem eqn3 {L : VP} {other : Prop} (c : Bool) (n k n' k' : Nat) (p) : eqNilK 3 c .eql (.slice none n k) (.slice none n' k') L other p = L (.bool true) := by cases c <;> rfl
theorem eqs3 {L : VP} {other : Prop} (c : Bool) (a : Addr) (n k n' k' : Nat) (p) : eqNilK 3 c .eql (.slice (some a) n k) (.slice none n' k') L other p = L (.bool false) := by cases c <;> rfl

/-- What is owned at two types lies in two blocks. -/
theorem ownNe {α β : Type} {w : World} {base base' k k' : Nat} {e e' : TypeId} {enc : α → List Value} {enc' : β → List Value} {v v' : Value} {l : List α} {l' : List β} (h : Vc.Own base e k enc w v l) (h' : Vc.Own base' e' k' enc' w v' l') (hne : e ≠ e') : ∀ g, v.ownBlock = some g → v'.ownBlock ≠ some g := fun g hg hg' => by
  rcases h.1.2 with ⟨he, _⟩ | ⟨g1, cap, cur, he, _, h1, _⟩
  · rw [he] at hg; cases hg
  · rcases h'.1.2 with ⟨he', _⟩ | ⟨g2, cap', cur', he', _, h2, _⟩
    · rw [he'] at hg'; cases hg'
    · rw [he] at hg
      rw [he'] at hg'
      have e1 : g1 = g := by simpa [Value.ownBlock] using hg
      have e2 : g2 = g := by simpa [Value.ownBlock] using hg'
      subst e1 e2
      rw [h1] at h2
      cases h2
      exact hne rfl
/-- A slice over a block that is told. -/
theorem slBlk {α : Type} {f : α → Value} {w : World} {b c n : Nat} {e : TypeId} {l : List α} (hB : Blk w b e (l.map f)) (hn : n = l.length) (hc : l.length ≤ c) : Sl (fun _ => False) 1 (En (fun x => [f x])) w (.slice (some ⟨b, 0, none⟩) n c) l := by
  subst hn
  refine ⟨_, _, rfl, hc, fun i x hx => ⟨b, 0, [f x], rfl, id, rfl, fun j u hu => ?_, rfl⟩⟩
  cases j with
  | zero =>
    simp at hu; subst hu
    rw [Nat.mul_one, Nat.add_zero, Nat.zero_add]
    exact hB.cell (by rw [List.getElem?_map, hx]; rfl)
  | succ j => simp at hu

/-! Maps. -/
theorem beq_dec {α : Type} [DecidableEq α] [BEq α] [LawfulBEq α] (a b : α) : (a == b) = decide (a = b) := by
  by_cases h : a = b
  · subst h; simp
  · rw [decide_eq_false h]; exact beq_eq_false_iff_ne.2 h
theorem beq_str (a b : List UInt8) : ((⟨a.toArray⟩ : ByteArray) == ⟨b.toArray⟩) = decide (a = b) := by
  show (a.toArray == b.toArray) = _
  rw [List.beq_toArray]
  exact beq_dec a b

section
set_option linter.unusedSectionVars false
variable {P : Program} {α : Type} [DecidableEq α]

/-- A kind of keys. -/
structure KeyOk (P : Program) (kt : TypeId) (key : α → Value) : Prop where
  und : ∃ d, P.underlying kt = some d ∧ ∀ a b, Instr.sameNow d (key a) (key b) = some (decide (a = b))
  bits : ∀ n a, Instr.sameBits n (key a) (key a) = true
  check : ∀ em n a w, (Instr.checkKey em (n + 1) kt (key a)).run P w = .ok () w

theorem keyInt {kt : TypeId} (hk : P.underlying kt = some (.int .i64)) : KeyOk P kt (fun n : Int => Value.int .i64 n) where
  und := ⟨_, hk, fun a b => by simp only [Instr.sameNow, if_true, Option.some.injEq]; exact (beq_dec a b)⟩
  bits := fun n a => by cases n <;> simp [Instr.sameBits]
  check := fun em n a w => by simp [Instr.checkKey, run_underlying hk]
theorem keyNat {kt : TypeId} (hk : P.underlying kt = some (.int .i64)) : KeyOk P kt (fun n : Nat => Value.int .i64 (n : Int)) where
  und := ⟨_, hk, fun a b => by simp only [Instr.sameNow, if_true, Option.some.injEq]; rw [beq_dec, decide_eq_decide]; exact Int.ofNat_inj⟩
  bits := fun n a => by cases n <;> simp [Instr.sameBits]
  check := fun em n a w => by simp [Instr.checkKey, run_underlying hk]
theorem keyStr {kt : TypeId} (hk : P.underlying kt = some .string) : KeyOk P kt (fun l : List UInt8 => str l) where
  und := ⟨_, hk, fun a b => by
    simp only [str, Instr.sameNow, Option.some.injEq]
    exact beq_str a b⟩
  bits := fun n a => by have := (beq_str a a).trans (decide_eq_true rfl); cases n <;> simpa [str, Instr.sameBits] using this
  check := fun em n a w => by simp [str, Instr.checkKey, run_underlying hk]

def MapG (key : α → Value) (w : World) (b : Nat) (kvs : List (α × Value)) : Prop :=
  ∃ (es : Array MapEntry) (clock : Nat), w.heap[b]? = some (.map es clock) ∧ (es.toList.map fun e => (e.key, e.val)) = kvs.map fun p => (key p.1, p.2)
def assocG (k : α) : List (α × Value) → Option Value
  | [] => none
  | p :: r => if k = p.1 then some p.2 else assocG k r
def putG (k : α) (v : Value) : List (α × Value) → List (α × Value)
  | [] => [(k, v)]
  | p :: r => if k = p.1 then (p.1, v) :: r else p :: putG k v r

variable {key : α → Value}
theorem MapG.kept {X : Nat → Prop} {w w' : World} {b : Nat} {kvs : List (α × Value)} (h : MapG key w b kvs) (hk : Kept X w w') (hX : ¬ X b) : MapG key w' b kvs := by
  obtain ⟨es, clock, h1, h2⟩ := h
  exact ⟨es, clock, (hk.block b (Array.getElem?_eq_some_iff.1 h1).1 hX).trans h1, h2⟩
theorem MapG.lt {w : World} {b : Nat} {kvs : List (α × Value)} (h : MapG key w b kvs) : b < w.heap.size := by
  obtain ⟨es, clock, h1, h2⟩ := h
  exact (Array.getElem?_eq_some_iff.1 h1).1
theorem MapG.below {B : Nat} {w w' : World} {b : Nat} {kvs : List (α × Value)} (h : MapG key w b kvs) (hk : Below B w w') (hX : b < B) : MapG key w' b kvs := by
  obtain ⟨es, clock, h1, h2⟩ := h
  exact ⟨es, clock, (hk.block b hX).trans h1, h2⟩

theorem findNow_G {d : TypeDesc} (hd : ∀ a b, Instr.sameNow d (key a) (key b) = some (decide (a = b))) (k : α) : ∀ (es : List MapEntry) (kvs : List (α × Value)) (i : Nat), (es.map fun e => (e.key, e.val)) = (kvs.map fun p => (key p.1, p.2)) →
    ∃ r, Instr.findNow d (key k) es i = some r ∧ ((∃ j e u, r = some (j, u) ∧ i ≤ j ∧ es[j - i]? = some e ∧ e.key = key k ∧ assocG k kvs = some u ∧ ∀ v, (es.modify (j - i) (fun e => { e with key := key k, val := v })).map (fun e => (e.key, e.val)) = (putG k v kvs).map fun p => (key p.1, p.2)) ∨
      (r = none ∧ assocG k kvs = none ∧ ∀ v, putG k v kvs = kvs ++ [(k, v)]))
  | [], [], i, _ => ⟨none, rfl, .inr ⟨rfl, rfl, fun _ => rfl⟩⟩
  | [], _ :: _, _, h => by simp at h
  | _ :: _, [], _, h => by simp at h
  | e :: es, p :: kvs, i, h => by
    simp only [List.map_cons, List.cons.injEq, Prod.mk.injEq] at h
    obtain ⟨⟨h1, h2⟩, h3⟩ := h
    rw [Instr.findNow, h1, hd]
    by_cases hx : k = p.1
    · rw [decide_eq_true hx]
      refine ⟨some (i, e.val), rfl, .inl ⟨i, e, e.val, rfl, Nat.le_refl _, by simp, by rw [h1, hx], by rw [assocG, if_pos hx, h2], fun v => ?_⟩⟩
      rw [Nat.sub_self, putG, if_pos hx]
      simp [h3, hx]
    · rw [decide_eq_false hx]
      obtain ⟨r, hr, hh⟩ := findNow_G hd k es kvs (i + 1) h3
      refine ⟨r, hr, ?_⟩
      rcases hh with ⟨j, e', u, h4, h5, h6, h7, h8, h9⟩ | ⟨h4, h5, h6⟩
      · refine .inl ⟨j, e', u, h4, by omega, ?_, h7, by rw [assocG, if_neg hx, h8], fun v => ?_⟩
        · rw [show j - i = (j - (i + 1)) + 1 by omega]
          simpa using h6
        · rw [show j - i = (j - (i + 1)) + 1 by omega, putG, if_neg hx]
          simp only [List.modify_succ_cons, List.map_cons, h1, h2]
          rw [h9 v]
      · exact .inr ⟨h4, by rw [assocG, if_neg hx, h5], fun v => by rw [putG, if_neg hx, h6 v]; rfl⟩

theorem lookup_runG {mt kt et : TypeId} {w : World} {b : Nat} {kvs : List (α × Value)} {z : Value} (hm : P.underlying mt = some (.map kt et)) (hk : KeyOk P kt key) (hz : (P.info? et).bind (·.zero) = some z) (h : MapG key w b kvs) (k : α) (c : Bool) :
    (Instr.lookup mt (.map (some b)) (key k) c).run P w = .ok (if c then .tuple #[(assocG k kvs).getD z, .bool (assocG k kvs).isSome] else (assocG k kvs).getD z) w := by
  obtain ⟨es, clock, h1, h2⟩ := h
  obtain ⟨i, hi, hz⟩ := Option.bind_eq_some_iff.1 hz
  obtain ⟨d, hd, hs⟩ := hk.und
  obtain ⟨r, hr, hh⟩ := findNow_G hs k es.toList kvs 0 h2
  have hck : (Instr.checkKey es.isEmpty 10000 kt (key k)).run P w = .ok () w := hk.check _ 9999 k w
  have hfk : (Instr.findKey kt (key k) es.toList).run P w = .ok r w := by simp [Instr.findKey, run_underlying hd, hr]
  have hgo : (getObj b).run P w = .ok (.map es clock) w := by simp [getObj, Sem.run, h1]
  rcases hh with ⟨j, e, u, rfl, _, _, _, ha, _⟩ | ⟨rfl, ha, _⟩
  · simp [Instr.lookup, run_underlying hm, hgo, hck, hfk, ha]
  · simp [Instr.lookup, run_underlying hm, hgo, hck, hfk, ha, zeroValue, typeInfo, hi, hz]
theorem lookup_nilG {mt kt et : TypeId} {w : World} {z : Value} (hm : P.underlying mt = some (.map kt et)) (hk : KeyOk P kt key) (hz : (P.info? et).bind (·.zero) = some z) (k : α) (c : Bool) :
    (Instr.lookup mt (.map none) (key k) c).run P w = .ok (if c then .tuple #[z, .bool false] else z) w := by
  obtain ⟨i, hi, hz⟩ := Option.bind_eq_some_iff.1 hz
  obtain ⟨d, hd, hs⟩ := hk.und
  have hck : (Instr.checkKey true 10000 kt (key k)).run P w = .ok () w := hk.check _ 9999 k w
  have hfk : (Instr.findKey kt (key k) []).run P w = .ok none w := by simp [Instr.findKey, run_underlying hd, Instr.findNow]
  simp [Instr.lookup, run_underlying hm, hck, hfk, zeroValue, typeInfo, hi, hz]

theorem update_runG {mt kt et : TypeId} {w : World} {b : Nat} {kvs : List (α × Value)} (hm : P.underlying mt = some (.map kt et)) (hk : KeyOk P kt key) (h : MapG key w b kvs) (k : α) (v : Value) :
    ∃ w', (Instr.mapUpdate mt (.map (some b)) (key k) v).run P w = .ok () w' ∧ MapG key w' b (putG k v kvs) ∧ Kept (· = b) w w' ∧ w'.heap.size = w.heap.size := by
  obtain ⟨es, clock, h1, h2⟩ := h
  have hlt := (Array.getElem?_eq_some_iff.1 h1).1
  obtain ⟨d, hd, hs⟩ := hk.und
  obtain ⟨r, hr, hh⟩ := findNow_G hs k es.toList kvs 0 h2
  have hck : (Instr.checkKey false 10000 kt (key k)).run P w = .ok () w := hk.check _ 9999 k w
  have hfk : (Instr.findKey kt (key k) es.toList).run P w = .ok r w := by simp [Instr.findKey, run_underlying hd, hr]
  have hgo : (getObj b).run P w = .ok (.map es clock) w := by simp [getObj, Sem.run, h1]
  have hset : ∀ o, (setObj b o).run P w = .ok () { w with heap := w.heap.setIfInBounds b o } := fun o => by simp [setObj, Sem.run, h1]
  have hkept : ∀ o, Kept (· = b) w { w with heap := w.heap.setIfInBounds b o } := fun o => ⟨rfl, rfl, rfl, by simp, fun i hi hne => by simp [Array.getElem?_setIfInBounds, Ne.symm hne]⟩
  rcases hh with ⟨j, e, u, rfl, _, he, hek, ha, hp⟩ | ⟨rfl, ha, hp⟩
  · have hesj : es[j]? = some e := by simpa using he
    have hkey : (Instr.keyThatStays e.key (key k)).run P w = .ok (key k) w := by
      have : Instr.sameBits 10000 e.key (key k) = true := by rw [hek]; exact hk.bits 10000 k
      simp only [Instr.keyThatStays, this, if_true]; rfl
    refine ⟨{ w with heap := w.heap.setIfInBounds b (.map (es.modify j fun e => { e with key := key k, val := v }) clock) }, ?_, ⟨es.modify j fun e => { e with key := key k, val := v }, clock, ?_, ?_⟩, hkept _, by simp⟩
    · simp [Instr.mapUpdate, run_underlying hm, hgo, hck, hfk, hesj, hkey, hset]
    · simp [hlt]
    · rw [← hp v, Nat.sub_zero, Array.toList_modify]
  · refine ⟨{ w with heap := w.heap.setIfInBounds b (.map (es.push { key := key k, val := v, born := clock }) (clock + 1)) }, ?_, ⟨es.push { key := key k, val := v, born := clock }, clock + 1, ?_, ?_⟩, hkept _, by simp⟩
    · simp [Instr.mapUpdate, run_underlying hm, hgo, hck, hfk, hset]
    · simp [hlt]
    · rw [hp v]; simp [h2]

theorem lookupG {mt kt et : TypeId} {w : World} {b : Nat} {kvs : List (α × Value)} {z : Value} {t : Fr} {K : VK} {Q : EP} {p} {c : Bool} {k : α} (hm : P.underlying mt = some (.map kt et)) (hk : KeyOk P kt key) (hz : (P.info? et).bind (·.zero) = some z) (h : MapG key w b kvs)
    (kk : K (if c then .tuple #[(assocG k kvs).getD z, .bool (assocG k kvs).isSome] else (assocG k kvs).getD z) w) : valK P (Instr.lookup mt (.map (some b)) (key k) c) t w K Q p := valK_of (lookup_runG hm hk hz h k c) kk
theorem updateG {mt kt et : TypeId} {w : World} {b : Nat} {kvs : List (α × Value)} {t : Fr} {K : VK} {Q : EP} {k : α} {v : Value} (hm : P.underlying mt = some (.map kt et)) (hk : KeyOk P kt key) (h : MapG key w b kvs)
    (kk : ∀ w', MapG key w' b (putG k v kvs) → Kept (· = b) w w' → w'.heap.size = w.heap.size → K undef w') : unitK P (Instr.mapUpdate mt (.map (some b)) (key k) v) t w K Q .mk := by
  obtain ⟨w', hr, h1, h2, h3⟩ := update_runG hm hk h k v
  exact unitK_of hr (kk w' h1 h2 h3)
theorem lookupG_some {mt kt et : TypeId} {w : World} {b : Nat} {kvs : List (α × Value)} {z kv u : Value} {t : Fr} {K : VK} {Q : EP} {p} {k : α} (hm : P.underlying mt = some (.map kt et)) (hk : KeyOk P kt key) (hz : (P.info? et).bind (·.zero) = some z) (h : MapG key w b kvs) (hkv : kv = key k) (ha : assocG k kvs = some u)
    (kk : K (.tuple #[u, .bool true]) w) : valK P (Instr.lookup mt (.map (some b)) kv true) t w K Q p := by
  subst hkv
  refine lookupG hm hk hz h ?_
  rw [ha]
  exact kk
theorem lookupG_none {mt kt et : TypeId} {w : World} {b : Nat} {kvs : List (α × Value)} {z kv : Value} {t : Fr} {K : VK} {Q : EP} {p} {k : α} (hm : P.underlying mt = some (.map kt et)) (hk : KeyOk P kt key) (hz : (P.info? et).bind (·.zero) = some z) (h : MapG key w b kvs) (hkv : kv = key k) (ha : assocG k kvs = none)
    (kk : K (.tuple #[z, .bool false]) w) : valK P (Instr.lookup mt (.map (some b)) kv true) t w K Q p := by
  subst hkv
  refine lookupG hm hk hz h ?_
  rw [ha]
  exact kk
theorem putG_none {k : α} {v : Value} : ∀ {kvs : List (α × Value)}, assocG k kvs = none → putG k v kvs = kvs ++ [(k, v)]
  | [], _ => rfl
  | p :: r, h => by
    rw [assocG] at h
    split at h
    · cases h
    · rename_i hne
      rw [putG, if_neg hne, putG_none h]; rfl
theorem updateG_new {mt kt et : TypeId} {w : World} {b : Nat} {kvs : List (α × Value)} {t : Fr} {K : VK} {Q : EP} {k : α} {v kv : Value} (hm : P.underlying mt = some (.map kt et)) (hk : KeyOk P kt key) (h : MapG key w b kvs) (hkv : kv = key k) (ha : assocG k kvs = none)
    (kk : ∀ w', MapG key w' b (kvs ++ [(k, v)]) → Kept (· = b) w w' → w'.heap.size = w.heap.size → K undef w') : unitK P (Instr.mapUpdate mt (.map (some b)) kv v) t w K Q .mk := by
  subst hkv
  refine updateG hm hk h ?_
  rw [putG_none ha]
  exact kk
theorem makeMapG {mt : TypeId} {w : World} {t : Fr} {K : VK} {Q : EP} {p} {key : α → Value} (kk : ∀ w', MapG key w' w.heap.size [] → Below w.heap.size w w' → w'.heap.size = w.heap.size + 1 → K (.map (some w.heap.size)) w') : valK P (Instr.makeMap mt none) t w K Q p :=
  valK_of (w' := w.alloc (.map #[] 0)) (v := .map (some w.heap.size)) rfl (kk _ ⟨#[], 0, heap_alloc_new w _, rfl⟩ ((Below.refl _ _).alloc (Nat.le_refl _) _) (by simp))
theorem mapGNe {w : World} {b c : Nat} {kvs : List (α × Value)} {e : TypeId} {cs : List Value} (h : MapG key w b kvs) (h' : Blk w c e cs) : b ≠ c := fun hh => by
  subst hh
  obtain ⟨es, clock, h1, _⟩ := h
  have h' : w.heap[b]? = some (.cells cs.toArray e (0, 0)) := h'
  rw [h1] at h'; cases h'
theorem mapGNeOwn {β : Type} {w : World} {b base k : Nat} {kvs : List (α × Value)} {e : TypeId} {enc : β → List Value} {v : Value} {l : List β} (h : MapG key w b kvs) (ho : Vc.Own base e k enc w v l) : v.ownBlock ≠ some b := fun hh => by
  obtain ⟨es, clock, h1, _⟩ := h
  rcases ho.1.2 with ⟨he, _⟩ | ⟨g, cap, cur, he, _, hg, _⟩
  · rw [he] at hh; cases hh
  · rw [he] at hh
    have : g = b := by simpa [Value.ownBlock] using hh
    subst this
    rw [h1] at hg; cases hg
end
end Go.Vc
end
section
set_option linter.unusedSimpArgs false
set_option linter.unusedVariables false
namespace Go.Vc
open Go.RowKit

/-! Regions that draw, in a told order, with two classes of worlds: one up to an operation m, a wider one behind it; what floats over m holds in the wider one. -/
def clsD (C D : World → Prop) (m : Nat) (listed : Array Bool) : World → Prop := fun w => (listed.getD m false = true → D w) ∧ (listed.getD m false = false → C w)

section
variable {P : Program} {ops : Array Oper} {C D : World → Prop}
theorem clsD_tt {m : Nat} {listed : Array Bool} (h : listed.getD m false = true) : clsD C D m listed = D := funext fun w => propext ⟨fun hh => hh.1 h, fun hh => ⟨fun _ => hh, fun h' => by rw [h] at h'; cases h'⟩⟩
theorem clsD_ff {m : Nat} {listed : Array Bool} (h : listed.getD m false = false) : clsD C D m listed = C := funext fun w => propext ⟨fun hh => hh.2 h, fun hh => ⟨fun h' => (by rw [h] at h'; cases h'), fun _ => hh⟩⟩
theorem clsD_sub (hCD : ∀ w, C w → D w) {m : Nat} {listed : Array Bool} {w : World} (h : clsD C D m listed w) : D w := by
  cases hm : listed.getD m false with
  | true => exact h.1 hm
  | false => exact hCD w (h.2 hm)
theorem clsD_mono (hCD : ∀ w, C w → D w) {m i : Nat} {listed : Array Bool} {w : World} (h : clsD C D m listed w) : clsD C D m (listed.setIfInBounds i true) w := by
  cases hm : (listed.setIfInBounds i true).getD m false with
  | true => rw [clsD_tt hm]; exact clsD_sub hCD h
  | false =>
    rw [clsD_ff hm]
    refine h.2 ?_
    cases hl : listed.getD m false with
    | false => rfl
    | true => rw [getD_set_true hl] at hm; cases hm

theorem mixOp_sub {i : Nat} {o : Oper} {K : Act → World → Prop} {a : Act} {w : World} (hi : ops[i]? = some o) (hq : chain P o = false) (hCD : ∀ w, C w → D w) (h : mixOp P ops D i K a w) : mixOp P ops C i K a w := by
  cases hw : Region.wanted o (yielded ops a.tmps) with
  | false => rw [mixOp_no hi hw] at h ⊢; exact h
  | true =>
    rw [mixOp_quiet hi hw hq] at h ⊢
    obtain ⟨v, hv, hk⟩ := h
    exact ⟨v, fun w' hw' => hv w' (hCD w' hw'), hk⟩
theorem mixOp_monoQ {i : Nat} {o : Oper} {K K' : Act → World → Prop} {a : Act} {w : World} (hi : ops[i]? = some o) (hq : chain P o = false) (hk : ∀ a, K a w → K' a w) (h : mixOp P ops D i K a w) : mixOp P ops D i K' a w := by
  cases hw : Region.wanted o (yielded ops a.tmps) with
  | false => rw [mixOp_no hi hw] at h ⊢; exact hk _ h
  | true =>
    rw [mixOp_quiet hi hw hq] at h ⊢
    obtain ⟨v, hv, hh⟩ := h
    exact ⟨v, hv, hk _ hh⟩
/-- One that is quiet, and holds in the wider class, may stand behind any that is apart. -/
theorem mixOp_swapQ {i j : Nat} {oi oj : Oper} {K : Act → World → Prop} {a : Act} {w : World} (hCD : ∀ w, C w → D w) (hi : ops[i]? = some oi) (hj : ops[j]? = some oj) (hap : oi.apart ops oj = true) (hci : chain P oi = false)
    (hsi : ∀ cs b, oi.op ≠ .select cs b) (hsj : ∀ cs b, oj.op ≠ .select cs b) (h : mixOp P ops D i (mixOp P ops C j K) a w) : mixOp P ops C j (mixOp P ops D i K) a w := by
  obtain ⟨h1, h2, h3⟩ := Oper.apart_spec hap
  have ej : ∀ (b : Act) (v : Value), execOp (b.put oi.dst v).eval oj = execOp b.eval oj := fun b v => execOp_put oj hsj b oi.dst v h1
  have ei : ∀ (b : Act) (v : Value), execOp (b.put oj.dst v).eval oi = execOp b.eval oi := fun b v => execOp_put oi hsi b oj.dst v h3
  have wj : ∀ (b : Act) (v : Value), Region.wanted oj (yielded ops (b.put oi.dst v).tmps) = Region.wanted oj (yielded ops b.tmps) := fun b v => wanted_put oj b oi.dst v h1
  have wi : ∀ (b : Act) (v : Value), Region.wanted oi (yielded ops (b.put oj.dst v).tmps) = Region.wanted oi (yielded ops b.tmps) := fun b v => wanted_put oi b oj.dst v h3
  have cm : ∀ (b : Act) (v u : Value), (b.put oi.dst v).put oj.dst u = (b.put oj.dst u).put oi.dst v := fun b v u => Act.put_comm b v u h2
  cases hwi : Region.wanted oi (yielded ops a.tmps) with
  | false =>
    rw [mixOp_no hi hwi] at h
    cases hwj : Region.wanted oj (yielded ops a.tmps) with
    | false =>
      rw [mixOp_no hj (by rw [wj]; exact hwj)] at h
      rw [mixOp_no hj hwj, mixOp_no hi (by rw [wi]; exact hwi), ← cm]
      exact h
    | true =>
      cases hcj : chain P oj with
      | true =>
        rw [mixOp_chain hj (by rw [wj]; exact hwj) hcj, ej] at h
        rw [mixOp_chain hj hwj hcj]
        refine resA_mono (fun v w' _ hh => ?_) h
        rw [mixOp_no hi (by rw [wi]; exact hwi), ← cm]
        exact hh
      | false =>
        rw [mixOp_quiet hj (by rw [wj]; exact hwj) hcj, ej] at h
        rw [mixOp_quiet hj hwj hcj]
        obtain ⟨v, hv, hk⟩ := h
        refine ⟨v, hv, ?_⟩
        rw [mixOp_no hi (by rw [wi]; exact hwi), ← cm]
        exact hk
  | true =>
    rw [mixOp_quiet hi hwi hci] at h
    obtain ⟨v, hv, hk⟩ := h
    cases hwj : Region.wanted oj (yielded ops a.tmps) with
    | false =>
      rw [mixOp_no hj (by rw [wj]; exact hwj)] at hk
      rw [mixOp_no hj hwj, mixOp_quiet hi (by rw [wi]; exact hwi) hci, ei]
      exact ⟨v, hv, by rw [← cm]; exact hk⟩
    | true =>
      cases hcj : chain P oj with
      | true =>
        rw [mixOp_chain hj (by rw [wj]; exact hwj) hcj, ej] at hk
        rw [mixOp_chain hj hwj hcj]
        refine resA_mono (fun u w' _ hh => ?_) hk
        rw [mixOp_quiet hi (by rw [wi]; exact hwi) hci, ei]
        exact ⟨v, hv, by rw [← cm]; exact hh⟩
      | false =>
        rw [mixOp_quiet hj (by rw [wj]; exact hwj) hcj, ej] at hk
        rw [mixOp_quiet hj hwj hcj]
        obtain ⟨u, hu, hk⟩ := hk
        refine ⟨u, hu, ?_⟩
        rw [mixOp_quiet hi (by rw [wi]; exact hwi) hci, ei]
        exact ⟨v, hv, by rw [← cm]; exact hk⟩

def wpMixW (P : Program) (ops : Array Oper) (C D : World → Prop) (m : Nat) (R : Act → World → Prop) : Nat → Array Bool → Act → World → Prop
  | 0, listed, a, w => Region.ready .any ops listed = [] ∧ R a w
  | n + 1, listed, a, w => (Region.ready .any ops listed = [] → R a w) ∧ ∀ i ∈ Region.ready .any ops listed, mixOp P ops (clsD C D m (listed.setIfInBounds i true)) i (wpMixW P ops C D m R n (listed.setIfInBounds i true)) a w

theorem wpAny_of_mixW (hCD : ∀ w, C w → D w) {m : Nat} {R : Act → World → Prop} {Q : Exit → Act → World → Prop} (hq : ∀ a w, R a w → Q .normal a w) : ∀ (n : Nat) (listed : Array Bool) (a : Act) (w : World), clsD C D m listed w →
    wpMixW P ops C D m R n listed a w → wpAny P .any ops Q n listed a w
  | 0, listed, a, w, _, h => ⟨h.1, hq _ _ h.2⟩
  | fuel + 1, listed, a, w, hC, h => ⟨fun h0 => hq _ _ (h.1 h0), fun i hi => by
      have h1 := h.2 i hi
      have hC' := clsD_mono hCD (i := i) hC
      unfold mixOp at h1
      unfold wpOp
      split
      · rename_i ho; simp only [ho] at h1; exact wpAny_of_mixW hCD hq fuel _ _ _ hC' h1
      · rename_i o ho
        simp only [ho] at h1
        split
        · rename_i hw
          simp only [hw, if_true] at h1
          refine .inl ?_
          split at h1
          · exact Oper.wp_mono (fun a' w' hh => wpAny_of_mixW hCD hq fuel _ _ _ hh.1 hh.2) (upon_of_resA h1)
          · obtain ⟨v, hv, hk⟩ := h1
            unfold Oper.wp
            rw [hv w hC']
            exact wpAny_of_mixW hCD hq fuel _ _ _ hC' hk
        · rename_i hw
          simp only [hw] at h1
          exact wpAny_of_mixW hCD hq fuel _ _ _ hC' h1⟩

theorem wpMixW_first (hCD : ∀ w, C w → D w) {m : Nat} {R : Act → World → Prop} {i : Nat} {oi : Oper} (fl : Bool) (hi : ops[i]? = some oi) (hsel : ∀ (j : Nat) (o : Oper) cs b, ops[j]? = some o → o.op ≠ .select cs b) :
    ∀ (fuel : Nat) (listed : Array Bool) (a : Act) (w : World), clsD C D m listed w → Shut ops listed →
      ((fl = true ∧ chain P oi = false ∧ i ≠ m) ∨ (fl = false ∧ (listed.getD m false = true ∨ (i ≠ m ∧ ((Region.before ops).getD m 0).testBit i = true)))) →
      (∀ j oj, ops[j]? = some oj → j ≠ i → listed.getD j true = false → ((Region.before ops).getD j 0).testBit i = false → oi.apart ops oj = true ∧ (chain P oi && chain P oj) = false) →
      i ∈ Region.ready .any ops listed → mixOp P ops (if fl then D else clsD C D m (listed.setIfInBounds i true)) i (wpMixW P ops C D m R fuel (listed.setIfInBounds i true)) a w → wpMixW P ops C D m R (fuel + 1) listed a w := by
  have hun : ∀ listed : Array Bool, ∀ i ∈ Region.ready .any ops listed, i < listed.size ∧ listed.getD i false = false := fun listed i hr => by
    have h0 := (mem_ready.1 hr).1
    rcases Nat.lt_or_ge i listed.size with h' | h'
    · simp [h'] at h0 ⊢; exact h0
    · simp [h'] at h0
  have hE : ∀ (listed : Array Bool) (w : World), clsD C D m listed w → (if fl then D else clsD C D m (listed.setIfInBounds i true)) w := fun listed w h => by
    cases fl with
    | true => exact clsD_sub hCD h
    | false => exact clsD_mono hCD h
  have hgo : ∀ (listed : Array Bool) (K : Act → World → Prop) (a : Act) (w : World), ((fl = true ∧ chain P oi = false ∧ i ≠ m) ∨ (fl = false ∧ (listed.getD m false = true ∨ (i ≠ m ∧ ((Region.before ops).getD m 0).testBit i = true)))) →
      mixOp P ops (if fl then D else clsD C D m (listed.setIfInBounds i true)) i K a w → mixOp P ops (clsD C D m (listed.setIfInBounds i true)) i K a w := fun listed K a w hc h => by
    rcases hc with ⟨rfl, hq, _⟩ | ⟨rfl, _⟩
    · exact mixOp_sub hi hq (fun w hw => clsD_sub hCD hw) h
    · exact h
  intro fuel
  induction fuel with
  | zero =>
    intro listed a w hC hS hcond _ hr H
    refine ⟨fun h => (by rw [h] at hr; cases hr), fun j hj => ?_⟩
    by_cases hji : j = i
    · subst hji; exact hgo _ _ _ _ hcond H
    · have := ready_mono hj hji
      obtain ⟨_, _, _, hh⟩ := mixOp_some (hE _ _ hC) H
      rw [hh.1] at this
      cases this
  | succ fuel ih =>
    intro listed a w hC hS hcond hfree hr H
    refine ⟨fun h => (by rw [h] at hr; cases hr), fun j hj => ?_⟩
    by_cases hji : j = i
    · subst hji; exact hgo _ _ _ _ hcond H
    · obtain ⟨hjun, oj, hoj, hall⟩ := mem_ready.1 hj
      obtain ⟨hisz, hiun⟩ := hun listed i hr
      have hjsz := (hun listed j hj).1
      have hnot : ((Region.before ops).getD j 0).testBit i = false := by
        cases hb : ((Region.before ops).getD j 0).testBit i with
        | false => rfl
        | true => have := hS.before j i oj hoj hall hb; rw [hiun] at this; cases this
      obtain ⟨hap, hch⟩ := hfree j oj hoj hji hjun hnot
      have h1 : mixOp P ops (if fl then D else clsD C D m (listed.setIfInBounds i true)) i (mixOp P ops (clsD C D m ((listed.setIfInBounds i true).setIfInBounds j true)) j (wpMixW P ops C D m R fuel ((listed.setIfInBounds i true).setIfInBounds j true))) a w :=
        mixOp_mono (hE _ _ hC) (fun a' w' _ hh => hh.2 j (ready_mono hj hji)) H
      have key : mixOp P ops (clsD C D m (listed.setIfInBounds j true)) j (mixOp P ops (if fl then D else clsD C D m ((listed.setIfInBounds j true).setIfInBounds i true)) i (wpMixW P ops C D m R fuel ((listed.setIfInBounds i true).setIfInBounds j true))) a w ∧
          ((fl = true ∧ chain P oi = false ∧ i ≠ m) ∨ (fl = false ∧ ((listed.setIfInBounds j true).getD m false = true ∨ (i ≠ m ∧ ((Region.before ops).getD m 0).testBit i = true)))) := by
        rcases hcond with ⟨rfl, hq, him⟩ | ⟨rfl, hcond⟩
        · refine ⟨?_, .inl ⟨rfl, hq, him⟩⟩
          have e : clsD C D m ((listed.setIfInBounds i true).setIfInBounds j true) = clsD C D m (listed.setIfInBounds j true) := by
            rw [Array.setIfInBounds_comm _ _ (Ne.symm hji)]
            unfold clsD
            rw [getD_set_ne false him]
          rw [e] at h1
          exact mixOp_swapQ (fun w hw => clsD_sub hCD hw) hi hoj hap hq (fun cs b => hsel i oi cs b hi) (fun cs b => hsel j oj cs b hoj) h1
        · simp only [Bool.false_eq_true, if_false] at h1
          cases hm : listed.getD m false with
          | true =>
            have e1 : ∀ k, (listed.setIfInBounds k true).getD m false = true := fun k => getD_set_true hm
            have e2 : ∀ k k', ((listed.setIfInBounds k true).setIfInBounds k' true).getD m false = true := fun k k' => getD_set_true (e1 k)
            rw [clsD_tt (e1 i), clsD_tt (e2 i j)] at h1
            refine ⟨?_, .inr ⟨rfl, .inl (e1 j)⟩⟩
            simp only [Bool.false_eq_true, if_false]
            rw [clsD_tt (e1 j), clsD_tt (e2 j i)]
            exact mixOp_swap hi hoj hap hch (fun cs b => hsel i oi cs b hi) (fun cs b => hsel j oj cs b hoj) h1
          | false =>
            have hcond' := hcond.resolve_left (by rw [hm]; simp)
            have hjm : j ≠ m := fun e => by subst e; rw [hnot] at hcond'; simp at hcond'
            have ei : (listed.setIfInBounds i true).getD m false = false := by rw [getD_set_ne false hcond'.1]; exact hm
            have ej : (listed.setIfInBounds j true).getD m false = false := by rw [getD_set_ne false hjm]; exact hm
            have eji : ((listed.setIfInBounds j true).setIfInBounds i true).getD m false = false := by rw [getD_set_ne false hcond'.1]; exact ej
            have eij : ((listed.setIfInBounds i true).setIfInBounds j true).getD m false = false := by rw [getD_set_ne false hjm]; exact ei
            rw [clsD_ff ei, clsD_ff eij] at h1
            refine ⟨?_, .inr ⟨rfl, .inr hcond'⟩⟩
            simp only [Bool.false_eq_true, if_false]
            rw [clsD_ff ej, clsD_ff eji]
            exact mixOp_swap hi hoj hap hch (fun cs b => hsel i oi cs b hi) (fun cs b => hsel j oj cs b hoj) h1
      obtain ⟨h2, hc2⟩ := key
      refine mixOp_mono (clsD_mono hCD hC) (fun a' w' hC' h3 => ih (listed.setIfInBounds j true) a' w' hC' (hS.set hj) hc2 ?_ (ready_mono hr (Ne.symm hji)) ?_) h2
      · intro k ok hk hki hun' hno
        refine hfree k ok hk hki ?_ hno
        by_cases hjk : j = k
        · subst hjk; exact hjun
        · rw [getD_set_ne true hjk] at hun'; exact hun'
      · rw [show (listed.setIfInBounds i true).setIfInBounds j true = (listed.setIfInBounds j true).setIfInBounds i true from Array.setIfInBounds_comm _ _ (Ne.symm hji)] at h3
        exact h3

def postW (P : Program) (ops : Array Oper) (bf : Array Nat) : List Nat → Array Bool → Bool
  | [], listed => (Region.ready .any ops listed).isEmpty
  | k :: r, listed => (Region.ready .any ops listed).contains k && mixFree P ops bf listed k && postW P ops bf r (listed.setIfInBounds k true)
def quietB (P : Program) : Option Oper → Bool
  | some o => !chain P o
  | none => false
def preW (P : Program) (ops : Array Oper) (bf : Array Nat) (m : Nat) (post : List Nat) : List (Nat × Bool) → Array Bool → Bool
  | [], listed => (Region.ready .any ops listed).contains m && (Region.ready .any ops listed).all (· == m) && postW P ops bf post (listed.setIfInBounds m true)
  | (k, fl) :: r, listed => (Region.ready .any ops listed).contains k && (k != m) && mixFree P ops bf listed k && (if fl then quietB P ops[k]? else (bf.getD m 0).testBit k) && preW P ops bf m post r (listed.setIfInBounds k true)
def orderW (P : Program) (ops : Array Oper) (pre : List (Nat × Bool)) (m : Nat) (post : List Nat) : Bool := Region.noSelect ops && (pre.length + (post.length + 1) == ops.size) && preW P ops (Region.before ops) m post pre (Array.replicate ops.size false)

def wpPostW (P : Program) (ops : Array Oper) (D : World → Prop) (R : Act → World → Prop) : List Nat → Act → World → Prop
  | [], a, w => R a w
  | k :: r, a, w => mixOp P ops D k (wpPostW P ops D R r) a w
def wpPreW (P : Program) (ops : Array Oper) (C D : World → Prop) (R : Act → World → Prop) (m : Nat) (post : List Nat) : List (Nat × Bool) → Act → World → Prop
  | [], a, w => mixOp P ops D m (wpPostW P ops D R post) a w
  | (k, fl) :: r, a, w => mixOp P ops (if fl then D else C) k (wpPreW P ops C D R m post r) a w

theorem wpMixW_post (hCD : ∀ w, C w → D w) {m : Nat} {R : Act → World → Prop} (hs : Region.noSelect ops = true) : ∀ (post : List Nat) (listed : Array Bool) (a : Act) (w : World), D w → listed.getD m false = true → Shut ops listed →
    postW P ops (Region.before ops) post listed = true → wpPostW P ops D R post a w → wpMixW P ops C D m R post.length listed a w
  | [], listed, a, w, _, _, _, hB, h => ⟨by simpa [postW] using hB, h⟩
  | k :: r, listed, a, w, hD, hm, hS, hB, h => by
    simp only [postW, Bool.and_eq_true] at hB
    obtain ⟨⟨hr, hf⟩, hB'⟩ := hB
    have hr' : k ∈ Region.ready .any ops listed := by simpa using hr
    obtain ⟨_, ok, hok, _⟩ := mem_ready.1 hr'
    refine wpMixW_first hCD (i := k) (oi := ok) false hok (Region.noSelect_spec hs) r.length listed a w (by rw [clsD_tt hm]; exact hD) hS (.inr ⟨rfl, .inl hm⟩) (mixFree_spec hok hf) hr' ?_
    simp only [Bool.false_eq_true, if_false]
    rw [clsD_tt (getD_set_true hm)]
    exact mixOp_mono hD (fun a' w' hD' hh => wpMixW_post hCD hs r _ a' w' hD' (getD_set_true hm) (hS.set hr') hB' hh) h

theorem wpMixW_pre (hCD : ∀ w, C w → D w) {m : Nat} {post : List Nat} {R : Act → World → Prop} (hs : Region.noSelect ops = true) : ∀ (pre : List (Nat × Bool)) (listed : Array Bool) (a : Act) (w : World), C w → listed.getD m false = false → Shut ops listed →
    preW P ops (Region.before ops) m post pre listed = true → wpPreW P ops C D R m post pre a w → wpMixW P ops C D m R (pre.length + (post.length + 1)) listed a w
  | [], listed, a, w, hC, hm, hS, hB, h => by
    simp only [preW, Bool.and_eq_true, List.all_eq_true, beq_iff_eq] at hB
    obtain ⟨⟨hr, hall⟩, hB'⟩ := hB
    have hr' : m ∈ Region.ready .any ops listed := by simpa using hr
    have hsz : m < listed.size := by
      have h0 := (mem_ready.1 hr').1
      rcases Nat.lt_or_ge m listed.size with h' | h'
      · exact h'
      · simp [h'] at h0
    have em : (listed.setIfInBounds m true).getD m false = true := by simp [hsz]
    rw [List.length_nil, Nat.zero_add]
    refine ⟨fun h0 => (by rw [h0] at hr'; cases hr'), fun i hi => ?_⟩
    rw [hall i hi]
    rw [clsD_tt em]
    exact mixOp_mono (hCD w hC) (fun a' w' hD' hh => wpMixW_post hCD hs post _ a' w' hD' em (hS.set hr') hB' hh) h
  | (k, fl) :: r, listed, a, w, hC, hm, hS, hB, h => by
    simp only [preW, Bool.and_eq_true, bne_iff_ne, ne_eq] at hB
    obtain ⟨⟨⟨⟨hr, hkm⟩, hf⟩, hst⟩, hB'⟩ := hB
    have hr' : k ∈ Region.ready .any ops listed := by simpa using hr
    obtain ⟨_, ok, hok, _⟩ := mem_ready.1 hr'
    have em : (listed.setIfInBounds k true).getD m false = false := by rw [getD_set_ne false hkm]; exact hm
    rw [List.length_cons, Nat.add_right_comm]
    have hcl : clsD C D m listed w := by rw [clsD_ff hm]; exact hC
    cases fl with
    | true =>
      simp only [if_true] at hst
      rw [hok] at hst
      have hq : chain P ok = false := by simpa [quietB] using hst
      refine wpMixW_first hCD (i := k) (oi := ok) true hok (Region.noSelect_spec hs) _ listed a w hcl hS (.inl ⟨rfl, hq, hkm⟩) (mixFree_spec hok hf) hr' ?_
      simp only [if_true]
      have h : mixOp P ops D k (wpPreW P ops C D R m post r) a w := h
      exact mixOp_monoQ hok hq (fun a' hh => wpMixW_pre hCD hs r _ a' w hC em (hS.set hr') hB' hh) h
    | false =>
      simp only [Bool.false_eq_true, if_false] at hst
      refine wpMixW_first hCD (i := k) (oi := ok) false hok (Region.noSelect_spec hs) _ listed a w hcl hS (.inr ⟨rfl, .inr ⟨hkm, hst⟩⟩) (mixFree_spec hok hf) hr' ?_
      simp only [Bool.false_eq_true, if_false]
      rw [clsD_ff em]
      have h : mixOp P ops C k (wpPreW P ops C D R m post r) a w := h
      exact mixOp_mono hC (fun a' w' hC' hh => wpMixW_pre hCD hs r _ a' w' hC' em (hS.set hr') hB' hh) h
end

section
variable {P : Program}
def vcPostW (P : Program) (ops : List Oper) (D : World → Prop) (R : Fr → World → Prop) : (l : List Nat) → Fr → World → Ph (ops, D, R, l) → Prop
  | [], t, w, _ => R t w
  | k :: r, t, w, _ => stepK P ops D ops[k]? (fun t w => vcPostW P ops D R r t w .mk) t w .mk
def vcPreW (P : Program) (ops : List Oper) (C D : World → Prop) (R : Fr → World → Prop) (m : Nat) (post : List Nat) : (l : List (Nat × Bool)) → Fr → World → Ph (ops, C, D, R, m, post, l) → Prop
  | [], t, w, _ => stepK P ops D ops[m]? (fun t w => vcPostW P ops D R post t w .mk) t w .mk
  | (k, true) :: r, t, w, _ => stepK P ops D ops[k]? (fun t w => vcPreW P ops C D R m post r t w .mk) t w .mk
  | (k, false) :: r, t, w, _ => stepK P ops C ops[k]? (fun t w => vcPreW P ops C D R m post r t w .mk) t w .mk

theorem wpPostW_of {ops : List Oper} {D : World → Prop} {R : Fr → World → Prop} {N : Act → World → Prop} (hn : ∀ t w, R t w → N ⟨t.toArray, []⟩ w) : ∀ (l : List Nat) (t : Fr) (w : World), vcPostW P ops D R l t w .mk → wpPostW P ops.toArray D N l ⟨t.toArray, []⟩ w
  | [], t, w, h => hn t w h
  | k :: r, t, w, h => mixOp_of_stepK (fun t w => wpPostW_of hn r t w) h
theorem wpPreW_of {ops : List Oper} {C D : World → Prop} {R : Fr → World → Prop} {N : Act → World → Prop} {m : Nat} {post : List Nat} (hn : ∀ t w, R t w → N ⟨t.toArray, []⟩ w) : ∀ (l : List (Nat × Bool)) (t : Fr) (w : World), vcPreW P ops C D R m post l t w .mk → wpPreW P ops.toArray C D N m post l ⟨t.toArray, []⟩ w
  | [], t, w, h => mixOp_of_stepK (fun t w => wpPostW_of hn post t w) h
  | (k, true) :: r, t, w, h => mixOp_of_stepK (fun t w => wpPreW_of hn r t w) h
  | (k, false) :: r, t, w, h => mixOp_of_stepK (fun t w => wpPreW_of hn r t w) h

/-- A region that draws its order, walked in a told order, with two classes. -/
theorem wpL_wide {id : Nat} {l : List Oper} {t : Fr} {w : World} {Q : EP} {p} (pre : List (Nat × Bool)) (m : Nat) (post : List Nat) (C D : World → Prop) (hm : P.follows .mixedOrders = true) (hB : orderW P l.toArray pre m post = true) (hCD : ∀ w, C w → D w) (hC : C w.drew)
    (h : vcPreW P l C D (Q .normal) m post pre t w.drew .mk) : wpL P (.region id l.toArray true) Q t w p := by
  unfold wpL
  simp only [orderW, Bool.and_eq_true, beq_iff_eq] at hB
  refine wp_region_any hm ?_
  have hG : wpMixW P l.toArray C D m (fun a w => lift Q .normal a w) (pre.length + (post.length + 1)) (Array.replicate l.toArray.size false) ⟨t.toArray, []⟩ w.drew := by
    refine wpMixW_pre hCD hB.1.1 pre _ _ _ hC (by rw [Array.getD_eq_getD_getElem?, Array.getElem?_replicate]; split <;> rfl) (fun j o _ hl => by simp [Array.getElem?_replicate] at hl; split at hl <;> simp at hl) hB.2 ?_
    exact wpPreW_of (P := P) (R := Q .normal) (N := fun a w => lift Q .normal a w) (fun t w hk => ⟨rfl, by simpa using hk⟩) pre t w.drew h
  rw [hB.1.2] at hG
  exact wpAny_of_mixW hCD (R := fun a w => lift Q .normal a w) (Q := fun e a w => lift Q e a w) (fun _ _ h => h) _ _ _ _ (by rw [clsD_ff (by rw [Array.getD_eq_getD_getElem?, Array.getElem?_replicate]; split <;> rfl)]; exact hC) hG

variable {t : Fr} {w : World} {C D : World → Prop} {R : Fr → World → Prop}
theorem vcPostW_nil (ops) (p) : vcPostW P ops D R [] t w p = R t w := (rfl)
theorem vcPostW_cons (ops k r) (p) : vcPostW P ops D R (k :: r) t w p = stepK P ops D ops[k]? (fun t w => vcPostW P ops D R r t w .mk) t w .mk := (rfl)
theorem vcPreW_nil (ops m post) (p) : vcPreW P ops C D R m post [] t w p = stepK P ops D ops[m]? (fun t w => vcPostW P ops D R post t w .mk) t w .mk := (rfl)
theorem vcPreW_true (ops m post k r) (p) : vcPreW P ops C D R m post ((k, true) :: r) t w p = stepK P ops D ops[k]? (fun t w => vcPreW P ops C D R m post r t w .mk) t w .mk := (rfl)
theorem vcPreW_false (ops m post k r) (p) : vcPreW P ops C D R m post ((k, false) :: r) t w p = stepK P ops C ops[k]? (fun t w => vcPreW P ops C D R m post r t w .mk) t w .mk := (rfl)
end
attribute [push_cast] vcPostW_nil vcPostW_cons vcPreW_nil vcPreW_true vcPreW_false
attribute [irreducible] vcPostW vcPreW
end Go.Vc
end
section
namespace Go.Vc
open Go.RowKit
theorem Own.at0R {α : Type} {base k : Nat} {e : TypeId} {enc : α → List Value} {w : World} {b o n c : Nat} {l : List α} (h : Vc.Own base e k enc w (.slice (some ⟨b, o, none⟩) n c) l) : o = 0 := by
  rcases h.1.2 with ⟨he, _⟩ | ⟨g, cap, cr, he, _⟩
  · cases he
  · cases he; rfl
section
variable {P : Program} {t : Fr} {w : World} {C : World → Prop} {K : VK}
theorem mixK_max (d) (args : List Operand) (aty ty pos af g) (p) : mixK P ⟨d, .call { callee := .builtin .max, args := args.toArray, argTypes := aty }, ty, pos, af, g⟩ t w C K p =
    mmK true (args.map (ev t)) (K · w) False .mk := rfl
theorem mixK_min (d) (args : List Operand) (aty ty pos af g) (p) : mixK P ⟨d, .call { callee := .builtin .min, args := args.toArray, argTypes := aty }, ty, pos, af, g⟩ t w C K p =
    mmK false (args.map (ev t)) (K · w) False .mk := rfl
end
attribute [push_cast] mixK_max mixK_min
/-- A contract of the library's shelf. -/
theorem fun_of_calls {P : Program} {f : FuncId} {fn : Func} {args : List Value} {w : World} {R : VK} (hf : P.funcs[f]? = some fn) (hb : fn.body.isNone = false) (hn : (fn.name == "runtime.NumGoroutine") = false)
    (h : Calls P f args.toArray w fun e w' => ∃ v, e = .returned v ∧ R v w') : Fun P f args w R := ⟨callFunc_enter hf hb hn, h⟩
theorem ownFresh {α : Type} {w : World} {e : TypeId} {k g G : Nat} {enc : α → List Value} {cur : Array Value} (hk : ∀ x, (enc x).length = k) (hb : w.heap[g]? = some (.cells cur e (0, 0))) (hG : G ≤ maxLen) (hs : cur.size = G * k) : Vc.Own g e k enc w (.slice (some ⟨g, 0, none⟩) 0 G) ([] : List α) :=
  ⟨⟨by simp, .inr ⟨g, G, cur, rfl, Nat.le_refl _, hb, Nat.zero_le _, hG, hs, by simp⟩⟩, hk⟩
theorem calls_of_fun {P : Program} {f : FuncId} {args : List Value} {w : World} {R : VK} (h : Fun P f args w R) : Calls P f args.toArray w fun e w' => ∃ v, e = .returned v ∧ R v w' := h.2
end Go.Vc
namespace Go.Proofs.YtiofleijieepgaaGreatDoor
open Go.Vc Go.Proofs Go.RowKit Cae
set_option maxRecDepth 100000
set_option linter.unusedSimpArgs false
set_option linter.unusedVariables false
attribute [local irreducible] wpL callK valK unitK runK Fun Sl Vc.Own vc vcOps opK pureK
set_option maxHeartbeats 4000000

end Go.Proofs.YtiofleijieepgaaGreatDoor
namespace Go.RowKit
theorem Below.tr {a b c : World} (h : Below a.heap.size a b) (k : Below b.heap.size b c) : Below a.heap.size a c := h.trans (k.mono h.size)
end Go.RowKit
end
section
namespace Cae
/-- The sign of a digit. -/
def dig (n : Nat) : UInt8 := if n < 10 then UInt8.ofNat (48 + n) else UInt8.ofNat (87 + n)
def hexF : Nat → Nat → List UInt8 → List UInt8
  | 0, n, acc => dig n :: acc
  | f + 1, n, acc => if n < 16 then dig n :: acc else hexF f (n / 16) (dig (n % 16) :: acc)
/-- A number, in hexadecimal digits. -/
def hexP (n : Nat) : List UInt8 := hexF 8 n []
theorem hexF_len : ∀ (f n : Nat) (acc : List UInt8), (hexF f n acc).length ≤ f + 1 + acc.length
  | 0, n, acc => by rw [hexF]; simp; omega
  | f + 1, n, acc => by
    rw [hexF]
    split
    · simp; omega
    · have := hexF_len f (n / 16) (dig (n % 16) :: acc)
      rw [List.length_cons] at this
      omega
theorem hexP_len (n : Nat) : (hexP n).length ≤ 9 := hexF_len 8 n []
end Cae
namespace Go.Vc
open Go.RowKit
/-- A slice over the end of a block that is told. -/
theorem slBlkAt {α : Type} {f : α → Value} {w : World} {b c j n : Nat} {e : TypeId} {l : List α} {cs : List Value} (hB : Blk w b e cs) (hd : cs.drop j = l.map f) (hn : n = l.length) (hc : l.length ≤ c) : Sl (fun _ => False) 1 (En (fun x => [f x])) w (.slice (some ⟨b, j, none⟩) n c) l := by
  subst hn
  refine ⟨_, _, rfl, hc, fun i x hx => ⟨b, j, [f x], rfl, id, rfl, fun k u hu => ?_, rfl⟩⟩
  cases k with
  | zero =>
    simp at hu; subst hu
    rw [Nat.mul_one, Nat.add_zero]
    refine hB.cell ?_
    have h1 : (cs.drop j)[i]? = some (f x) := by rw [hd, List.getElem?_map, hx]; rfl
    rwa [List.getElem?_drop] at h1
  | succ k => simp at hu
end Go.Vc
namespace Go.Proofs.YtiofleijieepgaaGreatDoor
open Go.Vc Go.Proofs Go.RowKit Cae
set_option maxRecDepth 100000
set_option linter.unusedSimpArgs false
set_option linter.unusedVariables false
attribute [local irreducible] wpL callK valK unitK runK Fun Sl Vc.Own vc vcOps opK pureK
set_option maxHeartbeats 4000000

/-- The one place of the table of trailing zeros that is asked. -/
def Db (w : World) : Prop := w.cell? ⟨12, 15, none⟩ = some (.int .u8 4)
theorem Db.below {w w' : World} {B : Nat} (h : Db w) (hb : Below B w w') (hB : 12 < B) : Db w' := (hb.cell hB).trans h
theorem Db.lt {w : World} (h : Db w) : 12 < w.heap.size := World.block_lt_of_cell? w _ h

theorem bits_and_u64 {x y : Nat} (hx : x < 18446744073709551616) (hy : y < 18446744073709551616) : bitop .and .u64 x y = ((x &&& y : Nat) : Int) := by
  simp only [bitop, ofInt_nat, BitVec.toNat_and, BitVec.toNat_ofNat]
  rw [Nat.mod_eq_of_lt (show x < 2 ^ IntKind.u64.bits by show x < 2 ^ 64; omega), Nat.mod_eq_of_lt (show y < 2 ^ IntKind.u64.bits by show y < 2 ^ 64; omega), wrap_u64_nat, Nat.mod_eq_of_lt (and_lt (n := 64) hx)]
theorem digTab : ∀ d : Nat, d < 16 → ([48, 49, 50, 51, 52, 53, 54, 55, 56, 57, 97, 98, 99, 100, 101, 102, 103, 104, 105, 106, 107, 108, 109, 110, 111, 112, 113, 114, 115, 116, 117, 118, 119, 120, 121, 122] : List UInt8).getD d 0 = dig d := by decide
theorem pow2_c (w : World) : Fun Tryz.prog 171 [.int .i64 16] w fun r w' => r = .bool true ∧ w' = w := by
  refine fun_of_vc Tryz.func171 rfl (by kernel_rfl) [2] rfl ?_
  simp -dsimp (maxSteps := 4000000) only [push_cast, fr0, Tryz.ntmps171, List.length_cons, List.length_nil, Nat.reduceAdd, Nat.reduceSub, Nat.reduceBEq, List.replicate_succ, List.replicate_zero]
  have e1 : bitop .and .i64 16 (16 - 1) = 0 := by decide +kernel
  rw [e1]
  exact ⟨by omega, rfl⟩
theorem tz64_c (w : World) (h : Db w) : Fun Tryz.prog 180 [.int .u64 16] w fun r w' => r = .int .i64 4 ∧ w' = w := by
  refine fun_of_vc Tryz.func180 rfl (by kernel_rfl) [2] rfl ?_
  simp -dsimp (maxSteps := 4000000) only [push_cast, fr0, Tryz.ntmps180, List.length_cons, List.length_nil, Nat.reduceAdd, Nat.reduceSub, Nat.reduceBEq, List.replicate_succ, List.replicate_zero]
  simp -dsimp only [push_cast, Nat.reduceAdd, Nat.reduceLeDiff, Nat.reduceBEq, decide_true, ne_eq, eq_self, not_true_eq_false, not_false_eq_true, true_imp_iff, false_imp_iff, Int.reduceNe, Int.reduceEq, Int.reduceLT, Int.reduceLE, Bool.not_true, Bool.not_false]
  have e1 : (IntKind.u64.wrap (bitop .and .u64 16 (IntKind.u64.wrap (0 - 16)) * 285870213051353865)).fdiv (2 ^ min (Int.toNat 58) IntKind.u64.bits) = 15 := by decide +kernel
  rw [e1]
  have h' : w.cell? ⟨12, Int.toNat 15, none⟩ = some (.int .u8 4) := h
  simp -dsimp only [push_cast, Nat.reduceAdd, Nat.reduceLeDiff, Nat.reduceBEq, decide_true, ne_eq, eq_self, not_true_eq_false, not_false_eq_true, true_imp_iff, false_imp_iff, Int.reduceNe, Int.reduceEq, Int.reduceLT, Int.reduceLE, Bool.not_true, Bool.not_false, h']
  exact ⟨by omega, by rfl⟩
theorem tz_c (w : World) (h : Db w) : Fun Tryz.prog 172 [.int .u64 16] w fun r w' => r = .int .i64 4 ∧ w' = w := by
  refine fun_of_vc Tryz.func172 rfl (by kernel_rfl) [2] rfl ?_
  simp -dsimp (maxSteps := 4000000) only [push_cast, fr0, Tryz.ntmps172, List.length_cons, List.length_nil, Nat.reduceAdd, Nat.reduceSub, Nat.reduceBEq, List.replicate_succ, List.replicate_zero]
  refine callK_of (tz64_c w h) ?_
  rintro _ w1 ⟨rfl, rfl⟩
  simp -dsimp only [push_cast, Nat.reduceAdd, Nat.reduceLeDiff, Nat.reduceBEq, decide_true]
theorem sliceArrK {P : Program} {xt : TypeId} {n s : Nat} {e : TypeId} {E : Option (TypeId × Nat)} {a : Addr} {j : Nat} {L : VP} {o : Oper} {t : Fr} {w : World} {K : VK} {Q : EP} {p} (hu : P.underlying xt = some (.array n e)) (hn : P.arrayLen xt = n) (he : P.elem xt = e)
    (hs : (sizeOf e).run P w = .ok s w) (ho : execOp (ev t) o = (do pure (.value (← Instr.sliceAt xt (.pointer (some a)) (some (.int .i64 (j : Int))) none none)))) (hj : j < n)
    (k : K (.slice (some (a.add (j * s))) (n - j) (n - j)) w) : sliceK (P.underlying xt) E (.pointer (some a)) (some (.int .i64 (j : Int))) none none L (runK P o t w K Q .mk) p := by
  rw [hu]
  show runK P o t w K Q .mk
  refine runK_val ho (valK_of ?_ k)
  rw [run_sliceAt_array_l w xt a (by rw [hu, hn, he]) .i64 (j : Int) (by omega) (by rw [hn]; omega), he, hs]
  rw [hn]
  unfold slicedAt
  rw [Int.toNat_natCast]
  show Result.ok (Value.slice (some (if n = j then a else a.add (j * s))) (n - j) (n - j)) w = _
  rw [if_neg (by omega)]
theorem formatBits_c (n : Nat) (hn : n < 4294967296) (w : World) (h : Db w) :
    Fun Tryz.prog 153 [.slice none 0 0, .int .u64 (n : Int), .int .i64 16, .bool false, .bool false] w fun r w' => r = .tuple #[.slice none 0 0, str (hexP n)] ∧ Below w.heap.size w w' := by
  refine fun_of_vc Tryz.func153 rfl (by kernel_rfl) [10, 11] rfl ?_
  simp -dsimp (maxSteps := 4000000) only [push_cast, fr0, Tryz.ntmps153, List.length_cons, List.length_nil, Nat.reduceAdd, Nat.reduceSub, Nat.reduceBEq, List.replicate_succ, List.replicate_zero]
  simp -dsimp only [push_cast, Nat.reduceAdd, Nat.reduceLeDiff, Nat.reduceBEq, decide_true, ne_eq, eq_self, not_true_eq_false, not_false_eq_true, true_imp_iff, false_imp_iff, Int.reduceNe, Int.reduceEq, Int.reduceLT, Int.reduceLE, Bool.not_true, Bool.not_false]
  refine allocK (z := List.replicate 65 (.int .u8 0)) (by kernel_rfl) ?_
  intro w1 hw1
  have sz1 := hw1.size
  have hb1 := hw1.below
  simp -dsimp only [push_cast, Nat.reduceAdd, Nat.reduceLeDiff, Nat.reduceBEq, decide_true, ne_eq, eq_self, not_true_eq_false, not_false_eq_true, true_imp_iff, false_imp_iff, Int.reduceNe, Int.reduceEq, Int.reduceLT, Int.reduceLE, Bool.not_true, Bool.not_false]
  refine callK_of (pow2_c w1) ?_
  rintro _ w2 ⟨rfl, rfl⟩
  simp -dsimp only [push_cast, Nat.reduceAdd, Nat.reduceLeDiff, Nat.reduceBEq, decide_true, ne_eq, eq_self, not_true_eq_false, not_false_eq_true, true_imp_iff, false_imp_iff, Int.reduceNe, Int.reduceEq, Int.reduceLT, Int.reduceLE, Bool.not_true, Bool.not_false]
  have e4 : IntKind.u64.wrap 4 = 4 := by decide
  have e16 : IntKind.u64.wrap 16 = 16 := by decide
  have e15 : IntKind.u64.wrap (16 - 1) = 15 := by decide
  refine callK_of (tz_c w2 (h.below hb1 h.lt)) ?_
  rintro _ w3 ⟨rfl, rfl⟩
  simp -dsimp only [push_cast, Nat.reduceAdd, Nat.reduceLeDiff, Nat.reduceBEq, decide_true, ne_eq, eq_self, not_true_eq_false, not_false_eq_true, true_imp_iff, false_imp_iff, Int.reduceNe, Int.reduceEq, Int.reduceLT, Int.reduceLE, Bool.not_true, Bool.not_false, e4, e16, e15]
  refine wpL_loop [1, 13, 44, 45, 46, 47, 48, 49, 50, 51, 52, 53, 54, 55, 56, 57] (fun z wx => ∃ (f m i : Nat) (acc : List UInt8) (cs : List Value), z 1 = .int .u64 (m : Int) ∧ z 13 = .int .i64 (i : Int) ∧ i = 57 + f ∧ f ≤ 8 ∧ m < 16 ^ (f + 1) ∧ hexF f m acc = hexP n ∧ cs.length = 65 ∧ cs.drop i = acc.map (fun b => .int .u8 (b.toNat : Int)) ∧ Blk wx w.heap.size 230 cs ∧ Below w.heap.size w wx) (fun z _ => (intOf (z 13)).toNat) ?_ ?_
  · refine ⟨8, n, 65, [], _, rfl, rfl, rfl, Nat.le_refl _, by omega, rfl, List.length_replicate .., ?_, hw1.blk, hb1⟩
    rfl
  · intro z wx hI
    obtain ⟨f, m, i, acc, cs, h1, h13, hif, hf, hm, hh, hcl, hcd, hB, hbx⟩ := hI
    have szx := hbx.size
    have hm64 : m < 18446744073709551616 := Nat.lt_of_lt_of_le hm (Nat.le_trans (Nat.pow_le_pow_right (by omega) (show f + 1 ≤ 9 by omega)) (by decide))
    have hgd : ∃ d, m % 16 = d := ⟨_, rfl⟩
    obtain ⟨d, hd⟩ := hgd
    have hd16 : d < 16 := by omega
    have ea : bitop .and .u64 (m : Int) 15 = (d : Int) := by
      rw [show (15 : Int) = ((2 ^ 4 - 1 : Nat) : Int) from rfl, bits_and_u64 hm64 (by omega), and_mask, ← hd]
    have hq : ∃ q, m / 16 = q := ⟨_, rfl⟩
    obtain ⟨q, hq⟩ := hq
    have es : (m : Int).fdiv (2 ^ min (Int.toNat 4) IntKind.u64.bits) = (q : Int) := by
      rw [shr_nat (k := 4) rfl (by decide), ← hq]
    have hi1 : ∃ j, i = j + 1 := ⟨i - 1, by omega⟩
    obtain ⟨j, rfl⟩ := hi1
    have ej : ((j : Nat) : Int) + 1 - 1 = (j : Int) := by omega
    simp -dsimp only [push_cast, Nat.reduceAdd, Nat.reduceLeDiff, Nat.reduceBEq, decide_true, ne_eq, eq_self, not_true_eq_false, not_false_eq_true, true_imp_iff, false_imp_iff, Int.reduceNe, Int.reduceEq, Int.reduceLT, Int.reduceLE, Bool.not_true, Bool.not_false, h1, h13, ea, es, ej]
    refine ⟨fun hge => ?_, fun hlt => ?_⟩
    · refine ⟨⟨by omega, by omega⟩, ⟨by omega, by omega⟩, ⟨by omega, by omega⟩, ?_⟩
      rw [digTab d hd16]
      refine storeK_of hB (by omega) rfl ?_
      intro w5 hw5
      have sz5 : w5.heap.size = wx.heap.size := hw5.size
      simp -dsimp only [push_cast, Nat.reduceAdd, Nat.reduceLeDiff, Nat.reduceBEq, decide_true, ne_eq, eq_self, not_true_eq_false, not_false_eq_true, true_imp_iff, false_imp_iff, Int.reduceNe, Int.reduceEq, Int.reduceLT, Int.reduceLE, Bool.not_true, Bool.not_false, es]
      cases f with
      | zero => exact absurd hm (by omega)
      | succ f =>
        rw [hexF, if_neg (by omega), hq, hd] at hh
        refine ⟨⟨f, q, j, dig d :: acc, _, rfl, rfl, by omega, by omega, ?_, hh, by rw [List.length_set]; exact hcl, ?_, hw5.blk, hbx.trans (hw5.kept.below szx (fun g hg => Nat.le_of_eq (Eq.symm hg)))⟩, by rw [h13]; simp only [intOf]; omega⟩
        · rw [← hq]
          refine Nat.div_lt_of_lt_mul ?_
          rw [Nat.mul_comm, ← Nat.pow_succ]; exact hm
        · rw [List.drop_set, if_neg (by omega), Nat.sub_self, List.drop_eq_getElem_cons (by omega), List.set_cons_zero, hcd, List.map_cons]
    · have hh' : dig m :: acc = hexP n := by
        rw [← hh]
        cases f with
        | zero => rfl
        | succ f => rw [hexF, if_pos (by omega)]
      have hm36 : m < 16 := by omega
      refine ⟨⟨by omega, by omega⟩, ⟨by omega, by omega⟩, ⟨by omega, by omega⟩, ?_⟩
      rw [digTab m hm36]
      refine storeK_of hB (by omega) rfl ?_
      intro w5 hw5
      have sz5 : w5.heap.size = wx.heap.size := hw5.size
      simp -dsimp only [push_cast, Nat.reduceAdd, Nat.reduceLeDiff, Nat.reduceBEq, decide_true, ne_eq, eq_self, not_true_eq_false, not_false_eq_true, true_imp_iff, false_imp_iff, Int.reduceNe, Int.reduceEq, Int.reduceLT, Int.reduceLE, Bool.not_true, Bool.not_false]
      refine sliceArrK (n := 65) (s := 1) (e := 5) (by kernel_rfl) (by kernel_rfl) (by kernel_rfl) (by rfl) rfl (by omega) ?_
      simp -dsimp only [push_cast, Nat.reduceAdd, Nat.reduceLeDiff, Nat.reduceBEq, decide_true, ne_eq, eq_self, not_true_eq_false, not_false_eq_true, true_imp_iff, false_imp_iff, Int.reduceNe, Int.reduceEq, Int.reduceLT, Int.reduceLE, Bool.not_true, Bool.not_false]
      have hsl : Sl (fun _ => False) 1 (En encB) w5 (.slice (some ⟨w.heap.size, j, none⟩) (65 - j) (65 - j)) (dig m :: acc) := by
        refine slBlkAt (f := fun b : UInt8 => .int .u8 (b.toNat : Int)) hw5.blk ?_ ?_ ?_
        · rw [List.drop_set, if_neg (by omega), Nat.sub_self, List.drop_eq_getElem_cons (by omega), List.set_cons_zero, hcd, List.map_cons]
        · have := congrArg List.length hcd
          rw [List.length_drop, List.length_map, hcl] at this
          rw [List.length_cons]; omega
        · have := congrArg List.length hcd
          rw [List.length_drop, List.length_map, hcl] at this
          rw [List.length_cons]; omega
      refine strK (e := 5) (by kernel_rfl) (by kernel_rfl) (by kernel_rfl) hsl ?_
      simp -dsimp only [push_cast, Nat.reduceAdd, Nat.reduceLeDiff, Nat.reduceBEq, decide_true, ne_eq, eq_self, not_true_eq_false, not_false_eq_true, true_imp_iff, false_imp_iff, Int.reduceNe, Int.reduceEq, Int.reduceLT, Int.reduceLE, Bool.not_true, Bool.not_false]
      rw [hh']
      exact ⟨rfl, hbx.trans (hw5.kept.below szx (fun g hg => Nat.le_of_eq (Eq.symm hg)))⟩
theorem fmtInt_c (n : Nat) (hn : n < 4294967296) (w : World) (h : Db w) : Fun Tryz.prog 122 [.int .i64 (n : Int), .int .i64 16] w fun r w' => r = str (hexP n) ∧ Below w.heap.size w w' := by
  refine fun_of_vc Tryz.func122 rfl (by kernel_rfl) [4] rfl ?_
  simp -dsimp (maxSteps := 4000000) only [push_cast, fr0, Tryz.ntmps122, List.length_cons, List.length_nil, Nat.reduceAdd, Nat.reduceSub, Nat.reduceBEq, List.replicate_succ, List.replicate_zero]
  have e1 : IntKind.u64.wrap (n : Int) = (n : Int) := by rw [wrap_u64_nat, Nat.mod_eq_of_lt (by omega)]
  have e2 : decide ((n : Int) < 0) = false := decide_eq_false (by omega)
  simp -dsimp only [push_cast, Nat.reduceAdd, Nat.reduceLeDiff, Nat.reduceBEq, decide_true, ne_eq, eq_self, not_true_eq_false, not_false_eq_true, true_imp_iff, false_imp_iff, Int.reduceNe, Int.reduceEq, Int.reduceLT, Int.reduceLE, Bool.not_true, Bool.not_false, e1, e2]
  refine callK_of (formatBits_c n hn w h) ?_
  rintro _ w1 ⟨rfl, hb⟩
  simp -dsimp only [push_cast, Nat.reduceAdd, Nat.reduceLeDiff, Nat.reduceBEq, decide_true, ne_eq, eq_self, not_true_eq_false, not_false_eq_true, true_imp_iff, false_imp_iff, Int.reduceNe, Int.reduceEq, Int.reduceLT, Int.reduceLE, Bool.not_true, Bool.not_false]
  exact hb
theorem fmtI_c (n : Nat) (hn : n < 4294967296) (w : World) (h : Db w) : Fun Tryz.prog 105 [.int .i64 (n : Int), .int .i64 16] w fun r w' => r = str (hexP n) ∧ Below w.heap.size w w' := by
  refine fun_of_vc Tryz.func105 rfl (by kernel_rfl) [4] rfl ?_
  simp -dsimp (maxSteps := 4000000) only [push_cast, fr0, Tryz.ntmps105, List.length_cons, List.length_nil, Nat.reduceAdd, Nat.reduceSub, Nat.reduceBEq, List.replicate_succ, List.replicate_zero]
  refine callK_of (fmtInt_c n hn w h) ?_
  rintro _ w1 ⟨rfl, hb⟩
  simp -dsimp only [push_cast, Nat.reduceAdd, Nat.reduceLeDiff, Nat.reduceBEq, decide_true, ne_eq, eq_self, not_true_eq_false, not_false_eq_true, true_imp_iff, false_imp_iff, Int.reduceNe, Int.reduceEq, Int.reduceLT, Int.reduceLE, Bool.not_true, Bool.not_false]
  exact hb
theorem hex_c (n : Nat) (hn : n < 4294967296) (w : World) (h : Db w) : Fun Tryz.prog 96 [.int .i64 (n : Int)] w fun r w' => r = str (hexP n) ∧ Below w.heap.size w w' := by
  refine fun_of_vc Tryz.func96 rfl (by kernel_rfl) [2] rfl ?_
  simp -dsimp (maxSteps := 4000000) only [push_cast, fr0, Tryz.ntmps96, List.length_cons, List.length_nil, Nat.reduceAdd, Nat.reduceSub, Nat.reduceBEq, List.replicate_succ, List.replicate_zero]
  refine callK_of (fmtI_c n hn w h) ?_
  rintro _ w1 ⟨rfl, hb⟩
  simp -dsimp only [push_cast, Nat.reduceAdd, Nat.reduceLeDiff, Nat.reduceBEq, decide_true, ne_eq, eq_self, not_true_eq_false, not_false_eq_true, true_imp_iff, false_imp_iff, Int.reduceNe, Int.reduceEq, Int.reduceLT, Int.reduceLE, Bool.not_true, Bool.not_false]
  exact hb
end Go.Proofs.YtiofleijieepgaaGreatDoor
end
section
namespace Go.Vc
open Go.RowKit
/-- A string, in a cell. -/
def encS (b : List UInt8) : List Value := [str b]
theorem Sl.strs {X : Nat → Prop} {w : World} {v : Value} {x : List UInt8} {l : List (List UInt8)} (h : Sl X 1 (En encS) w v (x :: l)) : ∃ b o c, v = .slice (some ⟨b, o, none⟩) (x :: l).length c ∧ (x :: l).length ≤ c ∧ b < w.heap.size ∧ ∀ (j : Nat) y, ((x :: l).map fun t : List UInt8 => (⟨t.toArray⟩ : ByteArray))[j]? = some y → w.cell? ⟨b, o + j, none⟩ = some (.string y) := by
  obtain ⟨a, c, rfl, hc, hel⟩ := h
  have h0 := hel 0 x rfl
  obtain ⟨b, o, cs, rfl, hb, hcs, hcell, hr⟩ := h0
  have hall : ∀ (j : Nat) y, ((x :: l).map fun t : List UInt8 => (⟨t.toArray⟩ : ByteArray))[j]? = some y → w.cell? ⟨b, o + j, none⟩ = some (.string y) := by
    intro j y hy
    rw [List.getElem?_map] at hy
    cases hx : (x :: l)[j]? with
    | none => rw [hx] at hy; cases hy
    | some t =>
      rw [hx] at hy
      cases hy
      have h1 := hel j t hx
      obtain ⟨b1, o1, cs1, he, hb1, hcs1, hcell1, hr1⟩ := h1
      cases he
      have := hcell1 0 (str t) (by rw [hr1]; rfl)
      rwa [Nat.mul_one, Nat.add_zero] at this
  exact ⟨b, o, c, rfl, hc, World.block_lt_of_cell? w _ (hall 0 _ rfl), hall⟩
end Go.Vc
namespace Go.Proofs.YtiofleijieepgaaGreatDoor
open Go.Vc Go.Proofs Go.RowKit Cae
set_option maxRecDepth 100000
set_option linter.unusedSimpArgs false
set_option linter.unusedVariables false
attribute [local irreducible] wpL callK valK unitK runK Fun Sl Vc.Own vc vcOps opK pureK
set_option maxHeartbeats 4000000

def joinR_ren : Go.Shelf.Ren := ⟨fun | 156 => 97 | 165 => 121 | 166 => 31 | 169 => 34 | 240 => 62 | 241 => 149 | 276 => 95 | 277 => 167 | n => n, fun | 31 => 61 | 9 => 9 | 3 => 3 | 4 => 4 | 0 => 0 | 20 => 20 | 72 => 77 | 76 => 78 | 70 => 74 | 37 => 75 | 75 => 29 | 127 => 108 | 164 => 141 | 5 => 5 | 80 => 82 | n => n, fun | n => n⟩
theorem joinR : Go.Proofs.Lays.n156 Tryz.prog joinR_ren := {
  mixed := by kernel_rfl
  f156 := Tryz.func97.trans (congrArg some (by kernel_rfl))
  f165 := Tryz.func121.trans (congrArg some (by kernel_rfl))
  f166 := Tryz.func31.trans (congrArg some (by kernel_rfl))
  f169 := Tryz.func34.trans (congrArg some (by kernel_rfl))
  f240 := Tryz.func62.trans (congrArg some (by kernel_rfl))
  f241 := Tryz.func149.trans (congrArg some (by kernel_rfl))
  f276 := Tryz.func95.trans (congrArg some (by kernel_rfl))
  f277 := Tryz.func167.trans (congrArg some (by kernel_rfl))
  t0 := Tryz.underlying0
  a0 := Tryz.isAgg0
  z0 := Tryz.sizeOf0
  v0 := Tryz.zeroValue0
  t3 := Tryz.underlying3
  a3 := Tryz.isAgg3
  z3 := Tryz.sizeOf3
  v3 := Tryz.zeroValue3
  t4 := Tryz.underlying4
  a4 := Tryz.isAgg4
  z4 := Tryz.sizeOf4
  v4 := Tryz.zeroValue4
  t9 := Tryz.underlying9
  a9 := Tryz.isAgg9
  z9 := Tryz.sizeOf9
  v9 := Tryz.zeroValue9
  t20 := Tryz.underlying20
  a20 := Tryz.isAgg20
  z20 := Tryz.sizeOf20
  v20 := Tryz.zeroValue20
  t31 := Tryz.underlying61
  a31 := Tryz.isAgg61
  z31 := Tryz.sizeOf61
  v31 := Tryz.zeroValue61
  t37 := Tryz.underlying75
  a37 := Tryz.isAgg75
  z37 := Tryz.sizeOf75
  v37 := Tryz.zeroValue75
  t70 := Tryz.underlying74
  a70 := Tryz.isAgg74
  z70 := Tryz.sizeOf74
  v70 := Tryz.zeroValue74
  t72 := Tryz.underlying77
  a72 := Tryz.isAgg77
  z72 := Tryz.sizeOf77
  v72 := Tryz.zeroValue77
  t75 := Tryz.underlying29
  a75 := Tryz.isAgg29
  z75 := Tryz.sizeOf29
  v75 := Tryz.zeroValue29
  t76 := Tryz.underlying78
  a76 := Tryz.isAgg78
  z76 := Tryz.sizeOf78
  v76 := Tryz.zeroValue78
  t127 := Tryz.underlying108
  a127 := Tryz.isAgg108
  z127 := Tryz.sizeOf108
  v127 := Tryz.zeroValue108
  t164 := Tryz.underlying141
  a164 := Tryz.isAgg141
  z164 := Tryz.sizeOf141
  v164 := Tryz.zeroValue141 }

theorem joinX : Builder.Extra Tryz.prog joinR_ren where
  sizeBuilder := by kernel_rfl
  liesBuilder := by kernel_rfl
  t5 := by kernel_rfl
  a5 := fun w => (tyK_one (P := Tryz.prog) (by kernel_rfl) w).1
  z5 := fun w => (tyK_one (P := Tryz.prog) (by kernel_rfl) w).2
  v5 := by intro w; rfl
  infoByte := by kernel_rfl
  cellsByte := by kernel_rfl
  sizeByte := by kernel_rfl
  neB5 := by decide
theorem join_c (l : List (List UInt8)) (sep : List UInt8) (hN : l.length < 1000000000) (hlen : (Lib.join l sep).length ≤ 140737488355328) (X : Nat → Prop) (v : Value) (w : World) (hv : Sl X 1 (En encS) w v l) :
    Fun Tryz.prog 97 [v, str sep] w fun r w' => r = str (Lib.join l sep) ∧ Below w.heap.size w w' := by
  refine fun_of_calls Tryz.func97 (by kernel_rfl) (by kernel_rfl) ?_
  cases l with
  | nil =>
    have hsh := hv.shape
    obtain ⟨a, c, rfl, hc⟩ := hsh
    refine Calls.mono (Any.strings_Join_none joinR joinX a c ⟨sep.toArray⟩ w) ?_
    rintro e w' ⟨rfl, rfl⟩
    exact ⟨_, rfl, rfl, Below.refl _ _⟩
  | cons x l =>
    have hsl := hv.strs
    obtain ⟨b, o, c, rfl, hc, hb, hcell⟩ := hsl
    have e1 : (((x :: l).map fun t : List UInt8 => (⟨t.toArray⟩ : ByteArray)).map (·.data.toList)) = x :: l := by
      rw [List.map_map]
      exact List.map_id' _
    have hj := Any.strings_Join joinR joinX b o c ((x :: l).map fun t : List UInt8 => (⟨t.toArray⟩ : ByteArray)) ⟨sep.toArray⟩ w hcell hb (by rw [List.length_map]; omega) (by rw [List.length_map]; exact hc) (by rw [e1]; exact hlen)
    rw [e1, List.length_map] at hj
    refine Calls.mono hj ?_
    rintro e w' ⟨rfl, hbl⟩
    exact ⟨_, rfl, rfl, hbl⟩
end Go.Proofs.YtiofleijieepgaaGreatDoor
end
section
namespace Cae
/-- A range, written. -/
def rgP (r : Rg) : List UInt8 := hexP r.1.toNat ++ (if r.1 < r.2 then 45 :: hexP r.2.toNat else [])
/-- A set, written. -/
def printP (s : List Rg) : List UInt8 := 91 :: (Go.Lib.join (s.map rgP) [32] ++ [93])
/-- Ranges that can be written. -/
def Wr (s : List Rg) : Prop := ∀ r ∈ s, 0 ≤ r.1 ∧ r.1 < 4294967296 ∧ r.2 < 4294967296
theorem rgP_len (r : Rg) : (rgP r).length ≤ 19 := by
  unfold rgP
  have h1 := hexP_len r.1.toNat
  have h2 := hexP_len r.2.toNat
  split <;> simp <;> omega
theorem joinR_len (s : List Rg) : (Go.Lib.join (s.map rgP) [32]).length ≤ 20 * s.length := by
  cases s with
  | nil => simp [Go.Lib.join_nil]
  | cons r s =>
    rw [List.map_cons, Go.Lib.join_cons, List.length_append, Go.Lib.joinTail_length]
    have h1 := rgP_len r
    have h2 : Go.Lib.lens (s.map rgP) ≤ 19 * s.length := by
      induction s with
      | nil => simp [Go.Lib.lens]
      | cons q s ih =>
        have := rgP_len q
        simp only [Go.Lib.lens, List.map_cons, List.sum_cons, List.length_cons] at ih ⊢
        omega
    simp only [List.length_cons, List.length_nil, List.length_map]
    omega
theorem wr_right : ∀ {s : List Rg} {a : Int}, -2 ≤ a → setRight a s = true → Wr s
  | [], _, _, _ => fun r hr => by cases hr
  | q :: s, a, ha, h => by
    rw [setRight_con] at h
    intro r hr
    rcases List.mem_cons.1 hr with rfl | hr
    · omega
    · exact wr_right (by omega) h.2 r hr
end Cae
namespace Go.Proofs.YtiofleijieepgaaGreatDoor
open Go.Vc Go.Proofs Go.RowKit Cae
set_option maxRecDepth 100000
set_option linter.unusedSimpArgs false
set_option linter.unusedVariables false
attribute [local irreducible] wpL callK valK unitK runK Fun Sl Vc.Own vc vcOps opK pureK
set_option maxHeartbeats 4000000

theorem print_c (s : List Rg) (hs : s.length < 10000000) (hw : Wr s) (X : Nat → Prop) (v : Value) (w : World) (hv : Sl X 2 (En encR) w v s) (h : Db w) :
    Fun Tryz.prog 63 [v] w fun r w' => r = str (printP s) ∧ Below w.heap.size w w' := by
  obtain ⟨a, c, rfl, hc⟩ := hv.shape
  refine fun_of_vc Tryz.func63 rfl (by kernel_rfl) [2] rfl ?_
  simp -dsimp (maxSteps := 4000000) only [push_cast, fr0, Tryz.ntmps63, List.length_cons, List.length_nil, Nat.reduceAdd, Nat.reduceSub, Nat.reduceBEq, List.replicate_succ, List.replicate_zero]
  refine wpL_loop [3, 5, 6, 9, 10, 11, 12, 13, 14, 15, 16, 17, 18, 19, 20, 21, 22, 23, 24, 25, 26, 27, 28, 29, 30, 31] (fun z wx => ∃ (i : Nat) (ov : Value), z 9 = .int .i64 i ∧ z 3 = ov ∧ i ≤ s.length ∧ Vc.Own w.heap.size 9 1 encS wx ov ((s.take i).map rgP) ∧ Below w.heap.size w wx) (fun z _ => s.length - (intOf (z 9)).toNat) ?_ ?_
  · exact ⟨0, _, rfl, rfl, Nat.zero_le _, Vc.Own.nil (enc := encS) _ _ (fun _ => rfl) _, Below.refl _ _⟩
  · intro z wx hI
    obtain ⟨i, ov, h9, h3, hi, hox, hbx⟩ := hI
    have szx := hbx.size
    simp -dsimp only [push_cast, Nat.reduceAdd, Nat.reduceLeDiff, Nat.reduceBEq, decide_true, ne_eq, eq_self, not_true_eq_false, not_false_eq_true, true_imp_iff, false_imp_iff, Int.reduceNe, Int.reduceEq, Int.reduceLT, Int.reduceLE, Bool.not_true, Bool.not_false, h9, h3]
    refine ⟨fun hlt => ?_, fun hge => ?_⟩
    · have hg := lt_get (l := s) (i := i) (by omega)
      obtain ⟨x, hx, hxm, _, ht⟩ := hg
      have hsx := hv.below hbx
      have hg := hsx.get hx
      obtain ⟨b, o, rfl, hnb, hcell⟩ := hg
      have cx : cellsAt wx ⟨b, o + i * 2, none⟩ 0 2 = some [.int .i64 x.1, .int .i64 x.2] := cellsAt_of (encR x) 0 (fun j u hu => by simpa using hcell j u hu)
      have hxw := hw x hxm
      obtain ⟨x1, x2, x3⟩ := hxw
      have est : (s.take (i + 1)).map rgP = (s.take i).map rgP ++ [rgP x] := by
        rw [ht, List.map_append]; rfl
      have hgn : ∃ n : Nat, x.1 = n := ⟨x.1.toNat, by omega⟩
      obtain ⟨n, hn⟩ := hgn
      rw [hn] at cx
      simp -dsimp only [push_cast, Nat.reduceAdd, Nat.reduceLeDiff, Nat.reduceBEq, decide_true, ne_eq, eq_self, not_true_eq_false, not_false_eq_true, true_imp_iff, false_imp_iff, Int.reduceNe, Int.reduceEq, Int.reduceLT, Int.reduceLE, Bool.not_true, Bool.not_false, cx]
      refine ⟨⟨by omega, by omega⟩, ?_⟩
      refine allocK (z := [.int .i64 0, .int .i64 0]) (by kernel_rfl) ?_
      intro w3 hw3
      have sz3 := hw3.size
      simp -dsimp only [push_cast, Nat.reduceAdd, Nat.reduceLeDiff, Nat.reduceBEq, decide_true]
      refine storeAgg (n := 2) (by kernel_rfl) hw3.blk rfl (by simp) (by simp [Value.oneCell']) ?_
      intro w4 hw4
      have sz4 := hw4.size
      have c0 : w4.cell? ⟨wx.heap.size, 0, none⟩ = some (.int .i64 (n : Int)) := hw4.blk.cell rfl
      have c1 : w4.cell? ⟨wx.heap.size, 1, none⟩ = some (.int .i64 x.2) := hw4.blk.cell rfl
      simp -dsimp only [push_cast, Nat.reduceAdd, Nat.reduceLeDiff, Nat.reduceBEq, decide_true, ne_eq, eq_self, not_true_eq_false, not_false_eq_true, true_imp_iff, false_imp_iff, Int.reduceNe, Int.reduceEq, Int.reduceLT, Int.reduceLE, Bool.not_true, Bool.not_false, c0, c1]
      have k4 : Kept (fun j => j = wx.heap.size) wx w4 := (Kept.new hw3).trans hw4.kept (fun _ _ h => h)
      have ho4 := hox.keptX k4 (fun g hg h => by have := hox.block g hg; omega)
      have hb4 : Below w.heap.size w w4 := hbx.trans (k4.below szx (fun _ h => by omega))
      have hsh := ho4.slice
      obtain ⟨oa, oc, rfl⟩ := hsh
      refine callK_of (hex_c n (by omega) w4 (h.below hb4 h.lt)) ?_
      rintro _ w5 ⟨rfl, hb5⟩
      have sz5 := hb5.size
      have ho5 := ho4.below hb5
      have hB5 := hb4.trans (hb5.mono (show w.heap.size ≤ w4.heap.size by omega))
      have c5 : w5.cell? ⟨wx.heap.size, 0, none⟩ = some (.int .i64 (n : Int)) := (hb5.cell (by show wx.heap.size < w4.heap.size; omega)).trans c0
      have c5' : w5.cell? ⟨wx.heap.size, 1, none⟩ = some (.int .i64 x.2) := (hb5.cell (by show wx.heap.size < w4.heap.size; omega)).trans c1
      simp -dsimp only [push_cast, Nat.reduceAdd, Nat.reduceLeDiff, Nat.reduceBEq, decide_true, ne_eq, eq_self, not_true_eq_false, not_false_eq_true, true_imp_iff, false_imp_iff, Int.reduceNe, Int.reduceEq, Int.reduceLT, Int.reduceLE, Bool.not_true, Bool.not_false, c5, c5']
      refine ⟨fun hgt => ?_, fun hle => ?_⟩
      · have hgm : ∃ m : Nat, x.2 = m := ⟨x.2.toNat, by omega⟩
        obtain ⟨m, hm⟩ := hgm
        have hrg : rgP x = hexP n ++ 45 :: hexP m := by unfold rgP; rw [if_pos (by omega), hn, hm]; rfl
        rw [hm] at c5'
        rw [hm]
        refine callK_of (hex_c m (by omega) w5 (h.below hB5 h.lt)) ?_
        rintro _ w6 ⟨rfl, hb6⟩
        have sz6 := hb6.size
        have ho6 := ho5.below hb6
        have hB6 := hB5.trans (hb6.mono (show w.heap.size ≤ w5.heap.size by omega))
        have hl1 := hexP_len n
        have hl2 := hexP_len m
        simp -dsimp only [push_cast, Nat.reduceAdd, Nat.reduceLeDiff, Nat.reduceBEq, decide_true, ne_eq, eq_self, not_true_eq_false, not_false_eq_true, true_imp_iff, false_imp_iff, Int.reduceNe, Int.reduceEq, Int.reduceLT, Int.reduceLE, Bool.not_true, Bool.not_false]
        refine ⟨by omega, by simp only [List.length_append, List.length_cons, List.length_nil]; omega, ?_⟩
        refine rowK elI_61 rfl rfl (by omega) ?_
        intro w7 hw7
        have sz7 : w7.heap.size = w6.heap.size + 1 := hw7.size
        have ho7 := ho6.new hw7
        simp -dsimp only [push_cast, Nat.reduceAdd, Nat.reduceLeDiff, Nat.reduceBEq, decide_true, ne_eq, eq_self, not_true_eq_false, not_false_eq_true, true_imp_iff, false_imp_iff, Int.reduceNe, Int.reduceEq, Int.reduceLT, Int.reduceLE, Bool.not_true, Bool.not_false]
        refine appendK2 (base := w.heap.size) [rgP x] (enc := encS) elI_61 ho7 (by rfl) (fun j u hu => by rw [hrg] at hu; rw [Nat.zero_add]; exact hw7.cell hu) (by simp [encS, str, Value.oneCell']) (by simp only [List.length_cons, List.length_nil, List.length_map, List.length_take]; omega) (by omega) ?_
        intro v8 w8 ho8 hg8 hn8
        have hb8 : Below w.heap.size w w8 := (hB6.trans (hw7.below.mono (by omega))).trans ((Kept.grown (X := fun j => w.heap.size ≤ j) hg8 (fun k hk => (ho7.block k hk).1)).below (by omega) (fun _ h => h))
        rw [← est] at ho8
        simp -dsimp only [push_cast, Nat.reduceAdd, Nat.reduceLeDiff, Nat.reduceBEq, decide_true, ne_eq, eq_self, not_true_eq_false, not_false_eq_true, true_imp_iff, false_imp_iff, Int.reduceNe, Int.reduceEq, Int.reduceLT, Int.reduceLE, Bool.not_true, Bool.not_false]
        exact ⟨⟨by omega, by omega⟩, ⟨i + 1, _, rfl, rfl, by omega, ho8, hb8⟩, by rw [h9]; simp only [intOf]; omega⟩
      · have hrg : rgP x = hexP n := by unfold rgP; rw [if_neg (by omega), hn]; exact List.append_nil _
        refine rowK elI_61 rfl rfl (by omega) ?_
        intro w7 hw7
        have sz7 : w7.heap.size = w5.heap.size + 1 := hw7.size
        have ho7 := ho5.new hw7
        simp -dsimp only [push_cast, Nat.reduceAdd, Nat.reduceLeDiff, Nat.reduceBEq, decide_true, ne_eq, eq_self, not_true_eq_false, not_false_eq_true, true_imp_iff, false_imp_iff, Int.reduceNe, Int.reduceEq, Int.reduceLT, Int.reduceLE, Bool.not_true, Bool.not_false]
        refine appendK2 (base := w.heap.size) [rgP x] (enc := encS) elI_61 ho7 (by rfl) (fun j u hu => by rw [hrg] at hu; rw [Nat.zero_add]; exact hw7.cell hu) (by simp [encS, str, Value.oneCell']) (by simp only [List.length_cons, List.length_nil, List.length_map, List.length_take]; omega) (by omega) ?_
        intro v8 w8 ho8 hg8 hn8
        have hb8 : Below w.heap.size w w8 := (hB5.trans (hw7.below.mono (by omega))).trans ((Kept.grown (X := fun j => w.heap.size ≤ j) hg8 (fun k hk => (ho7.block k hk).1)).below (by omega) (fun _ h => h))
        rw [← est] at ho8
        simp -dsimp only [push_cast, Nat.reduceAdd, Nat.reduceLeDiff, Nat.reduceBEq, decide_true, ne_eq, eq_self, not_true_eq_false, not_false_eq_true, true_imp_iff, false_imp_iff, Int.reduceNe, Int.reduceEq, Int.reduceLT, Int.reduceLE, Bool.not_true, Bool.not_false]
        exact ⟨⟨by omega, by omega⟩, ⟨i + 1, _, rfl, rfl, by omega, ho8, hb8⟩, by rw [h9]; simp only [intOf]; omega⟩
    · have hin : i = s.length := by omega
      subst hin
      rw [List.take_length] at hox
      have hjl := joinR_len s
      refine callK_of (join_c (s.map rgP) [32] (by rw [List.length_map]; omega) (by omega) _ _ wx hox.sl) ?_
      rintro _ w6 ⟨rfl, hb6⟩
      have hB6 := hbx.trans (hb6.mono szx)
      simp -dsimp only [push_cast, Nat.reduceAdd, Nat.reduceLeDiff, Nat.reduceBEq, decide_true, ne_eq, eq_self, not_true_eq_false, not_false_eq_true, true_imp_iff, false_imp_iff, Int.reduceNe, Int.reduceEq, Int.reduceLT, Int.reduceLE, Bool.not_true, Bool.not_false]
      refine ⟨by omega, by simp only [List.length_append, List.length_cons, List.length_nil]; omega, ?_, hB6⟩
      rfl
end Go.Proofs.YtiofleijieepgaaGreatDoor
end
section
namespace Cae
/-- What stands ahead of the first c, what stands behind it, and whether there is one. -/
def cutP (c : UInt8) (s : List UInt8) : List UInt8 × List UInt8 × Bool := if s.contains c then (s.takeWhile (· != c), (s.dropWhile (· != c)).drop 1, true) else (s, [], false)
/-- The parts between c's. -/
def splitB (c : UInt8) : List UInt8 → List (List UInt8)
  | [] => [[]]
  | b :: r => if b == c then [] :: splitB c r else match splitB c r with
    | [] => [[b]]
    | p :: ps => (b :: p) :: ps
theorem ib_spec (c : UInt8) : ∀ s : List UInt8, Go.Lib.indexByte s c = if s.contains c then ((s.takeWhile (· != c)).length : Int) else -1
  | [] => rfl
  | b :: r => by
    rw [Go.Lib.indexByte, List.contains_cons, ib_spec c r, List.takeWhile_cons]
    by_cases h : b = c
    · subst h; simp
    · have h1 : (b == c) = false := by simpa using h
      have h2 : (c == b) = false := by simpa using (fun e => h e.symm : ¬ c = b)
      have h3 : (b != c) = true := by simp [h]
      rw [h1, h2, h3, Bool.false_or]
      cases hc : r.contains c with
      | true =>
        have : ¬ ((((r.takeWhile (· != c)).length : Nat) : Int) == -1) = true := by simp
        simp only [if_true, if_neg this, Bool.false_eq_true, if_false, List.length_cons]
        omega
      | false => simp
theorem take_tw (p : UInt8 → Bool) : ∀ s : List UInt8, s.take (s.takeWhile p).length = s.takeWhile p
  | [] => rfl
  | b :: r => by
    rw [List.takeWhile_cons]
    split
    · rw [List.length_cons, List.take_succ_cons, take_tw p r]
    · rfl
theorem drop_tw (p : UInt8 → Bool) : ∀ s : List UInt8, s.drop (s.takeWhile p).length = s.dropWhile p
  | [] => rfl
  | b :: r => by
    rw [List.takeWhile_cons, List.dropWhile_cons]
    split
    · rw [List.length_cons, List.drop_succ_cons, drop_tw p r]
    · rfl
theorem tw_lt {c : UInt8} : ∀ {s : List UInt8}, s.contains c = true → (s.takeWhile (· != c)).length < s.length
  | [], h => by cases h
  | b :: r, h => by
    rw [List.takeWhile_cons]
    split
    · rename_i hb
      have : r.contains c = true := by
        rw [List.contains_cons, Bool.or_eq_true] at h
        rcases h with h | h
        · have : c = b := by simpa using h
          subst this; simp at hb
        · exact h
      have := tw_lt this
      simp only [List.length_cons]; omega
    · simp
theorem tw_all {c : UInt8} : ∀ {s : List UInt8}, s.contains c = false → s.takeWhile (· != c) = s
  | [], _ => rfl
  | b :: r, h => by
    rw [List.contains_cons, Bool.or_eq_false_iff] at h
    have h1 : (b != c) = true := by have := h.1; simp at this; simp; exact fun e => this e.symm
    rw [List.takeWhile_cons, if_pos h1, tw_all h.2]
theorem dropWhile_len (p : UInt8 → Bool) : ∀ s : List UInt8, (s.dropWhile p).length ≤ s.length
  | [] => Nat.le_refl _
  | b :: r => by
    have := dropWhile_len p r
    rw [List.dropWhile_cons]
    split <;> simp <;> omega
theorem cutP_len (c : UInt8) (s : List UInt8) : (cutP c s).1.length ≤ s.length ∧ (cutP c s).2.1.length ≤ s.length := by
  unfold cutP
  split
  · rename_i h
    have h1 := tw_lt h
    have h2 := dropWhile_len (· != c) s
    refine ⟨by show (s.takeWhile (· != c)).length ≤ _; omega, ?_⟩
    show ((s.dropWhile (· != c)).drop 1).length ≤ _
    rw [List.length_drop]; omega
  · simp
theorem splitB_ne (c : UInt8) : ∀ s, splitB c s ≠ []
  | [] => by simp [splitB]
  | b :: r => by
    rw [splitB]
    split
    · simp
    · split <;> simp
theorem splitB_eq (c : UInt8) : ∀ s : List UInt8, splitB c s = s.takeWhile (· != c) :: (if s.contains c then splitB c ((s.dropWhile (· != c)).drop 1) else [])
  | [] => rfl
  | b :: r => by
    rw [splitB, List.takeWhile_cons, List.dropWhile_cons, List.contains_cons]
    by_cases h : b = c
    · subst h; simp
    · have h1 : (b == c) = false := by simpa using h
      have h2 : (c == b) = false := by simpa using fun e => h e.symm
      have h3 : (b != c) = true := by simp [h]
      rw [h1, h2, h3, Bool.false_or, splitB_eq c r]
      rfl
theorem splitB_len (c : UInt8) : ∀ s : List UInt8, (splitB c s).length ≤ s.length + 1
  | [] => by simp [splitB]
  | b :: r => by
    have h := splitB_len c r
    rw [splitB]
    split
    · simp; omega
    · cases hs : splitB c r with
      | nil => simp
      | cons p ps => rw [hs] at h; simp at h ⊢; omega
theorem splitB_mem (c : UInt8) : ∀ (s p : List UInt8), p ∈ splitB c s → p.length ≤ s.length
  | [], p, h => by simp [splitB] at h; subst h; simp
  | b :: r, p, h => by
    rw [splitB] at h
    split at h
    · rcases List.mem_cons.1 h with rfl | h
      · simp
      · have := splitB_mem c r p h
        simp; omega
    · cases hs : splitB c r with
      | nil => exact absurd hs (splitB_ne c r)
      | cons q qs =>
        rw [hs] at h
        rcases List.mem_cons.1 h with rfl | h
        · have := splitB_mem c r q (by rw [hs]; simp)
          simp; omega
        · have := splitB_mem c r p (by rw [hs]; simp [h])
          simp; omega
end Cae
namespace Go.Proofs.YtiofleijieepgaaGreatDoor
open Go.Vc Go.Proofs Go.RowKit Cae
set_option maxRecDepth 100000
set_option linter.unusedSimpArgs false
set_option linter.unusedVariables false
attribute [local irreducible] wpL callK valK unitK runK Fun Sl Vc.Own vc vcOps opK pureK
set_option maxHeartbeats 4000000

def indexR_ren : Go.Shelf.Ren := ⟨fun | 143 => 88 | 219 => 116 | 217 => 142 | 225 => 143 | 224 => 144 | 267 => 145 | 266 => 164 | 314 => 165 | n => n, fun | 9 => 9 | 3 => 3 | 4 => 4 | 5 => 5 | 46 => 148 | 146 => 119 | 51 => 118 | n => n, fun | 1 => 2 | n => n⟩
theorem indexR : Go.Proofs.Lays.n143 Tryz.prog indexR_ren := {
  mixed := by kernel_rfl
  f143 := Tryz.func88.trans (congrArg some (by kernel_rfl))
  f217 := Tryz.func142.trans (congrArg some (by kernel_rfl))
  f219 := Tryz.func116.trans (congrArg some (by kernel_rfl))
  f224 := Tryz.func144.trans (congrArg some (by kernel_rfl))
  f225 := Tryz.func143.trans (congrArg some (by kernel_rfl))
  f266 := Tryz.func164.trans (congrArg some (by kernel_rfl))
  f267 := Tryz.func145.trans (congrArg some (by kernel_rfl))
  f314 := Tryz.func165.trans (congrArg some (by kernel_rfl))
  t3 := Tryz.underlying3
  a3 := Tryz.isAgg3
  z3 := Tryz.sizeOf3
  v3 := Tryz.zeroValue3
  t4 := Tryz.underlying4
  a4 := Tryz.isAgg4
  z4 := Tryz.sizeOf4
  v4 := Tryz.zeroValue4
  t5 := Tryz.underlying5
  a5 := Tryz.isAgg5
  z5 := Tryz.sizeOf5
  v5 := Tryz.zeroValue5
  t9 := Tryz.underlying9
  a9 := Tryz.isAgg9
  z9 := Tryz.sizeOf9
  v9 := Tryz.zeroValue9
  t46 := Tryz.underlying148
  a46 := Tryz.isAgg148
  z46 := Tryz.sizeOf148
  v46 := Tryz.zeroValue148
  t51 := Tryz.underlying118
  a51 := Tryz.isAgg118
  z51 := Tryz.sizeOf118
  v51 := Tryz.zeroValue118
  t146 := Tryz.underlying119
  a146 := Tryz.isAgg119
  z146 := Tryz.sizeOf119
  v146 := Tryz.zeroValue119
  g1 := by kernel_rfl }

def indexLR_ren : Go.Shelf.Ren := ⟨fun | 219 => 116 | 217 => 142 | 225 => 143 | 224 => 144 | 267 => 145 | 266 => 164 | 314 => 165 | n => n, fun | 9 => 9 | 3 => 3 | 4 => 4 | 5 => 5 | 46 => 148 | 146 => 119 | 51 => 118 | n => n, fun | 1 => 2 | n => n⟩
theorem indexLR : Go.Proofs.Lays.n219 Tryz.prog indexLR_ren := {
  mixed := by kernel_rfl
  f217 := Tryz.func142.trans (congrArg some (by kernel_rfl))
  f219 := Tryz.func116.trans (congrArg some (by kernel_rfl))
  f224 := Tryz.func144.trans (congrArg some (by kernel_rfl))
  f225 := Tryz.func143.trans (congrArg some (by kernel_rfl))
  f266 := Tryz.func164.trans (congrArg some (by kernel_rfl))
  f267 := Tryz.func145.trans (congrArg some (by kernel_rfl))
  f314 := Tryz.func165.trans (congrArg some (by kernel_rfl))
  t3 := Tryz.underlying3
  a3 := Tryz.isAgg3
  z3 := Tryz.sizeOf3
  v3 := Tryz.zeroValue3
  t4 := Tryz.underlying4
  a4 := Tryz.isAgg4
  z4 := Tryz.sizeOf4
  v4 := Tryz.zeroValue4
  t5 := Tryz.underlying5
  a5 := Tryz.isAgg5
  z5 := Tryz.sizeOf5
  v5 := Tryz.zeroValue5
  t9 := Tryz.underlying9
  a9 := Tryz.isAgg9
  z9 := Tryz.sizeOf9
  v9 := Tryz.zeroValue9
  t46 := Tryz.underlying148
  a46 := Tryz.isAgg148
  z46 := Tryz.sizeOf148
  v46 := Tryz.zeroValue148
  t51 := Tryz.underlying118
  a51 := Tryz.isAgg118
  z51 := Tryz.sizeOf118
  v51 := Tryz.zeroValue118
  t146 := Tryz.underlying119
  a146 := Tryz.isAgg119
  z146 := Tryz.sizeOf119
  v146 := Tryz.zeroValue119
  g1 := by kernel_rfl }

def cutPreR_ren : Go.Shelf.Ren := ⟨fun | 103 => 118 | 210 => 146 | 206 => 59 | n => n, fun | 9 => 9 | 4 => 4 | 24 => 161 | 3 => 3 | n => n, fun | n => n⟩
theorem cutPreR : Go.Proofs.Lays.n103 Tryz.prog cutPreR_ren := {
  mixed := by kernel_rfl
  f103 := Tryz.func118.trans (congrArg some (by kernel_rfl))
  f206 := Tryz.func59.trans (congrArg some (by kernel_rfl))
  f210 := Tryz.func146.trans (congrArg some (by kernel_rfl))
  t3 := Tryz.underlying3
  a3 := Tryz.isAgg3
  z3 := Tryz.sizeOf3
  v3 := Tryz.zeroValue3
  t4 := Tryz.underlying4
  a4 := Tryz.isAgg4
  z4 := Tryz.sizeOf4
  v4 := Tryz.zeroValue4
  t9 := Tryz.underlying9
  a9 := Tryz.isAgg9
  z9 := Tryz.sizeOf9
  v9 := Tryz.zeroValue9
  t24 := Tryz.underlying161
  a24 := Tryz.isAgg161
  z24 := Tryz.sizeOf161
  v24 := Tryz.zeroValue161 }

def cutSufR_ren : Go.Shelf.Ren := ⟨fun | 104 => 119 | 211 => 147 | 207 => 61 | n => n, fun | 9 => 9 | 4 => 4 | 24 => 161 | 3 => 3 | n => n, fun | n => n⟩
theorem cutSufR : Go.Proofs.Lays.n104 Tryz.prog cutSufR_ren := {
  mixed := by kernel_rfl
  f104 := Tryz.func119.trans (congrArg some (by kernel_rfl))
  f207 := Tryz.func61.trans (congrArg some (by kernel_rfl))
  f211 := Tryz.func147.trans (congrArg some (by kernel_rfl))
  t3 := Tryz.underlying3
  a3 := Tryz.isAgg3
  z3 := Tryz.sizeOf3
  v3 := Tryz.zeroValue3
  t4 := Tryz.underlying4
  a4 := Tryz.isAgg4
  z4 := Tryz.sizeOf4
  v4 := Tryz.zeroValue4
  t9 := Tryz.underlying9
  a9 := Tryz.isAgg9
  z9 := Tryz.sizeOf9
  v9 := Tryz.zeroValue9
  t24 := Tryz.underlying161
  a24 := Tryz.isAgg161
  z24 := Tryz.sizeOf161
  v24 := Tryz.zeroValue161 }

theorem index_s (s : List UInt8) (c : UInt8) (w : World) : Fun Tryz.prog 88 [str s, str [c]] w fun r w' => r = .int .i64 (Lib.indexByte s c) ∧ w' = w := by
  refine fun_of_calls Tryz.func88 (by kernel_rfl) (by kernel_rfl) ?_
  refine Calls.mono (Any.strings_Index_one indexR ⟨s.toArray⟩ c w) ?_
  rintro e w' ⟨rfl, rfl⟩
  exact ⟨_, rfl, rfl, rfl⟩
theorem index_l (s : List UInt8) (c : UInt8) (w : World) : Fun Tryz.prog 116 [str s, str [c]] w fun r w' => r = .int .i64 (Lib.indexByte s c) ∧ w' = w := by
  refine fun_of_calls Tryz.func116 (by kernel_rfl) (by kernel_rfl) ?_
  refine Calls.mono (Any.stringslite_Index_one indexLR ⟨s.toArray⟩ c w) ?_
  rintro e w' ⟨rfl, rfl⟩
  exact ⟨_, rfl, rfl, rfl⟩
theorem cutPre_c (s p : List UInt8) (w : World) : Fun Tryz.prog 118 [str s, str p] w fun r w' => r = .tuple #[str (Lib.trimPrefix s p), .bool (Lib.hasPrefix s p)] ∧ w' = w := by
  refine fun_of_calls Tryz.func118 (by kernel_rfl) (by kernel_rfl) ?_
  refine Calls.mono (Any.strings_CutPrefix cutPreR ⟨s.toArray⟩ ⟨p.toArray⟩ w) ?_
  rintro e w' ⟨rfl, rfl⟩
  exact ⟨_, rfl, rfl, rfl⟩
theorem cutSuf_c (s p : List UInt8) (hs : s.length ≤ 9223372036854775807) (w : World) : Fun Tryz.prog 119 [str s, str p] w fun r w' => r = .tuple #[str (Lib.trimSuffix s p), .bool (Lib.hasSuffix s p)] ∧ w' = w := by
  refine fun_of_calls Tryz.func119 (by kernel_rfl) (by kernel_rfl) ?_
  refine Calls.mono (Any.strings_CutSuffix cutSufR ⟨s.toArray⟩ ⟨p.toArray⟩ w hs) ?_
  rintro e w' ⟨rfl, rfl⟩
  exact ⟨_, rfl, rfl, rfl⟩
theorem cut_l (s : List UInt8) (c : UInt8) (hs : s.length ≤ 1000000000) (w : World) : Fun Tryz.prog 117 [str s, str [c]] w fun r w' => r = .tuple #[str (cutP c s).1, str (cutP c s).2.1, .bool (cutP c s).2.2] ∧ Below w.heap.size w w' := by
  refine fun_of_vc Tryz.func117 rfl (by kernel_rfl) [4, 5, 6] rfl ?_
  simp -dsimp (maxSteps := 4000000) only [push_cast, fr0, Tryz.ntmps117, List.length_cons, List.length_nil, Nat.reduceAdd, Nat.reduceSub, Nat.reduceBEq, List.replicate_succ, List.replicate_zero]
  refine callK_of (index_l s c w) ?_
  rintro _ w1 ⟨rfl, rfl⟩
  rw [ib_spec]
  unfold cutP
  cases hc : s.contains c with
  | false =>
    simp only [Bool.false_eq_true, if_false]
    simp -dsimp only [push_cast, Nat.reduceAdd, Nat.reduceLeDiff, Nat.reduceBEq, decide_true, ne_eq, eq_self, not_true_eq_false, not_false_eq_true, true_imp_iff, false_imp_iff, Int.reduceNe, Int.reduceEq, Int.reduceLT, Int.reduceLE, Bool.not_true, Bool.not_false]
    refine ⟨rfl, Below.refl _ _⟩
  | true =>
    simp only [if_true]
    have hlt := tw_lt hc
    have hg : ∃ k, (s.takeWhile (· != c)).length = k := ⟨_, rfl⟩
    obtain ⟨k, hk⟩ := hg
    have h1 : s.takeWhile (· != c) = s.take k := by rw [← hk]; exact (take_tw _ s).symm
    have h2 : (s.dropWhile (· != c)).drop 1 = s.drop (k + 1) := by rw [← drop_tw, List.drop_drop, hk]
    rw [h1, h2]
    rw [hk] at hlt
    have h3 : (s.take k).length = k := by rw [List.length_take]; omega
    rw [h3]
    have hge : decide ((k : Int) ≥ 0) = true := decide_eq_true (by omega)
    simp -dsimp only [push_cast, Nat.reduceAdd, Nat.reduceLeDiff, Nat.reduceBEq, decide_true, ne_eq, eq_self, not_true_eq_false, not_false_eq_true, true_imp_iff, false_imp_iff, Int.reduceNe, Int.reduceEq, Int.reduceLT, Int.reduceLE, Bool.not_true, Bool.not_false, hge]
    refine wpL_draw (fun _ => True) mixed (by kernel_rfl) trivial ?_
    simp -dsimp only [push_cast, Nat.reduceAdd, Nat.reduceLeDiff, Nat.reduceBEq, decide_true, ne_eq, eq_self, not_true_eq_false, not_false_eq_true, true_imp_iff, false_imp_iff, Int.reduceNe, Int.reduceEq, Int.reduceLT, Int.reduceLE, Bool.not_true, Bool.not_false]
    refine ⟨by omega, by omega, by omega, ?_, (Below.refl _ _).drew⟩
    rw [show ((k : Int) + (0 + 1)).toNat = k + 1 by omega]
theorem cut_c (s : List UInt8) (c : UInt8) (hs : s.length ≤ 1000000000) (w : World) : Fun Tryz.prog 89 [str s, str [c]] w fun r w' => r = .tuple #[str (cutP c s).1, str (cutP c s).2.1, .bool (cutP c s).2.2] ∧ Below w.heap.size w w' := by
  refine fun_of_vc Tryz.func89 rfl (by kernel_rfl) [4, 5, 6] rfl ?_
  simp -dsimp (maxSteps := 4000000) only [push_cast, fr0, Tryz.ntmps89, List.length_cons, List.length_nil, Nat.reduceAdd, Nat.reduceSub, Nat.reduceBEq, List.replicate_succ, List.replicate_zero]
  refine callK_of (cut_l s c hs w) ?_
  rintro _ w1 ⟨rfl, hb⟩
  simp -dsimp only [push_cast, Nat.reduceAdd, Nat.reduceLeDiff, Nat.reduceBEq, decide_true, ne_eq, eq_self, not_true_eq_false, not_false_eq_true, true_imp_iff, false_imp_iff, Int.reduceNe, Int.reduceEq, Int.reduceLT, Int.reduceLE, Bool.not_true, Bool.not_false]
  exact hb
end Go.Proofs.YtiofleijieepgaaGreatDoor
end
section
set_option linter.unusedSimpArgs false
set_option linter.unusedVariables false
namespace Go.Vc
open Go.RowKit
/-- A block that bytes of a text were laid in. -/
def Byt (w : World) (b : Nat) (e : TypeId) (l : List UInt8) : Prop :=
  ∃ (cs : Array Value) (n : Nat), w.heap[b]? = some (.cells cs e (n, n + 1)) ∧ cs.size ≤ n ∧ ∀ (j : Nat) (c : UInt8), l[j]? = some c → cs[j]? = some (Value.int IntKind.u8 (c.toNat : Int))

theorem Byt.lt {w : World} {b : Nat} {e : TypeId} {l : List UInt8} (h : Byt w b e l) : b < w.heap.size := by
  obtain ⟨cs, n, h, _⟩ := h
  exact (Array.getElem?_eq_some_iff.1 h).1
theorem Byt.cell {w : World} {b : Nat} {e : TypeId} {l : List UInt8} (h : Byt w b e l) {j : Nat} {c : UInt8} (hc : l[j]? = some c) : w.cell? ⟨b, j, none⟩ = some (.int .u8 (c.toNat : Int)) := by
  obtain ⟨cs, n, h, _, hh⟩ := h
  simp [World.cell?, h, hh j c hc]
theorem Byt.kept {X : Nat → Prop} {w w' : World} {b : Nat} {e : TypeId} {l : List UInt8} (h : Byt w b e l) (hk : Kept X w w') (hX : ¬ X b) : Byt w' b e l := by
  have hlt := h.lt
  obtain ⟨cs, n, h, r⟩ := h
  exact ⟨cs, n, (hk.block b hlt hX).trans h, r⟩
theorem Byt.sl {w : World} {b cap : Nat} {e : TypeId} {l : List UInt8} (h : Byt w b e l) (hc : l.length ≤ cap) : Sl (fun _ => False) 1 (En encB) w (.slice (some ⟨b, 0, none⟩) l.length cap) l := by
  unfold Sl
  refine ⟨_, _, rfl, hc, fun i x hx => ⟨b, 0, encB x, rfl, id, rfl, fun j u hu => ?_, rfl⟩⟩
  have hj : j = 0 := by have := (List.getElem?_eq_some_iff.1 hu).1; simp [encB] at this; omega
  subst hj
  simp [encB] at hu
  subst hu
  simpa using h.cell hx

theorem bytesK {P : Program} {s d e : TypeId} {l : List UInt8} {t : Fr} {w : World} {K : VK} {Q : EP} {p} (hs : P.underlying s = some .string) (hd : P.underlying d = some (.slice e)) (he : P.underlying e = some (.int .u8))
    (kk : ∀ c w', l.length ≤ c → Byt w' w.heap.size e l → Below w.heap.size w w' → K (.slice (some ⟨w.heap.size, 0, none⟩) l.length c) w') : valK P (convert s d (str l)) t w K Q p := by
  have hr := run_bytes_of_string (P := P) w s d e ⟨l.toArray⟩ hs hd he
  have hsz : ByteArray.size ⟨l.toArray⟩ = l.length := by simp [ByteArray.size]
  refine valK_of hr ?_
  rw [hsz]
  refine kk _ _ (grownCap_ge _ _ _ _) ⟨bytesRow ⟨l.toArray⟩ (grownCap w l.length 0 e), (bytesRow ⟨l.toArray⟩ (grownCap w l.length 0 e)).size, ?_, Nat.le_refl _, fun j c hj => ?_⟩ ((Below.refl w.heap.size w).drew.alloc (Nat.le_refl _) _)
  · exact heap_alloc_new w.drew _
  · have hlt := (List.getElem?_eq_some_iff.1 hj).1
    have := bytesRow_at ⟨l.toArray⟩ (grownCap w l.length 0 e) j (by simpa using hlt)
    rw [this]
    have : l[j]? = some l[j] := List.getElem?_eq_getElem hlt
    rw [this] at hj
    cases hj
    simp
end Go.Vc
end
section
namespace Cae
/-- What a hexadecimal digit is worth. -/
def dv (b : UInt8) : Nat := if b.toNat ≤ 57 then b.toNat - 48 else b.toNat - 87
def isHex (b : UInt8) : Bool := (decide (48 ≤ b.toNat) && decide (b.toNat ≤ 57)) || (decide (97 ≤ b.toNat) && decide (b.toNat ≤ 102))
def hexV (l : List UInt8) : Nat := l.foldl (fun m b => 16 * m + dv b) 0
theorem dig_hex : ∀ d : Nat, d < 16 → isHex (dig d) = true ∧ dv (dig d) = d := by decide
theorem hexF_all : ∀ (f n : Nat) (acc : List UInt8), n < 16 ^ (f + 1) → (∀ b ∈ acc, isHex b = true) → ∀ b ∈ hexF f n acc, isHex b = true
  | 0, n, acc, hn, h => by
    rw [hexF]
    intro b hb
    rcases List.mem_cons.1 hb with rfl | hb
    · exact (dig_hex n (by omega)).1
    · exact h b hb
  | f + 1, n, acc, hn, h => by
    rw [hexF]
    split
    · intro b hb
      rcases List.mem_cons.1 hb with rfl | hb
      · exact (dig_hex n (by omega)).1
      · exact h b hb
    · refine hexF_all f (n / 16) _ (Nat.div_lt_of_lt_mul (by rw [Nat.mul_comm, ← Nat.pow_succ]; exact hn)) ?_
      intro b hb
      rcases List.mem_cons.1 hb with rfl | hb
      · exact (dig_hex (n % 16) (by omega)).1
      · exact h b hb
theorem foldl_hex (l : List UInt8) : ∀ m : Nat, l.foldl (fun m b => 16 * m + dv b) m = 16 ^ l.length * m + hexV l := by
  unfold hexV
  induction l with
  | nil => intro m; simp
  | cons b l ih =>
    intro m
    rw [List.foldl_cons, List.foldl_cons, ih, ih (16 * 0 + dv b), List.length_cons, Nat.pow_succ, Nat.mul_add]
    have : 16 ^ l.length * (16 * m) = 16 ^ l.length * 16 * m := by rw [Nat.mul_assoc]
    rw [this]
    simp
    omega
theorem hexV_cons (b : UInt8) (l : List UInt8) : hexV (b :: l) = 16 ^ l.length * dv b + hexV l := by
  have := foldl_hex l (16 * 0 + dv b)
  unfold hexV at this ⊢
  rw [List.foldl_cons, this]
  simp
theorem hexF_val : ∀ (f n : Nat) (acc : List UInt8), n < 16 ^ (f + 1) → hexV (hexF f n acc) = 16 ^ acc.length * n + hexV acc
  | 0, n, acc, hn => by rw [hexF, hexV_cons, (dig_hex n (by omega)).2]
  | f + 1, n, acc, hn => by
    rw [hexF]
    split
    · rw [hexV_cons, (dig_hex n (by omega)).2]
    · rw [hexF_val f (n / 16) _ (Nat.div_lt_of_lt_mul (by rw [Nat.mul_comm, ← Nat.pow_succ]; exact hn)), hexV_cons, (dig_hex (n % 16) (by omega)).2, List.length_cons, Nat.pow_succ]
      have h1 := Nat.div_add_mod n 16
      have h2 : 16 ^ acc.length * n = 16 ^ acc.length * 16 * (n / 16) + 16 ^ acc.length * (n % 16) := by
        rw [Nat.mul_assoc, ← Nat.mul_add, h1]
      rw [h2]; omega
theorem hexP_all {n : Nat} (hn : n < 4294967296) : ∀ b ∈ hexP n, isHex b = true := hexF_all 8 n [] (by omega) (fun b h => by cases h)
theorem hexP_val {n : Nat} (hn : n < 4294967296) : hexV (hexP n) = n := by
  unfold hexP
  rw [hexF_val 8 n [] (by omega)]
  simp [hexV]
theorem hexF_ne : ∀ (f n : Nat) (acc : List UInt8), hexF f n acc ≠ []
  | 0, n, acc => by rw [hexF]; simp
  | f + 1, n, acc => by
    rw [hexF]; split
    · simp
    · exact hexF_ne f _ _
theorem hexP_ne (n : Nat) : hexP n ≠ [] := hexF_ne 8 n []
theorem hexV_snoc (l : List UInt8) (b : UInt8) : hexV (l ++ [b]) = 16 * hexV l + dv b := by
  unfold hexV; rw [List.foldl_append]; rfl
theorem hexV_take (l : List UInt8) (i : Nat) : hexV (l.take i) ≤ hexV l := by
  have e := foldl_hex (l.drop i) (hexV (l.take i))
  have h0 : hexV l = 16 ^ (l.drop i).length * hexV (l.take i) + hexV (l.drop i) := by
    rw [← e]
    conv => lhs; rw [← List.take_append_drop i l]
    unfold hexV
    rw [List.foldl_append]
  have h1 : 1 ≤ 16 ^ (l.drop i).length := Nat.pos_of_ne_zero (by simp)
  rw [h0]
  exact Nat.le_trans (Nat.le_mul_of_pos_left (hexV (l.take i)) h1) (Nat.le_add_right _ _)
theorem hexP_inj {m n : Nat} (hm : m < 4294967296) (hn : n < 4294967296) (h : hexP m = hexP n) : m = n := by
  have := hexP_val hm; rw [h, hexP_val hn] at this; exact this.symm
end Cae
namespace Go.Vc
open Go.RowKit
theorem eq_1ii {L : VP} {other : Prop} (ty v ty' v' c) (p) : eqNilK 1 c .eql (.iface ty v) (.iface ty' v') L other p = other := (rfl)
theorem neq_1ii {L : VP} {other : Prop} (ty v ty' v' c) (p) : eqNilK 1 c .neq (.iface ty v) (.iface ty' v') L other p = other := (rfl)
attribute [push_cast] eq_1ii neq_1ii
theorem neqIfaceK {P : Program} {o : Oper} {t : Fr} {w : World} {K : VK} {Q : EP} {ty : TypeId} {x y : Operand} {z : TypeId} {te : TypeId} {k q : IntKind} {a b : Int} {ms : Array (String × TypeId)} (ho : o.op = .binOp .neq ty x y z) (hx : ev t x = .iface te (.int k a)) (hy : ev t y = .iface te (.int k b))
    (ht : P.underlying ty = some (.interface ms)) (hc : (P.info? te).map (·.comparable) = some true) (he : P.underlying te = some (.int q)) (kk : K (.bool (!(a == b))) w) : runK P o t w K Q .mk := by
  refine runK_val (s := do eqGuard .neq ty x y (ev t x) (ev t y); binOp .neq ty (ev t x) (ev t y)) (by unfold execOp; simp only [ho]) (valK_of (w' := w) ?_ kk)
  rw [Sem.run_bind, eqGuard_plain (.inl (by rw [hx]; simp)) (by intro c; rw [hx]; simp)]
  show (binOp .neq ty (ev t x) (ev t y)).run P w = _
  rw [hx, hy]
  exact Lib.run_neq_iface_int w a b ht hc he
end Go.Vc
namespace Go.Proofs.YtiofleijieepgaaGreatDoor
open Go.Vc Go.Proofs Go.RowKit Cae
set_option maxRecDepth 100000
set_option linter.unusedSimpArgs false
set_option linter.unusedVariables false
attribute [local irreducible] wpL callK valK unitK runK Fun Sl Vc.Own vc vcOps opK pureK
set_option maxHeartbeats 8000000

theorem low_b : ∀ b : Nat, b < 256 → 0 ≤ bitop .or .u8 (b : Int) 32 ∧ bitop .or .u8 (b : Int) 32 ≤ 255 ∧ (97 ≤ b → b ≤ 102 → bitop .or .u8 (b : Int) 32 = b) ∧ (b < 48 → bitop .or .u8 (b : Int) 32 < 97) ∧ (b = 95 → bitop .or .u8 (b : Int) 32 = 127) := by decide +kernel
theorem lower_c (b : Int) (w : World) : Fun Tryz.prog 177 [.int .u8 b] w fun r w' => r = .int .u8 (bitop .or .u8 b 32) ∧ w' = w := by
  refine fun_of_vc Tryz.func177 rfl (by kernel_rfl) [2] rfl ?_
  simp -dsimp (maxSteps := 4000000) only [push_cast, fr0, Tryz.ntmps177, List.length_cons, List.length_nil, Nat.reduceAdd, Nat.reduceSub, Nat.reduceBEq, List.replicate_succ, List.replicate_zero]
/-- The error that a number is read with: none, or one of two. -/
def PErr (e : Value) : Prop := e = .nilIface ∨ e = .iface 176 (.int .i64 1) ∨ e = .iface 176 (.int .i64 2)
theorem parseUint_c (s : List UInt8) (hs : s.length ≤ 1000000000) (w : World) : Fun Tryz.prog 158 [str s, .int .i64 16, .int .i64 32] w fun r w' => (∃ (v : Nat) (e : Value), r = .tuple #[.int .u64 (v : Int), e] ∧ v < 4294967296 ∧ PErr e ∧ (∀ n < 4294967296, s = hexP n → v = n ∧ e = .nilIface)) ∧ Below w.heap.size w w' := by
  refine fun_of_vc Tryz.func158 rfl (by kernel_rfl) [6, 7] rfl ?_
  simp -dsimp (maxSteps := 4000000) only [push_cast, fr0, Tryz.ntmps158, List.length_cons, List.length_nil, Nat.reduceAdd, Nat.reduceSub, Nat.reduceBEq, List.replicate_succ, List.replicate_zero]
  by_cases hne : s = []
  · subst hne
    have e0 : decide (([] : List UInt8) = []) = true := rfl
    simp -dsimp (maxSteps := 4000000) only [push_cast, Nat.reduceAdd, Nat.reduceLeDiff, Nat.reduceBEq, decide_true, ne_eq, eq_self, not_true_eq_false, not_false_eq_true, true_imp_iff, false_imp_iff, Int.reduceNe, Int.reduceEq, Int.reduceLT, Int.reduceLE, Bool.not_true, Bool.not_false, e0]
    refine ⟨⟨0, _, rfl, by omega, .inr (.inr rfl), fun n _ h => absurd h.symm (hexP_ne n)⟩, Below.refl _ _⟩
  have ef : decide False = false := rfl
  have emx : IntKind.u64.wrap (IntKind.u64.wrap (1 * 2 ^ min (IntKind.u64.wrap 32).toNat IntKind.u64.bits) - 1) = 4294967295 := by decide
  simp -dsimp (maxSteps := 4000000) only [push_cast, Nat.reduceAdd, Nat.reduceLeDiff, Nat.reduceBEq, decide_true, ne_eq, eq_self, not_true_eq_false, not_false_eq_true, true_imp_iff, false_imp_iff, Int.reduceNe, Int.reduceEq, Int.reduceLT, Int.reduceLE, Bool.not_true, Bool.not_false, ef]
  refine ⟨fun h => absurd h hne, fun _ => ⟨by decide, ?_⟩⟩
  rw [emx]
  refine bytesK (e := 5) (by kernel_rfl) (by kernel_rfl) (by kernel_rfl) ?_
  intro cap w1 hcap hB1 hb1
  have sz1 := hb1.size
  simp -dsimp (maxSteps := 4000000) only [push_cast, Nat.reduceAdd, Nat.reduceLeDiff, Nat.reduceBEq, decide_true, ne_eq, eq_self, not_true_eq_false, not_false_eq_true, true_imp_iff, false_imp_iff, Int.reduceNe, Int.reduceEq, Int.reduceLT, Int.reduceLE, Bool.not_true, Bool.not_false, ef]
  refine wpL_loop [6, 7, 12, 13, 15, 16, 17, 101, 102, 103, 104, 105, 106, 107, 108, 109, 110, 111, 112, 113, 114, 115, 116, 117, 118, 119, 120, 121, 122, 123, 124, 125, 126, 127, 128, 129, 130, 131, 132, 133, 134, 135, 136, 137, 138, 139, 140, 141, 142, 143, 144, 145, 146, 147, 148, 149, 150, 151, 152, 153, 154, 155, 156, 157, 158, 159, 160, 161, 162, 163] (fun z wx => ∃ (i m : Nat), z 101 = .int .i64 (i : Int) ∧ z 13 = .int .u64 (m : Int) ∧ z 12 = .bool false ∧ i ≤ s.length ∧ m < 4294967296 ∧ ((∀ b ∈ s, isHex b = true) → hexV s < 4294967296 → m = hexV (s.take i)) ∧ Below w.heap.size w wx ∧ Byt wx w.heap.size 5 s) (fun z _ => s.length - (intOf (z 101)).toNat) ?_ ?_
  · exact ⟨0, 0, rfl, rfl, rfl, Nat.zero_le _, by omega, fun _ _ => rfl, hb1, hB1⟩
  · intro z wx hI
    obtain ⟨i, m, h101, h13, h12, hi, hm, hv, hbx, hBx⟩ := hI
    simp -dsimp (maxSteps := 4000000) only [push_cast, Nat.reduceAdd, Nat.reduceLeDiff, Nat.reduceBEq, decide_true, ne_eq, eq_self, not_true_eq_false, not_false_eq_true, true_imp_iff, false_imp_iff, Int.reduceNe, Int.reduceEq, Int.reduceLT, Int.reduceLE, Bool.not_true, Bool.not_false, h101, h13, h12, ef]
    refine ⟨fun hlt => ?_, fun hge => ?_⟩
    · have hg := lt_get (l := s) (i := i) (by omega)
      obtain ⟨x, hx, hxm, hxd, hxt⟩ := hg
      have cx := hBx.cell hx
      have hb8 : x.toNat < 256 := x.toNat_lt
      have hlow := low_b x.toNat hb8
      have hhex : (∀ b ∈ s, isHex b = true) → isHex x = true := fun h => h x hxm
      have hdvx : dv x = if x.toNat ≤ 57 then x.toNat - 48 else x.toNat - 87 := rfl
      have hisx : isHex x = ((decide (48 ≤ x.toNat) && decide (x.toNat ≤ 57)) || (decide (97 ≤ x.toNat) && decide (x.toNat ≤ 102))) := rfl
      have hgb : ∃ b, x.toNat = b := ⟨_, rfl⟩
      obtain ⟨b, hb⟩ := hgb
      rw [hb] at cx hb8 hlow hdvx hisx
      have hgl : ∃ l, bitop .or .u8 (b : Int) 32 = l := ⟨_, rfl⟩
      obtain ⟨l, hl⟩ := hgl
      rw [hl] at hlow
      have hgl : ∃ lo : Nat, l = (lo : Int) := ⟨l.toNat, by omega⟩
      obtain ⟨lo, hlo⟩ := hgl
      subst hlo
      have ecut : decide ((m : Int) ≥ 1152921504606846976) = false := decide_eq_false (by omega)
      have e16 : IntKind.u8.wrap 16 = 16 := by decide
      have e16' : IntKind.u64.wrap 16 = 16 := by decide
      have hgk : ∃ k, 16 * m = k := ⟨_, rfl⟩
      obtain ⟨k, hk⟩ := hgk
      have ek : IntKind.u64.wrap ((m : Int) * 16) = (k : Int) := by
        rw [show (m : Int) * 16 = (k : Int) by omega, wrap_u64_nat, Nat.mod_eq_of_lt (by omega)]
      refine ⟨by omega, ?_⟩
      obtain ⟨hl0, hl1, hl2, hl3, hl4⟩ := hlow
      by_cases hA : 48 ≤ b ∧ b ≤ 57
      · have e95 : decide ((b : Int) = 95) = false := decide_eq_false (by omega)
        have e1 : decide (48 ≤ (b : Int)) = true := decide_eq_true (by omega)
        have e2 : decide ((b : Int) ≤ 57) = true := decide_eq_true (by omega)
        have hgd : ∃ dn : Nat, b - 48 = dn := ⟨_, rfl⟩
        obtain ⟨dn, hdn0⟩ := hgd
        have edn : IntKind.u8.wrap ((b : Int) - 48) = (dn : Int) := by
          rw [show (b : Int) - 48 = (dn : Int) by omega, wrap_u8_nat, Nat.mod_eq_of_lt (by omega)]
        have hdn : isHex x = true → dn = dv x := fun _ => by rw [hdvx, if_pos hA.2]; exact hdn0.symm
        by_cases hd : dn < 16
        · have ed : decide ((dn : Int) ≥ 16) = false := decide_eq_false (by omega)
          have ed64 : IntKind.u64.wrap (dn : Int) = (dn : Int) := by rw [wrap_u64_nat, Nat.mod_eq_of_lt (by omega)]
          have hgq : ∃ q, k + dn = q := ⟨_, rfl⟩
          obtain ⟨q, hq⟩ := hgq
          have eq : IntKind.u64.wrap ((k : Int) + (dn : Int)) = (q : Int) := by
            rw [show (k : Int) + (dn : Int) = (q : Int) by omega, wrap_u64_nat, Nat.mod_eq_of_lt (by omega)]
          have elt : decide ((q : Int) < (k : Int)) = false := decide_eq_false (by omega)
          have hm' : (∀ b ∈ s, isHex b = true) → hexV s < 4294967296 → q = hexV (s.take (i + 1)) := fun h1 h2 => by
            have := hv h1 h2
            have h3 := hdn (hhex h1)
            rw [hxt, hexV_snoc, ← this, ← h3]
            omega
          by_cases hr : q < 4294967296
          · have emax : decide ((q : Int) > 4294967295) = false := decide_eq_false (by omega)
            simp -dsimp (maxSteps := 4000000) only [push_cast, Nat.reduceAdd, Nat.reduceLeDiff, Nat.reduceBEq, decide_true, ne_eq, eq_self, not_true_eq_false, not_false_eq_true, true_imp_iff, false_imp_iff, Int.reduceNe, Int.reduceEq, Int.reduceLT, Int.reduceLE, Bool.not_true, Bool.not_false, cx, ed, ecut, e16, e16', ek, ed64, eq, elt, emax, ef, e95, e1, e2, edn]
            exact ⟨⟨by omega, by omega⟩, ⟨i + 1, q, rfl, rfl, by omega, hr, hm', hbx, hBx⟩, by rw [h101]; simp only [intOf]; omega⟩
          · have emax : decide ((q : Int) > 4294967295) = true := decide_eq_true (by omega)
            simp -dsimp (maxSteps := 4000000) only [push_cast, Nat.reduceAdd, Nat.reduceLeDiff, Nat.reduceBEq, decide_true, ne_eq, eq_self, not_true_eq_false, not_false_eq_true, true_imp_iff, false_imp_iff, Int.reduceNe, Int.reduceEq, Int.reduceLT, Int.reduceLE, Bool.not_true, Bool.not_false, cx, ed, ecut, e16, e16', ek, ed64, eq, elt, emax, ef, e95, e1, e2, edn]
            refine ⟨⟨4294967295, _, rfl, by omega, .inr (.inl rfl), fun n hn h => ?_⟩, hbx⟩
            have h1 := hm' (by rw [h]; exact hexP_all hn) (by rw [h, hexP_val hn]; exact hn)
            have h2 := hexV_take s (i + 1)
            have h3 := hexP_val hn
            rw [← h] at h3
            omega
        · have ed : decide ((dn : Int) ≥ 16) = true := decide_eq_true (by omega)
          simp -dsimp (maxSteps := 4000000) only [push_cast, Nat.reduceAdd, Nat.reduceLeDiff, Nat.reduceBEq, decide_true, ne_eq, eq_self, not_true_eq_false, not_false_eq_true, true_imp_iff, false_imp_iff, Int.reduceNe, Int.reduceEq, Int.reduceLT, Int.reduceLE, Bool.not_true, Bool.not_false, cx, ed, e16, ef, e95, e1, e2, edn]
          refine ⟨⟨0, _, rfl, by omega, .inr (.inr rfl), fun n hn h => ?_⟩, hbx⟩
          have h3 := hdn (hhex (by rw [h]; exact hexP_all hn))
          have h4 := hhex (by rw [h]; exact hexP_all hn)
          rw [hisx, Bool.or_eq_true, Bool.and_eq_true, Bool.and_eq_true, decide_eq_true_eq, decide_eq_true_eq, decide_eq_true_eq, decide_eq_true_eq] at h4
          rw [hdvx] at h3
          split at h3 <;> omega
      · by_cases hB : 97 ≤ lo ∧ lo ≤ 122
        · have e95 : decide ((b : Int) = 95) = false := decide_eq_false (fun h => by have := hl4 (by omega); omega)
          have e1 : decide (48 ≤ (b : Int)) = true := decide_eq_true (Classical.byContradiction fun h => by have := hl3 (by omega); omega)
          have e2 : decide ((b : Int) ≤ 57) = false := decide_eq_false (fun h => hA ⟨Classical.byContradiction fun h => by have := hl3 (by omega); omega, by omega⟩)
          have e3 : decide (97 ≤ (lo : Int)) = true := decide_eq_true (by omega)
          have e4 : decide ((lo : Int) ≤ 122) = true := decide_eq_true (by omega)
          have hgd : ∃ dn : Nat, lo - 87 = dn := ⟨_, rfl⟩
          obtain ⟨dn, hdn0⟩ := hgd
          have hgl2 : ∃ l2 : Nat, lo - 97 = l2 := ⟨_, rfl⟩
          obtain ⟨l2, hl20⟩ := hgl2
          have edn : IntKind.u8.wrap ((lo : Int) - 97) = (l2 : Int) := by
            rw [show (lo : Int) - 97 = (l2 : Int) by omega, wrap_u8_nat, Nat.mod_eq_of_lt (by omega)]
          have edn2 : IntKind.u8.wrap ((l2 : Int) + 10) = (dn : Int) := by
            rw [show (l2 : Int) + 10 = (dn : Int) by omega, wrap_u8_nat, Nat.mod_eq_of_lt (by omega)]
          have hdn : isHex x = true → dn = dv x := fun h => by
            rw [hisx, Bool.or_eq_true, Bool.and_eq_true, Bool.and_eq_true, decide_eq_true_eq, decide_eq_true_eq, decide_eq_true_eq, decide_eq_true_eq] at h
            have h5 := hl2 (by omega) (by omega)
            rw [hdvx, if_neg (by omega)]
            omega
          simp -dsimp (maxSteps := 4000000) only [push_cast, Nat.reduceAdd, Nat.reduceLeDiff, Nat.reduceBEq, decide_true, ne_eq, eq_self, not_true_eq_false, not_false_eq_true, true_imp_iff, false_imp_iff, Int.reduceNe, Int.reduceEq, Int.reduceLT, Int.reduceLE, Bool.not_true, Bool.not_false, cx, e95, e1, e2, ef]
          refine callK_of (lower_c (b : Int) wx) ?_
          rintro _ w2 ⟨rfl, rfl⟩
          rw [hl]
          simp -dsimp (maxSteps := 4000000) only [push_cast, Nat.reduceAdd, Nat.reduceLeDiff, Nat.reduceBEq, decide_true, ne_eq, eq_self, not_true_eq_false, not_false_eq_true, true_imp_iff, false_imp_iff, Int.reduceNe, Int.reduceEq, Int.reduceLT, Int.reduceLE, Bool.not_true, Bool.not_false, e3, ef]
          refine callK_of (lower_c (b : Int) w2) ?_
          rintro _ w3 ⟨rfl, rfl⟩
          rw [hl]
          simp -dsimp (maxSteps := 4000000) only [push_cast, Nat.reduceAdd, Nat.reduceLeDiff, Nat.reduceBEq, decide_true, ne_eq, eq_self, not_true_eq_false, not_false_eq_true, true_imp_iff, false_imp_iff, Int.reduceNe, Int.reduceEq, Int.reduceLT, Int.reduceLE, Bool.not_true, Bool.not_false, e4, ef]
          refine callK_of (lower_c (b : Int) w3) ?_
          rintro _ w4 ⟨rfl, rfl⟩
          rw [hl]
          by_cases hd : dn < 16
          · have ed : decide ((dn : Int) ≥ 16) = false := decide_eq_false (by omega)
            have ed64 : IntKind.u64.wrap (dn : Int) = (dn : Int) := by rw [wrap_u64_nat, Nat.mod_eq_of_lt (by omega)]
            have hgq : ∃ q, k + dn = q := ⟨_, rfl⟩
            obtain ⟨q, hq⟩ := hgq
            have eq : IntKind.u64.wrap ((k : Int) + (dn : Int)) = (q : Int) := by
              rw [show (k : Int) + (dn : Int) = (q : Int) by omega, wrap_u64_nat, Nat.mod_eq_of_lt (by omega)]
            have elt : decide ((q : Int) < (k : Int)) = false := decide_eq_false (by omega)
            have hm' : (∀ b ∈ s, isHex b = true) → hexV s < 4294967296 → q = hexV (s.take (i + 1)) := fun h1 h2 => by
              have := hv h1 h2
              have h3 := hdn (hhex h1)
              rw [hxt, hexV_snoc, ← this, ← h3]
              omega
            by_cases hr : q < 4294967296
            · have emax : decide ((q : Int) > 4294967295) = false := decide_eq_false (by omega)
              simp -dsimp (maxSteps := 4000000) only [push_cast, Nat.reduceAdd, Nat.reduceLeDiff, Nat.reduceBEq, decide_true, ne_eq, eq_self, not_true_eq_false, not_false_eq_true, true_imp_iff, false_imp_iff, Int.reduceNe, Int.reduceEq, Int.reduceLT, Int.reduceLE, Bool.not_true, Bool.not_false, cx, ed, ecut, e16, e16', ek, ed64, eq, elt, emax, ef, edn, edn2]
              exact ⟨⟨by omega, by omega⟩, ⟨i + 1, q, rfl, rfl, by omega, hr, hm', hbx, hBx⟩, by rw [h101]; simp only [intOf]; omega⟩
            · have emax : decide ((q : Int) > 4294967295) = true := decide_eq_true (by omega)
              simp -dsimp (maxSteps := 4000000) only [push_cast, Nat.reduceAdd, Nat.reduceLeDiff, Nat.reduceBEq, decide_true, ne_eq, eq_self, not_true_eq_false, not_false_eq_true, true_imp_iff, false_imp_iff, Int.reduceNe, Int.reduceEq, Int.reduceLT, Int.reduceLE, Bool.not_true, Bool.not_false, cx, ed, ecut, e16, e16', ek, ed64, eq, elt, emax, ef, edn, edn2]
              refine ⟨⟨4294967295, _, rfl, by omega, .inr (.inl rfl), fun n hn h => ?_⟩, hbx⟩
              have h1 := hm' (by rw [h]; exact hexP_all hn) (by rw [h, hexP_val hn]; exact hn)
              have h2 := hexV_take s (i + 1)
              have h3 := hexP_val hn
              rw [← h] at h3
              omega
          · have ed : decide ((dn : Int) ≥ 16) = true := decide_eq_true (by omega)
            simp -dsimp (maxSteps := 4000000) only [push_cast, Nat.reduceAdd, Nat.reduceLeDiff, Nat.reduceBEq, decide_true, ne_eq, eq_self, not_true_eq_false, not_false_eq_true, true_imp_iff, false_imp_iff, Int.reduceNe, Int.reduceEq, Int.reduceLT, Int.reduceLE, Bool.not_true, Bool.not_false, cx, ed, e16, ef, edn, edn2]
            refine ⟨⟨0, _, rfl, by omega, .inr (.inr rfl), fun n hn h => ?_⟩, hbx⟩
            have h3 := hdn (hhex (by rw [h]; exact hexP_all hn))
            have h4 := hhex (by rw [h]; exact hexP_all hn)
            rw [hisx, Bool.or_eq_true, Bool.and_eq_true, Bool.and_eq_true, decide_eq_true_eq, decide_eq_true_eq, decide_eq_true_eq, decide_eq_true_eq] at h4
            rw [hdvx] at h3
            split at h3 <;> omega
        · by_cases h95 : b = 95
          · have := hl4 h95
            have e95 : decide ((b : Int) = 95) = true := decide_eq_true (by omega)
            have e1 : decide (48 ≤ (b : Int)) = true := decide_eq_true (by omega)
            have e2 : decide ((b : Int) ≤ 57) = false := decide_eq_false (by omega)
            have e3 : decide (97 ≤ (lo : Int)) = true := decide_eq_true (by omega)
            have e4 : decide ((lo : Int) ≤ 122) = false := decide_eq_false (by omega)
            simp -dsimp (maxSteps := 4000000) only [push_cast, Nat.reduceAdd, Nat.reduceLeDiff, Nat.reduceBEq, decide_true, ne_eq, eq_self, not_true_eq_false, not_false_eq_true, true_imp_iff, false_imp_iff, Int.reduceNe, Int.reduceEq, Int.reduceLT, Int.reduceLE, Bool.not_true, Bool.not_false, cx, e95, e1, e2, ef]
            refine callK_of (lower_c (b : Int) wx) ?_
            rintro _ w2 ⟨rfl, rfl⟩
            rw [hl]
            simp -dsimp (maxSteps := 4000000) only [push_cast, Nat.reduceAdd, Nat.reduceLeDiff, Nat.reduceBEq, decide_true, ne_eq, eq_self, not_true_eq_false, not_false_eq_true, true_imp_iff, false_imp_iff, Int.reduceNe, Int.reduceEq, Int.reduceLT, Int.reduceLE, Bool.not_true, Bool.not_false, e3, ef]
            refine callK_of (lower_c (b : Int) w2) ?_
            rintro _ w3 ⟨rfl, rfl⟩
            rw [hl]
            simp -dsimp (maxSteps := 4000000) only [push_cast, Nat.reduceAdd, Nat.reduceLeDiff, Nat.reduceBEq, decide_true, ne_eq, eq_self, not_true_eq_false, not_false_eq_true, true_imp_iff, false_imp_iff, Int.reduceNe, Int.reduceEq, Int.reduceLT, Int.reduceLE, Bool.not_true, Bool.not_false, e4, ef]
            refine ⟨⟨0, _, rfl, by omega, .inr (.inr rfl), fun n hn h => ?_⟩, hbx⟩
            have := hhex (by rw [h]; exact hexP_all hn)
            rw [hisx, Bool.or_eq_true, Bool.and_eq_true, Bool.and_eq_true, decide_eq_true_eq, decide_eq_true_eq, decide_eq_true_eq, decide_eq_true_eq] at this
            omega
          · rcases Nat.lt_or_ge b 48 with h48 | h48
            · have := hl3 h48
              have e95 : decide ((b : Int) = 95) = false := decide_eq_false (by omega)
              have e1 : decide (48 ≤ (b : Int)) = false := decide_eq_false (by omega)
              have e2 : decide ((b : Int) ≤ 57) = true := decide_eq_true (by omega)
              have e3 : decide (97 ≤ (lo : Int)) = false := decide_eq_false (by omega)
              simp -dsimp (maxSteps := 4000000) only [push_cast, Nat.reduceAdd, Nat.reduceLeDiff, Nat.reduceBEq, decide_true, ne_eq, eq_self, not_true_eq_false, not_false_eq_true, true_imp_iff, false_imp_iff, Int.reduceNe, Int.reduceEq, Int.reduceLT, Int.reduceLE, Bool.not_true, Bool.not_false, cx, e95, e1, e2, ef]
              refine callK_of (lower_c (b : Int) wx) ?_
              rintro _ w2 ⟨rfl, rfl⟩
              rw [hl]
              simp -dsimp (maxSteps := 4000000) only [push_cast, Nat.reduceAdd, Nat.reduceLeDiff, Nat.reduceBEq, decide_true, ne_eq, eq_self, not_true_eq_false, not_false_eq_true, true_imp_iff, false_imp_iff, Int.reduceNe, Int.reduceEq, Int.reduceLT, Int.reduceLE, Bool.not_true, Bool.not_false, e3, ef]
              refine ⟨⟨0, _, rfl, by omega, .inr (.inr rfl), fun n hn h => ?_⟩, hbx⟩
              have := hhex (by rw [h]; exact hexP_all hn)
              rw [hisx, Bool.or_eq_true, Bool.and_eq_true, Bool.and_eq_true, decide_eq_true_eq, decide_eq_true_eq, decide_eq_true_eq, decide_eq_true_eq] at this
              omega
            · rcases Nat.lt_or_ge lo 97 with h97 | h97
              · skip
                have e95 : decide ((b : Int) = 95) = false := decide_eq_false (by omega)
                have e1 : decide (48 ≤ (b : Int)) = true := decide_eq_true (by omega)
                have e2 : decide ((b : Int) ≤ 57) = false := decide_eq_false (by omega)
                have e3 : decide (97 ≤ (lo : Int)) = false := decide_eq_false (by omega)
                simp -dsimp (maxSteps := 4000000) only [push_cast, Nat.reduceAdd, Nat.reduceLeDiff, Nat.reduceBEq, decide_true, ne_eq, eq_self, not_true_eq_false, not_false_eq_true, true_imp_iff, false_imp_iff, Int.reduceNe, Int.reduceEq, Int.reduceLT, Int.reduceLE, Bool.not_true, Bool.not_false, cx, e95, e1, e2, ef]
                refine callK_of (lower_c (b : Int) wx) ?_
                rintro _ w2 ⟨rfl, rfl⟩
                rw [hl]
                simp -dsimp (maxSteps := 4000000) only [push_cast, Nat.reduceAdd, Nat.reduceLeDiff, Nat.reduceBEq, decide_true, ne_eq, eq_self, not_true_eq_false, not_false_eq_true, true_imp_iff, false_imp_iff, Int.reduceNe, Int.reduceEq, Int.reduceLT, Int.reduceLE, Bool.not_true, Bool.not_false, e3, ef]
                refine ⟨⟨0, _, rfl, by omega, .inr (.inr rfl), fun n hn h => ?_⟩, hbx⟩
                have := hhex (by rw [h]; exact hexP_all hn)
                rw [hisx, Bool.or_eq_true, Bool.and_eq_true, Bool.and_eq_true, decide_eq_true_eq, decide_eq_true_eq, decide_eq_true_eq, decide_eq_true_eq] at this
                omega
              · skip
                have e95 : decide ((b : Int) = 95) = false := decide_eq_false (by omega)
                have e1 : decide (48 ≤ (b : Int)) = true := decide_eq_true (by omega)
                have e2 : decide ((b : Int) ≤ 57) = false := decide_eq_false (by omega)
                have e3 : decide (97 ≤ (lo : Int)) = true := decide_eq_true (by omega)
                have e4 : decide ((lo : Int) ≤ 122) = false := decide_eq_false (by omega)
                simp -dsimp (maxSteps := 4000000) only [push_cast, Nat.reduceAdd, Nat.reduceLeDiff, Nat.reduceBEq, decide_true, ne_eq, eq_self, not_true_eq_false, not_false_eq_true, true_imp_iff, false_imp_iff, Int.reduceNe, Int.reduceEq, Int.reduceLT, Int.reduceLE, Bool.not_true, Bool.not_false, cx, e95, e1, e2, ef]
                refine callK_of (lower_c (b : Int) wx) ?_
                rintro _ w2 ⟨rfl, rfl⟩
                rw [hl]
                simp -dsimp (maxSteps := 4000000) only [push_cast, Nat.reduceAdd, Nat.reduceLeDiff, Nat.reduceBEq, decide_true, ne_eq, eq_self, not_true_eq_false, not_false_eq_true, true_imp_iff, false_imp_iff, Int.reduceNe, Int.reduceEq, Int.reduceLT, Int.reduceLE, Bool.not_true, Bool.not_false, e3, ef]
                refine callK_of (lower_c (b : Int) w2) ?_
                rintro _ w3 ⟨rfl, rfl⟩
                rw [hl]
                simp -dsimp (maxSteps := 4000000) only [push_cast, Nat.reduceAdd, Nat.reduceLeDiff, Nat.reduceBEq, decide_true, ne_eq, eq_self, not_true_eq_false, not_false_eq_true, true_imp_iff, false_imp_iff, Int.reduceNe, Int.reduceEq, Int.reduceLT, Int.reduceLE, Bool.not_true, Bool.not_false, e4, ef]
                refine ⟨⟨0, _, rfl, by omega, .inr (.inr rfl), fun n hn h => ?_⟩, hbx⟩
                have := hhex (by rw [h]; exact hexP_all hn)
                rw [hisx, Bool.or_eq_true, Bool.and_eq_true, Bool.and_eq_true, decide_eq_true_eq, decide_eq_true_eq, decide_eq_true_eq, decide_eq_true_eq] at this
                omega
    · refine ⟨⟨m, _, rfl, hm, .inl rfl, fun n hn h => ⟨?_, rfl⟩⟩, hbx⟩
      have := hv (by rw [h]; exact hexP_all hn) (by rw [h, hexP_val hn]; exact hn)
      rw [this, List.take_of_length_le (by omega), h, hexP_val hn]
end Go.Proofs.YtiofleijieepgaaGreatDoor
end
section
set_option linter.unusedSimpArgs false
set_option linter.unusedVariables false
namespace Cae
/-- A set that is written so. -/
def PrintOf (s : List UInt8) (l : List Rg) : Prop := setRight (-2) l = true ∧ printP l = s
theorem hex_no {n : Nat} (hn : n < 4294967296) {c : UInt8} (hc : isHex c = false) : (hexP n).contains c = false := by
  cases h : (hexP n).contains c with
  | false => rfl
  | true =>
    have hm : c ∈ hexP n := by simpa using h
    have := hexP_all hn c hm
    rw [hc] at this; cases this
theorem contains_app (a b : List UInt8) (c : UInt8) : (a ++ b).contains c = (a.contains c || b.contains c) := by
  induction a with
  | nil => simp
  | cons x a ih => rw [List.cons_append, List.contains_cons, List.contains_cons, ih, Bool.or_assoc]
theorem rgP_no {r : Rg} (h0 : 0 ≤ r.1) (h1 : r.1 < 4294967296) (h2 : r.2 < 4294967296) : (rgP r).contains 32 = false := by
  unfold rgP
  rw [contains_app, hex_no (by omega) (by rfl)]
  split
  · rw [List.contains_cons, hex_no (by omega) (by rfl)]; rfl
  · rfl
theorem rgP_ne (r : Rg) : rgP r ≠ [] := by
  unfold rgP
  intro h
  exact hexP_ne _ (List.append_eq_nil_iff.1 h).1
theorem tw_app {c : UInt8} : ∀ {a b : List UInt8}, a.contains c = false → (a ++ c :: b).takeWhile (· != c) = a ∧ (a ++ c :: b).dropWhile (· != c) = c :: b
  | [], b, _ => by simp
  | x :: a, b, h => by
    rw [List.contains_cons, Bool.or_eq_false_iff] at h
    have h1 : (x != c) = true := by have := h.1; simp at this; simp; exact fun e => this e.symm
    have ih := tw_app (b := b) h.2
    rw [List.cons_append, List.takeWhile_cons, List.dropWhile_cons, if_pos h1, if_pos h1, ih.1, ih.2]
    exact ⟨rfl, rfl⟩
theorem split_no {c : UInt8} {a : List UInt8} (h : a.contains c = false) : splitB c a = [a] := by
  rw [splitB_eq, h, tw_all h]; rfl
theorem split_app {c : UInt8} {a b : List UInt8} (h : a.contains c = false) : splitB c (a ++ c :: b) = a :: splitB c b := by
  rw [splitB_eq, (tw_app h).1, (tw_app h).2]
  have : (a ++ c :: b).contains c = true := by rw [contains_app]; simp
  rw [if_pos this]; rfl
theorem split_join {c : UInt8} : ∀ (x : List UInt8) (l : List (List UInt8)), (∀ p ∈ x :: l, p.contains c = false) → splitB c (Go.Lib.join (x :: l) [c]) = x :: l
  | x, [], h => by rw [Go.Lib.join_one]; exact split_no (h x (by simp))
  | x, y :: l, h => by
    have e : Go.Lib.join (x :: y :: l) [c] = x ++ c :: Go.Lib.join (y :: l) [c] := by
      rw [Go.Lib.join_cons, Go.Lib.join_cons]
      simp [Go.Lib.joinTail]
    rw [e, split_app (h x (by simp)), split_join y l (fun p hp => h p (List.mem_cons_of_mem _ hp))]
theorem cut_rg {r : Rg} (h0 : 0 ≤ r.1) (h1 : r.1 < 4294967296) (h2 : r.2 < 4294967296) (hlt : r.1 < r.2) : cutP 45 (rgP r) = (hexP r.1.toNat, hexP r.2.toNat, true) := by
  have hn := hex_no (n := r.1.toNat) (c := 45) (by omega) (by rfl)
  have e : rgP r = hexP r.1.toNat ++ 45 :: hexP r.2.toNat := by unfold rgP; rw [if_pos hlt]
  unfold cutP
  rw [e, (tw_app hn).1, (tw_app hn).2, contains_app]
  simp
theorem cut_rg1 {r : Rg} (h0 : 0 ≤ r.1) (h1 : r.1 < 4294967296) (hlt : ¬ r.1 < r.2) : cutP 45 (rgP r) = (hexP r.1.toNat, [], false) := by
  have hn := hex_no (n := r.1.toNat) (c := 45) (by omega) (by rfl)
  have e : rgP r = hexP r.1.toNat := by unfold rgP; rw [if_neg hlt, List.append_nil]
  unfold cutP
  rw [e, hn]; rfl
theorem mem_right : ∀ {s : List Rg} {a : Int}, -2 ≤ a → setRight a s = true → ∀ r ∈ s, 0 ≤ r.1 ∧ r.1 ≤ r.2 ∧ r.2 ≤ 1114111
  | [], _, _, _ => fun r hr => by cases hr
  | q :: s, a, ha, h => by
    rw [setRight_con] at h
    intro r hr
    rcases List.mem_cons.1 hr with rfl | hr
    · omega
    · exact mem_right (by omega) h.2 r hr
/-- The text between [ and ]. -/
def bodyP (l : List Rg) : List UInt8 := Go.Lib.join (l.map rgP) [32]
theorem bodyP_nil {l : List Rg} (h : bodyP l = []) : l = [] := by
  cases l with
  | nil => rfl
  | cons r l =>
    unfold bodyP at h
    rw [List.map_cons, Go.Lib.join_cons] at h
    exact absurd (List.append_eq_nil_iff.1 h).1 (rgP_ne r)
theorem split_body {l : List Rg} (h : setRight (-2) l = true) (hne : bodyP l ≠ []) : splitB 32 (bodyP l) = l.map rgP := by
  cases l with
  | nil => exact absurd rfl hne
  | cons r l =>
    unfold bodyP
    rw [List.map_cons]
    refine split_join _ _ fun p hp => ?_
    rw [← List.map_cons] at hp
    obtain ⟨q, hq, rfl⟩ := List.mem_map.1 hp
    have := mem_right (by omega) h q hq
    exact rgP_no (by omega) (by omega) (by omega)
theorem print_pre {s : List UInt8} {l : List Rg} (h : PrintOf s l) : Go.Lib.hasPrefix s [91] = true ∧ Go.Lib.hasSuffix (Go.Lib.trimPrefix s [91]) [93] = true ∧ Go.Lib.trimSuffix (Go.Lib.trimPrefix s [91]) [93] = bodyP l := by
  obtain ⟨hr, rfl⟩ := h
  have h1 : Go.Lib.hasPrefix (printP l) [91] = true := by simp [Go.Lib.hasPrefix, printP]
  have h2 : Go.Lib.trimPrefix (printP l) [91] = bodyP l ++ [93] := by
    unfold Go.Lib.trimPrefix; rw [h1]; rfl
  have h3 : Go.Lib.hasSuffix (bodyP l ++ [93]) [93] = true := by
    unfold Go.Lib.hasSuffix
    rw [List.isSuffixOf_iff_suffix]
    exact ⟨bodyP l, rfl⟩
  rw [h2]
  refine ⟨h1, h3, ?_⟩
  unfold Go.Lib.trimSuffix
  rw [h3, if_pos rfl]
  simp
theorem print_inj {l l' : List Rg} (h : setRight (-2) l = true) (h' : setRight (-2) l' = true) (e : printP l = printP l') : l = l' := by
  have h1 := (print_pre ⟨h, rfl⟩).2.2
  have h2 := (print_pre ⟨h', rfl⟩).2.2
  rw [e, h2] at h1
  by_cases hb : bodyP l = []
  · rw [bodyP_nil hb, bodyP_nil (h1.trans hb)]
  · have s1 := split_body h hb
    have s2 := split_body h' (by rw [h1]; exact hb)
    rw [h1, s1] at s2
    have inj : ∀ (a b : List Rg), (∀ r ∈ a, 0 ≤ r.1 ∧ r.1 ≤ r.2 ∧ r.2 ≤ 1114111) → (∀ r ∈ b, 0 ≤ r.1 ∧ r.1 ≤ r.2 ∧ r.2 ≤ 1114111) → a.map rgP = b.map rgP → a = b := by
      intro a
      induction a with
      | nil => intro b _ _ hh; cases b with | nil => rfl | cons q b => cases hh
      | cons r a ih =>
        intro b ha hb hh
        cases b with
        | nil => cases hh
        | cons q b =>
          rw [List.map_cons, List.map_cons] at hh
          have hrq := List.cons.inj hh
          have hr := ha r (by simp)
          have hq := hb q (by simp)
          have : r = q := by
            have hc := congrArg (cutP 45) hrq.1
            by_cases l1 : r.1 < r.2 <;> by_cases l2 : q.1 < q.2
            · rw [cut_rg (by omega) (by omega) (by omega) l1, cut_rg (by omega) (by omega) (by omega) l2] at hc
              have c1 := hexP_inj (by omega) (by omega) (Prod.mk.inj hc).1
              have c2 := hexP_inj (by omega) (by omega) (Prod.mk.inj (Prod.mk.inj hc).2).1
              exact Prod.ext (by omega) (by omega)
            · rw [cut_rg (by omega) (by omega) (by omega) l1, cut_rg1 (by omega) (by omega) l2] at hc
              cases (Prod.mk.inj (Prod.mk.inj hc).2).2
            · rw [cut_rg1 (by omega) (by omega) l1, cut_rg (by omega) (by omega) (by omega) l2] at hc
              cases (Prod.mk.inj (Prod.mk.inj hc).2).2
            · rw [cut_rg1 (by omega) (by omega) l1, cut_rg1 (by omega) (by omega) l2] at hc
              have c1 := hexP_inj (by omega) (by omega) (Prod.mk.inj hc).1
              exact Prod.ext (by omega) (by omega)
          subst this
          rw [ih b (fun r hr => ha r (by simp [hr])) (fun r hr => hb r (by simp [hr])) hrq.2]
    exact inj l l' (mem_right (by omega) h) (mem_right (by omega) h') s2
theorem round_plain {body x : List UInt8} {pre : List (List UInt8)} {l : List Rg} (h : setRight (-2) l = true) (hb : body = bodyP l) (hne : body ≠ []) (hp : pre ++ [x] <+: splitB 32 body) : ∃ r, l[pre.length]? = some r ∧ x = rgP r ∧ 0 ≤ r.1 ∧ r.1 ≤ r.2 ∧ r.2 ≤ 1114111 := by
  subst hb
  rw [split_body h hne] at hp
  obtain ⟨rest, hr⟩ := hp
  have h1 : (l.map rgP)[pre.length]? = some x := by rw [← hr, List.append_assoc]; simp
  rw [List.getElem?_map] at h1
  cases hl : l[pre.length]? with
  | none => rw [hl] at h1; cases h1
  | some r =>
    rw [hl] at h1
    cases h1
    exact ⟨r, rfl, rfl, mem_right (by omega) h r (List.mem_of_getElem? hl)⟩
end Cae
end
section
set_option linter.unusedSimpArgs false
set_option linter.unusedVariables false
namespace Go.Vc
open Go.RowKit
section
variable {P : Program} {n : Nat} {ro : Option Nat} {ds : List Deferred}

/-- The fence that lets all in; in a round, or in none. -/
def fen (ro : Option Nat) : Fence := { Fence.wide with round := ro }
theorem callsFen {f : FuncId} {args : Array Value} {w : World} {R : Ending → World → Prop} (h : Calls P f args w R) : CallsIn (fen ro) n P f args w R := (callsIn_wide (n := n)).2 h
def liftD (ds : List Deferred) (Q : EP) : Exit → Act → World → Prop := fun e a w => a.defers = ds ∧ Q e a.tmps.toList w
theorem put_eqD (t : Fr) (d : Option Tmp) (v : Value) : (Act.mk t.toArray ds).put d v = ⟨(put t d v).toArray, ds⟩ := by
  cases d <;> simp [Act.put, put]
theorem act_eqD {a : Act} (h : a.defers = ds) : a = ⟨a.tmps.toList.toArray, ds⟩ := by cases a; simp_all

theorem resK_uponIn {o : Oper} {t : Fr} {K : Value → World → Prop} {Q : EP} {r : Result Next} {next : Act → World → Prop}
    (hn : ∀ v w', K v w' → next ⟨(put t o.dst v).toArray, ds⟩ w') (h : resK P t K Q r) : o.uponIn (fen ro) n P ⟨t.toArray, ds⟩ next (liftD ds Q) r := by
  cases r with
  | ok x w' =>
    cases x <;> simp only [resK] at h <;> simp only [Oper.uponIn]
    case value v => rw [put_eqD]; exact hn _ _ h
    case skip => rw [put_eqD]; exact hn _ _ h
    case enter f args =>
      refine ⟨(fun hh => by cases hh), callsFen (h.mono fun e w'' he => ?_)⟩
      cases e with
      | returned v => dsimp only at he ⊢; rw [put_eqD]; exact hn _ _ he
      | panicked c => exact ⟨rfl, by simpa using he⟩
      | outgrown => exact he.elim
  | halt x w' =>
    cases x <;> simp only [resK] at h <;> simp only [Oper.uponIn]
    exact ⟨rfl, by simpa using h⟩

def noDefer (o : Oper) : Bool := match o.op with | .defer _ => false | _ => true
theorem noDefer_ne {o : Oper} (h : noDefer o = true) : ∀ c, o.op ≠ .defer c := fun c e => by simp [noDefer, e] at h
theorem semAt_fen {o : Oper} (h : noDefer o = true) (ro : Option Nat) (ρ : Operand → Value) : Oper.semAt ro ρ o = execOp ρ o := Oper.semAt_eq ro ρ o (noDefer_ne h)

theorem wpIn_of_opK {o : Oper} (hd : noDefer o = true) {t : Fr} {w : World} {K : Value → World → Prop} {Q : EP} {next : Act → World → Prop}
    (hn : ∀ v w', K v w' → next ⟨(put t o.dst v).toArray, ds⟩ w') (h : opK P o t w K Q .mk) : o.wpIn (fen ro) n P ⟨t.toArray, ds⟩ w next (liftD ds Q) := by
  have h' := opK_ok h
  unfold runK at h'
  refine ⟨fun _ _ => trivial, ?_⟩
  rw [semAt_fen hd, ev_eq]
  exact resK_uponIn hn h'

theorem vcOpsIn_ok {ops : List Oper} {K : Fr → World → Prop} {Q : EP} {next : Exit → Act → World → Prop} (rest : List Oper) (hn : ∀ t w, K t w → wpListIn (fen ro) n P ops.toArray next rest ⟨t.toArray, ds⟩ w) (hq : ∀ e a w, liftD ds Q e a w → next e a w) :
    ∀ (l : List Oper), l.all noDefer = true → ∀ (t : Fr) (w : World), vcOps P ops K Q l t w .mk → wpListIn (fen ro) n P ops.toArray next (l ++ rest) ⟨t.toArray, ds⟩ w
  | [], _, t, w, h => hn t w h
  | o :: r, hd, t, w, h => by
    simp only [List.all_cons, Bool.and_eq_true] at hd
    rw [List.cons_append]
    have step : ∀ (t' : Fr), Region.wanted o (yielded ops.toArray t'.toArray) = true → opK P o t' w (fun v w' => vcOps P ops K Q r (put t' o.dst v) w' .mk) Q .mk → wpListIn (fen ro) n P ops.toArray next (o :: (r ++ rest)) ⟨t'.toArray, ds⟩ w := fun t' hw h' => by
      unfold wpListIn
      rw [if_pos hw]
      have := wpIn_of_opK (ro := ro) (n := n) (ds := ds) hd.1 (next := wpListIn (fen ro) n P ops.toArray next (r ++ rest)) (fun v w' hk => vcOpsIn_ok rest hn hq r hd.2 _ w' hk) h'
      refine ⟨this.1, ?_⟩
      have h2 := this.2
      generalize (Oper.semAt _ _ o).run P w = res at h2 ⊢
      cases res with
      | ok x w' =>
        cases x <;> simp only [Oper.uponIn] at h2 ⊢ <;> first | exact h2 | skip
        · exact ⟨h2.1, h2.2.mono fun e w'' he => by
            cases e with
            | returned v => exact he
            | panicked c => exact hq _ _ _ he
            | outgrown => obtain ⟨a₀, w₀, hh⟩ := he; exact ⟨a₀, w₀, hq _ _ _ hh⟩⟩
        · exact ⟨h2.1, h2.2.mono fun e w'' he => by
            cases e with
            | returned v => exact he
            | panicked c => exact hq _ _ _ he
            | outgrown => obtain ⟨a₀, w₀, hh⟩ := he; exact ⟨a₀, w₀, hq _ _ _ hh⟩⟩
      | halt x w' => cases x <;> simp only [Oper.uponIn] at h2 ⊢ <;> first | exact h2 | exact hq _ _ _ h2
    have skip : ∀ (t' : Fr), Region.wanted o (yielded ops.toArray t'.toArray) = false → vcOps P ops K Q r (put t' o.dst undef) w .mk → wpListIn (fen ro) n P ops.toArray next (o :: (r ++ rest)) ⟨t'.toArray, ds⟩ w := fun t' hw h' => by
      unfold wpListIn
      rw [if_neg (by rw [hw]; simp), put_eqD]
      exact ⟨fun _ _ => trivial, vcOpsIn_ok rest hn hq r hd.2 _ w h'⟩
    simp only [vcOps] at h
    split at h
    · rename_i hg
      exact step t (by simp [Region.wanted, hg]) h
    · rename_i j want hg
      have hwant : ∀ t' : Fr, Region.wanted o (yielded ops.toArray t'.toArray) = (yielded ops.toArray t'.toArray j == some want) := fun t' => by simp only [Region.wanted, hg]
      unfold guardK at h
      split at h
      · rename_i hs
        exact skip t (by rw [hwant, yielded_eq, hs]; rfl) h
      · rename_i s hs
        split at h
        · rename_i b hb
          have hlt : s < t.length := by
            rcases Nat.lt_or_ge s t.length with h' | h'
            · exact h'
            · simp [List.getD_eq_getElem?_getD, List.getElem?_eq_none h', undef] at hb
          have hv : t[s]? = some (.bool b) := by
            rw [List.getD_eq_getElem?_getD] at hb
            rw [List.getElem?_eq_getElem hlt] at hb ⊢
            simpa using hb
          have hy : yielded ops.toArray t.toArray j = some b := by rw [yielded_eq, hs]; simp [hv]
          have same := set_getD_same t s hlt
          rw [hb] at same
          by_cases hbw : b = want
          · subst hbw
            have h1 := h.1 rfl
            rw [same] at h1
            exact step t (by rw [hwant, hy]; simp) h1
          · have hbn : b = !want := by cases b <;> cases want <;> simp_all
            have h2 := h.2 hbn
            rw [← hbn, same] at h2
            exact skip t (by rw [hwant, hy]; simpa using hbw) h2
        · rename_i hb
          refine skip t ?_ h
          rw [hwant, yielded_eq, hs]
          simp only [Option.bind_some]
          cases hv : t[s]? with
          | none => rfl
          | some v =>
            have : t.getD s undef = v := by rw [List.getD_eq_getElem?_getD, hv]; rfl
            rw [this] at hb
            cases v <;> simp at hb ⊢

/-- Code without loops, and without regions that draw their order. -/
def plainB : Code → Bool
  | .skip | .exit _ | .ret | .label _ | .goto _ => true
  | .region _ ops false => ops.toList.all noDefer
  | .seq a b => plainB a && plainB b
  | .cond _ a b => plainB a && plainB b
  | .block _ c => plainB c
  | _ => false

theorem vcIn_ok : ∀ (c : Code), plainB c = true → ∀ (Q : EP) (t : Fr) (w : World), vc P c Q t w .mk → c.wpIn (fen ro) n P (liftD ds Q) ⟨t.toArray, ds⟩ w
  | .skip, _, _, _, _, h => wpIn_skip ⟨rfl, by simpa [vc] using h⟩
  | .region _ ops false, hp, Q, t, w, h => by
    refine wpIn_region_list ?_
    have := vcOpsIn_ok (P := P) (n := n) (ro := ro) (ds := ds) (ops := ops.toList) (K := Q .normal) (Q := Q) (next := liftD ds Q) [] (fun t w hk => ⟨rfl, by simpa using hk⟩) (fun _ _ _ h => h) ops.toList hp t w h
    simpa using this
  | .seq a b, hp, Q, t, w, h => by
    simp only [plainB, Bool.and_eq_true] at hp
    refine wpIn_seq (Code.wpIn_mono ?_ (vcIn_ok a hp.1 _ t w h))
    rintro e a' w' ⟨hd, hh⟩
    cases e <;> simp only [seqQ] at hh <;> simp only [Exit.then] <;> first | exact ⟨hd, hh⟩ | skip
    have := vcIn_ok b hp.2 Q _ w' hh
    rw [act_eqD hd]
    exact this
  | .cond c a b, hp, Q, t, w, h => by
    simp only [plainB, Bool.and_eq_true] at hp
    simp only [vc] at h
    unfold condK at h
    split at h
    · rename_i x hx
      exact wpIn_cond_split (t := x) (by rw [ev_eq]; exact hx) (fun hx' => vcIn_ok a hp.1 Q t w (h.1 hx')) (fun hx' => vcIn_ok b hp.2 Q t w (h.2 hx'))
    · exact h.elim
  | .block i c, hp, Q, t, w, h => by
    refine wpIn_block (Code.wpIn_mono ?_ (vcIn_ok c hp _ t w h))
    rintro e a' w' ⟨hd, hh⟩
    cases e <;> simp only [blockQ] at hh <;> simp only [Exit.inBlock] <;> first | exact ⟨hd, hh⟩ | skip
    split at hh
    · rename_i e; simp only [e, if_true]; exact ⟨hd, hh⟩
    · rename_i e; simp only [e, if_false]; exact ⟨hd, hh⟩
  | .exit i, _, _, _, _, h => wpIn_exit ⟨rfl, by simpa [vc] using h⟩
  | .ret, _, _, _, _, h => wpIn_ret ⟨rfl, by simpa [vc] using h⟩
  | .label _, _, _, _, _, h => wpIn_label ⟨rfl, by simpa [vc] using h⟩
  | .goto l, _, _, _, _, h => wpIn_goto ⟨rfl, by simpa [vc] using h⟩
  | .region _ _ true, hp, _, _, _, _ => by cases hp
  | .loop _, hp, _, _, _, _ => by cases hp
  | .scope _, hp, _, _, _, _ => by cases hp
  | .rangeFunc .., hp, _, _, _, _ => by cases hp
  | .refuse _, hp, _, _, _, _ => by cases hp
/-- How the body of a round may be left. -/
def roundQ {α : Type} (Z : Nat → Prop) (I : List α → World → Prop) (Ix : Code → List α → World → Prop) (xs : List α) (W : World) : Exit → Act → World → Prop
  | .normal, _, W' => (∀ k, Z k → W'.heap[k]? = W.heap[k]?) ∧ I xs W'
  | .ret, _, W' => (∀ k, Z k → W'.heap[k]? = W.heap[k]?) ∧ Ix .ret xs W'
  | .exit id, _, W' => (∀ k, Z k → W'.heap[k]? = W.heap[k]?) ∧ Ix (.exit id) xs W'
  | .goto t, _, W' => (∀ k, Z k → W'.heap[k]? = W.heap[k]?) ∧ Ix (.goto t) xs W'
  | _, _, _ => False

theorem keptPut {X : Nat → Prop} (W : World) (l : Nat) (o : Obj) (hX : X l) : Kept X W (W.putObj l o) :=
  ⟨rfl, rfl, rfl, by simp, fun k _ hk => World.putObj_heap_other (fun e => hk (by rw [e]; exact hX))⟩

/-- What an iterator gives: its own steps turn blocks of B alone; a round keeps Z. -/
def Iter (P : Program) (n : Nat) {α : Type} (gf : Nat) (lb : Array Value) (encs : α → Array Value) (B Z : Nat → Prop) (S Sp : List α → Prop) (A : List α → α → Prop) (w : World) : Prop :=
  ∀ (l : Nat) (J Jx : List α → World → Prop) (W : World), (∀ k, k < w.heap.size → W.heap[k]? = w.heap[k]?) → w.heap.size ≤ W.heap.size → (∀ s A A', J s A → Kept B A A' → J s A') → (∀ s A A', Jx s A → Kept B A A' → Jx s A') →
    (∀ pre x W1, J pre W1 → A pre x → YieldAt Fence.wide n P l (encs x) W1 fun e W' =>
      (e = .returned (.bool true) ∧ J (pre ++ [x]) W' ∧ (∀ k, Z k → W'.heap[k]? = W1.heap[k]?) ∧ W1.heap.size ≤ W'.heap.size) ∨ (e = .returned (.bool false) ∧ Jx (pre ++ [x]) W')) →
    J [] W → CallsIn Fence.wide n P gf (#[.func (.yield l) #[] #[]] ++ lb) W fun e W' => (∃ v, e = .returned v) ∧ ((∃ xs, S xs ∧ J xs W') ∨ (∃ pre, Sp pre ∧ Jx pre W'))

/-- A range over a function whose own steps turn blocks that it had before. -/
theorem rangeK {α : Type} {g : Operand} {ps : Array Tmp} {assign body : Code} {Q : Exit → Act → World → Prop} {a : Act} {w : World} {gf : Nat} {lb : Array Value} (hg : a.eval g = .func (.func gf) #[] lb) (eg : ∀ args w, (callFunc gf args).run P w = .ok (.enter gf args) w)
    {encs : α → Array Value} (hps : ∀ x, (encs x).size = ps.size) {B Z : Nat → Prop} {S Sp : List α → Prop} {A : List α → α → Prop} (hB : ∀ k, B k → k < w.heap.size) (hZ : ∀ k, Z k → k < w.heap.size) (hseq : Iter P (n - 1) gf lb encs B Z S Sp A w)
    (I : List α → World → Prop) (Ix : Code → List α → World → Prop) (hI : ∀ s W W', I s W → Kept (fun k => B k ∨ k = w.heap.size ∨ k = w.heap.size + 1) W W' → I s W') (hIx : ∀ c s W W', Ix c s W → Kept (fun k => B k ∨ k = w.heap.size ∨ k = w.heap.size + 1) W W' → Ix c s W') (h0 : I [] w) (a₁ : α → Act)
    (hassign : ∀ (x : α) (W : World) (K : Act → World → Prop), K (a₁ x) W →
      assign.wpIn (fen (some (w.heap.size + 1))) (n - 1) P (Exit.then K (fun _ _ _ => False)) { tmps := (ps.zip (encs x)).foldl (fun t (p, v) => t.setIfInBounds p v) a.tmps, defers := [] } W)
    (hbody : ∀ (pre : List α) (x : α) (W : World), I pre W → A pre x → w.heap.size + 1 < W.heap.size → body.wpIn (fen (some (w.heap.size + 1))) (n - 1) P (fun e a' W' => W.heap.size ≤ W'.heap.size ∧ roundQ (fun k => Z k ∨ k = w.heap.size ∨ k = w.heap.size + 1) I Ix (pre ++ [x]) W e a' W') (a₁ x) W)
    (hdone : ∀ (xs : List α) (W : World), S xs → I xs W → W.heap[w.heap.size]? = some (.deferred (some [])) → Q .normal { a with defers := { target := .collected w.heap.size, args := #[] } :: a.defers } W)
    (hstop : ∀ (c : Code) (pre : List α) (W : World), Sp pre → Ix c pre W → W.heap[w.heap.size]? = some (.deferred (some [])) → c.wpIn Fence.wide n P Q { a with defers := { target := .collected w.heap.size, args := #[] } :: a.defers } W) :
    (Code.rangeFunc g ps assign body).wpIn Fence.wide n P Q a w := by
  refine wpIn_rangeFunc ?_
  intro fn _
  have hrec : ∃ rec : LoopState → Option Code → Loop, rec = fun st pe => { state := st, pending := pe, fn, tmps := a.tmps, params := ps, assign, body, defers := w.heap.size } := ⟨_, rfl⟩
  obtain ⟨rec, hrec⟩ := hrec
  have hg1 : ∃ W1, (w.alloc (.deferred (some []))).alloc (.loop (rec .ready none)) = W1 := ⟨_, rfl⟩
  obtain ⟨W1, hW1⟩ := hg1
  have sz1 : W1.heap.size = w.heap.size + 1 + 1 := by rw [← hW1]; simp
  have hL1 : W1.heap[w.heap.size + 1]? = some (.loop (rec .ready none)) := by
    rw [← hW1]
    have := World.alloc_heap_new (w.alloc (.deferred (some []))) (.loop (rec .ready none))
    rwa [World.size_alloc] at this
  have hK1 : W1.heap[w.heap.size]? = some (.deferred (some [])) := by
    rw [← hW1]; exact (Below.heap_alloc _ _ _ (by simp)).trans (World.alloc_heap_new w _)
  have hk1 : ∀ k, k < w.heap.size → W1.heap[k]? = w.heap[k]? := fun k hk => by
    rw [← hW1]; exact (Below.heap_alloc _ _ _ (by simp; omega)).trans (Below.heap_alloc _ _ _ hk)
  have hkept : Kept (fun k => B k ∨ k = w.heap.size ∨ k = w.heap.size + 1) w W1 := ⟨by rw [← hW1]; rfl, by rw [← hW1]; rfl, by rw [← hW1]; rfl, by omega, fun k hk _ => hk1 k hk⟩
  have hbook : ∀ {W : World} (o : Obj), Kept (fun k => B k ∨ k = w.heap.size ∨ k = w.heap.size + 1) W (W.putObj (w.heap.size + 1) o) := fun o => keptPut _ _ _ (.inr (.inr rfl))
  have hne : ∀ {k : Nat}, B k → k ≠ w.heap.size ∧ k ≠ w.heap.size + 1 := fun {k} hk => by have := hB k hk; omega
  refine ⟨w.heap.size + 1, [{ target := .collected w.heap.size, args := #[] }], W1, { target := .fn (.func gf) lb, args := #[.func (.yield (w.heap.size + 1)) #[] #[]] }, W1, gf,
    #[.func (.yield (w.heap.size + 1)) #[] #[]] ++ lb, W1, ?_, ?_, fun _ _ => trivial, ?_, (fun hh => by cases hh), ?_⟩
  · rw [← hW1, hrec]; exact run_enterLoop_outer _ _ _ _ _
  · simp only [resolve, hg]
    simp [go_sem]
  · simp [invoke, go_sem, eg]
  · refine (hseq (w.heap.size + 1)
      (fun pre W => I pre W ∧ W.heap[w.heap.size + 1]? = some (.loop (rec .ready none)) ∧ W.heap[w.heap.size]? = some (.deferred (some [])))
      (fun pre W => ∃ c, Ix c pre W ∧ W.heap[w.heap.size + 1]? = some (.loop (rec .done (some c))) ∧ W.heap[w.heap.size]? = some (.deferred (some [])))
      W1 hk1 (by omega) ?_ ?_ ?_ ⟨hI _ _ _ h0 hkept, hL1, hK1⟩).mono ?_
    · rintro s A A' ⟨h1, h2, h3⟩ hk
      exact ⟨hI _ _ _ h1 (hk.weaken (fun i _ h => .inl h)), (hk.block _ (Array.getElem?_eq_some_iff.1 h2).1 (fun h => (hne h).2 rfl)).trans h2, (hk.block _ (Array.getElem?_eq_some_iff.1 h3).1 (fun h => (hne h).1 rfl)).trans h3⟩
    · rintro s A A' ⟨c, h1, h2, h3⟩ hk
      exact ⟨c, hIx _ _ _ _ h1 (hk.weaken (fun i _ h => .inl h)), (hk.block _ (Array.getElem?_eq_some_iff.1 h2).1 (fun h => (hne h).2 rfl)).trans h2, (hk.block _ (Array.getElem?_eq_some_iff.1 h3).1 (fun h => (hne h).1 rfl)).trans h3⟩
    · rintro pre x W ⟨hi, hl, hk⟩ hlen
      have hlt : w.heap.size + 1 < W.heap.size := (Array.getElem?_eq_some_iff.1 hl).1
      have hy := run_yield (P := P) (args := encs x) hl (by rw [hrec]; exact hps x)
      rw [hrec] at hy
      refine ⟨fn, _, assign, body, hy, roundIn_of_wpIn trivial (hassign x W _ ⟨_, run_beginRound hl (by rw [hrec]), ?_⟩)⟩
      have hgV : ∃ V, W.putObj (w.heap.size + 1) (.loop { rec .ready none with state := .busy }) = V := ⟨_, rfl⟩
      obtain ⟨V, hV⟩ := hgV
      have hVl : V.heap[w.heap.size + 1]? = some (.loop { rec .ready none with state := .busy }) := by rw [← hV]; exact World.putObj_heap_same hlt
      have hVk : V.heap[w.heap.size]? = some (.deferred (some [])) := by rw [← hV]; exact (World.putObj_heap_other (by omega)).trans hk
      have hVs : V.heap.size = W.heap.size := by rw [← hV]; simp
      have hVo : ∀ k, k ≠ w.heap.size + 1 → V.heap[k]? = W.heap[k]? := fun k h => by rw [← hV]; exact World.putObj_heap_other h
      rw [hV]
      refine wpIn_mono (hbody pre x V (by rw [← hV]; exact hI _ _ _ hi (hbook _)) hlen (by omega)) ?_
      have fin : ∀ (jump : Option Code) (W3 : World), V.heap.size ≤ W3.heap.size → (∀ k, Z k ∨ k = w.heap.size ∨ k = w.heap.size + 1 → W3.heap[k]? = V.heap[k]?) →
          (Instr.endRound (w.heap.size + 1) jump).run P W3 = .ok (.bool jump.isNone) (W3.putObj (w.heap.size + 1) (.loop (rec (if jump.isNone then .ready else .done) jump))) ∧
          (W3.putObj (w.heap.size + 1) (.loop (rec (if jump.isNone then .ready else .done) jump))).heap[w.heap.size + 1]? = some (.loop (rec (if jump.isNone then .ready else .done) jump)) ∧
          (W3.putObj (w.heap.size + 1) (.loop (rec (if jump.isNone then .ready else .done) jump))).heap[w.heap.size]? = some (.deferred (some [])) ∧
          ∀ k, Z k → (W3.putObj (w.heap.size + 1) (.loop (rec (if jump.isNone then .ready else .done) jump))).heap[k]? = W.heap[k]? := fun jump W3 hs3 hz3 => by
        have hl3 := (hz3 _ (.inr (.inr rfl))).trans hVl
        have hr := run_endRound (P := P) jump hl3
        rw [hrec] at hr ⊢
        refine ⟨hr, World.putObj_heap_same (by omega), (World.putObj_heap_other (by omega)).trans ((hz3 _ (.inr (.inl rfl))).trans hVk), fun k hk => ?_⟩
        have := hZ k hk
        exact (World.putObj_heap_other (by omega)).trans ((hz3 k (.inl hk)).trans (hVo k (by omega)))
      rintro e a3 W3 ⟨hs3, hp⟩
      cases e with
      | normal =>
        obtain ⟨hz3, hi3⟩ := hp
        obtain ⟨hr, hl4, hk4, hz4⟩ := fin none W3 hs3 hz3
        exact ⟨_, _, hr, .inl ⟨rfl, ⟨hI _ _ _ hi3 (hbook _), hl4, hk4⟩, hz4, by simp; omega⟩⟩
      | ret =>
        obtain ⟨hz3, hi3⟩ := hp
        obtain ⟨hr, hl4, hk4, hz4⟩ := fin (some .ret) W3 hs3 hz3
        exact ⟨_, _, hr, .inr ⟨rfl, .ret, hIx _ _ _ _ hi3 (hbook _), hl4, hk4⟩⟩
      | exit id =>
        obtain ⟨hz3, hi3⟩ := hp
        obtain ⟨hr, hl4, hk4, hz4⟩ := fin (some (.exit id)) W3 hs3 hz3
        exact ⟨_, _, hr, .inr ⟨rfl, .exit id, hIx _ _ _ _ hi3 (hbook _), hl4, hk4⟩⟩
      | goto t =>
        obtain ⟨hz3, hi3⟩ := hp
        obtain ⟨hr, hl4, hk4, hz4⟩ := fin (some (.goto t)) W3 hs3 hz3
        exact ⟨_, _, hr, .inr ⟨rfl, .goto t, hIx _ _ _ _ hi3 (hbook _), hl4, hk4⟩⟩
      | panic ch => exact hp.elim
      | outgrown => exact hp.elim
    · rintro e W2 ⟨⟨v, rfl⟩, (⟨xs, hS, hi, hl, hk⟩ | ⟨pre, hSp, c, hi, hl, hk⟩)⟩
      · have hr := run_endLoop (P := P) hl (by rw [hrec]; simp)
        rw [hrec] at hr
        exact ⟨none, _, hr, hdone xs _ hS (hI _ _ _ hi (hbook _)) ((World.putObj_heap_other (by omega)).trans hk)⟩
      · have hr := run_endLoop (P := P) hl (by rw [hrec]; simp)
        rw [hrec] at hr
        exact ⟨some c, _, hr, hstop c pre _ hSp (hIx _ _ _ _ hi (hbook _)) ((World.putObj_heap_other (by omega)).trans hk)⟩
theorem plainIn {c : Code} (hp : plainB c = true) {Q : Exit → Act → World → Prop} {t : Fr} {w : World} (h : vc P c (fun e t w => Q e ⟨t.toArray, ds⟩ w) t w .mk) : c.wpIn (fen ro) n P Q ⟨t.toArray, ds⟩ w :=
  wpIn_mono (vcIn_ok c hp _ t w h) (by rintro e a w' ⟨hd, hh⟩; rw [act_eqD hd]; exact hh)
theorem seqIn {a b : Code} (hp : plainB a = true) {Q : Exit → Act → World → Prop} {t : Fr} {w : World} (h : vc P a (seqQ (fun t w => b.wpIn (fen ro) n P Q ⟨t.toArray, ds⟩ w) (fun e t w => Q e ⟨t.toArray, ds⟩ w) .mk) t w .mk) : (Code.seq a b).wpIn (fen ro) n P Q ⟨t.toArray, ds⟩ w := by
  refine wpIn_seq (wpIn_mono (vcIn_ok a hp _ t w h) ?_)
  rintro e a' w' ⟨hd, hh⟩
  cases e <;> simp only [seqQ] at hh <;> simp only [Exit.then] <;> (rw [act_eqD hd]; exact hh)

theorem roundWide {m m' l : Nat} {f : FuncId} {tmps : Array Value} {assign body : Code} {w : World} {R : Ending → World → Prop} (h : RoundIn Fence.wide m P l f tmps assign body w R) : RoundIn (fen none) m' P l f tmps assign body w R :=
  ⟨trivial, fun c cs _ => h.2 c cs (room_wide _)⟩

/-- A region that calls yield. -/
theorem yieldRegion {id l m : Nat} {l1 l2 : List Oper} {o : Oper} {x : Operand} {args : Array Operand} {ats : Array TypeId} {Q : Exit → Act → World → Prop} {t : Fr} {w : World} (hp1 : l1.all noDefer = true) (hp2 : l2.all noDefer = true) (ho : o.op = .call { callee := .value x, args, argTypes := ats }) (hg : o.guard = none)
    (h : vcOps P (l1 ++ o :: l2) (fun t w => ev t x = .func (.yield l) #[] #[] ∧ ∃ R, YieldAt Fence.wide m P l (args.toList.map (ev t)).toArray w R ∧ ∀ e w', R e w' → ∃ b, e = .returned (.bool b) ∧ vcOps P (l1 ++ o :: l2) (fun t w => Q .normal ⟨t.toArray, ds⟩ w) (fun e t w => Q e ⟨t.toArray, ds⟩ w) l2 (put t o.dst (.bool b)) w' .mk) (fun e t w => Q e ⟨t.toArray, ds⟩ w) l1 t w .mk) :
    (Code.region id (l1 ++ o :: l2).toArray false).wpIn (fen none) n P Q ⟨t.toArray, ds⟩ w := by
  refine wpIn_region_list ?_
  rw [List.toList_toArray]
  refine vcOpsIn_ok (ro := none) (o :: l2) ?_ (fun e a w hh => by rw [act_eqD hh.1]; exact hh.2) l1 hp1 t w h
  rintro t1 w1 ⟨hx, R, ⟨fn, tmps, assign, body, hy, hR⟩, hk⟩
  unfold wpListIn
  rw [if_pos (by simp [Region.wanted, hg])]
  refine ⟨fun _ _ => trivial, ?_⟩
  rw [semAt_fen (by simp [noDefer, ho]), ev_eq]
  have he : (execOp (ev t1) o).run P w1 = .ok (.round l fn tmps assign body) w1 := by
    unfold execOp
    simp only [ho]
    have hy' : (Instr.yield l (args.map (ev t1))).run P w1 = .ok (.round l fn tmps assign body) w1 := by rw [show args.map (ev t1) = (args.toList.map (ev t1)).toArray by rw [← Array.toList_map]]; exact hy
    simp [resolve, hx, invoke, go_sem, hy']
  rw [he]
  refine ⟨(fun hh => by cases hh), (roundWide hR).mono fun e w' hr => ?_⟩
  obtain ⟨b, rfl, hb⟩ := hk e w' hr
  show wpListIn _ _ _ _ _ _ _ _
  rw [put_eqD]
  have := vcOpsIn_ok (P := P) (n := n) (ro := none) (ds := ds) (ops := l1 ++ o :: l2) (next := Q) [] (fun t w hh => hh) (fun e a w hh => by rw [act_eqD hh.1]; exact hh.2) l2 hp2 _ w' hb
  simpa using this

theorem loopIn {c : Code} {Q : Exit → Act → World → Prop} {t : Fr} {w : World} (M : List Nat) (I : (Nat → Value) → World → Prop) (μ : (Nat → Value) → World → Nat) (h0 : I (at_ t) w)
    (hr : ∀ z w', I z w' → c.wpIn (fen ro) n P (fun e a' w'' => match e with | .normal => a'.defers = ds ∧ a'.tmps.toList = ov t M (at_ a'.tmps.toList) ∧ I (at_ a'.tmps.toList) w'' ∧ μ (at_ a'.tmps.toList) w'' < μ z w' | e => Q e a' w'') ⟨(ov t M z).toArray, ds⟩ w') : (Code.loop c).wpIn (fen ro) n P Q ⟨t.toArray, ds⟩ w := by
  refine wpIn_loop (fun a w' => a.defers = ds ∧ a.tmps.toList = ov t M (at_ a.tmps.toList) ∧ I (at_ a.tmps.toList) w') (fun a w' => μ (at_ a.tmps.toList) w') ⟨rfl, by simp [ov_at], by simpa using h0⟩ ?_
  rintro a w' ⟨hd, ht, hI⟩
  have h1 := hr _ w' hI
  rw [← ht] at h1
  rw [act_eqD hd]
  refine wpIn_mono h1 ?_
  intro e a' w'' hh
  cases e <;> simp only [Exit.then] <;> first | exact hh | skip
  obtain ⟨hd', h1, h2, h3⟩ := hh
  exact ⟨⟨hd', h1, h2⟩, by simpa using h3⟩

/-- The return of a function in which a range over a function stands. -/
theorem leave0 {fn : Func} {rs : List ResultVar} {R : VK} (hrs : fn.results = rs.toArray) {t : Fr} {w : World} (h : retC P rs R .mk .ret t w) : bodyPostM Fence.wide n P fn (fun e w' => ∃ v, e = .returned v ∧ R v w') .ret ⟨t.toArray, []⟩ w := by
  obtain ⟨vs, hv, hk⟩ := resultsC_run fn rs hrs t _ h
  exact ⟨_, hv, _, rfl, hk⟩
theorem leaveD {fn : Func} {rs : List ResultVar} {R : VK} (hrs : fn.results = rs.toArray) {t : Fr} {w : World} {D : Nat} (hD : w.heap[D]? = some (.deferred (some []))) (h : retC P rs R .mk .ret t (w.putObj D (.deferred none))) : bodyPostM Fence.wide n P fn (fun e w' => ∃ v, e = .returned v ∧ R v w') .ret ⟨t.toArray, [{ target := .collected D, args := #[] }]⟩ w := by
  obtain ⟨vs, hv, hk⟩ := resultsC_run fn rs hrs t _ h
  exact ⟨by simp, .inl ⟨_, _, rfl, run_takeDeferred hD, _, hv, _, rfl, hk⟩⟩
theorem fun_of_in {f : FuncId} {fn : Func} {c : Code} {args : List Value} {w : World} {R : VK} (hf : P.funcs[f]? = some fn) (hb : fn.body = some c) (hn : (fn.name == "runtime.NumGoroutine") = false)
    (h : c.wpIn (fen none) 0 P (bodyPostM Fence.wide 0 P fn (fun e w' => ∃ v, e = .returned v ∧ R v w')) ⟨(fr0 args fn.ntmps).toArray, []⟩ w) : Fun P f args w R := by
  refine ⟨callFunc_enter hf (by simp [hb]) hn, (callsIn_wide (n := 0)).1 (callsIn_of_wp_marks hf hb trivial ?_ rfl)⟩
  have e : (args.toArray ++ Array.replicate (fn.ntmps - args.toArray.size) undef) = (fr0 args fn.ntmps).toArray := by simp [fr0]
  rw [e]
  exact h
theorem condF {F : Fence} {c : Operand} {x y : Code} {Q : Exit → Act → World → Prop} {t : Fr} {w : World} (hc : ev t c = .bool false) (h : y.wpIn F n P Q ⟨t.toArray, ds⟩ w) : (Code.cond c x y).wpIn F n P Q ⟨t.toArray, ds⟩ w :=
  wpIn_cond_false (by rw [ev_eq]; exact hc) h
theorem condT {F : Fence} {c : Operand} {x y : Code} {Q : Exit → Act → World → Prop} {t : Fr} {w : World} (hc : ev t c = .bool true) (h : x.wpIn F n P Q ⟨t.toArray, ds⟩ w) : (Code.cond c x y).wpIn F n P Q ⟨t.toArray, ds⟩ w :=
  wpIn_cond_true (by rw [ev_eq]; exact hc) h
theorem then_n {K : Act → World → Prop} {Q : Exit → Act → World → Prop} {a : Act} {w : World} : Exit.then K Q .normal a w = K a w := (rfl)
theorem then_r {K : Act → World → Prop} {Q : Exit → Act → World → Prop} {a : Act} {w : World} : Exit.then K Q .ret a w = Q .ret a w := (rfl)
theorem then_e {K : Act → World → Prop} {Q : Exit → Act → World → Prop} {a : Act} {w : World} (i : Nat) : Exit.then K Q (.exit i) a w = Q (.exit i) a w := (rfl)
theorem inBlock_n {i : Nat} {Q : Exit → Act → World → Prop} {a : Act} {w : World} : Exit.inBlock i Q .normal a w = Q .normal a w := (rfl)
theorem inBlock_r {i : Nat} {Q : Exit → Act → World → Prop} {a : Act} {w : World} : Exit.inBlock i Q .ret a w = Q .ret a w := (rfl)
theorem inBlock_e {i j : Nat} {Q : Exit → Act → World → Prop} {a : Act} {w : World} : Exit.inBlock i Q (.exit j) a w = if j = i then Q .normal a w else Q (.exit j) a w := (rfl)
theorem zip1 (p : Tmp) (v : Value) (t : Fr) : ((#[p] : Array Tmp).zip #[v]).foldl (fun t (x : Tmp × Value) => t.setIfInBounds x.1 x.2) t.toArray = (t.set p v).toArray := by
  simp
theorem roundQ_n {α : Type} {Z : Nat → Prop} {I : List α → World → Prop} {Ix : Code → List α → World → Prop} {xs : List α} {W W' : World} {a : Act} : roundQ Z I Ix xs W .normal a W' = ((∀ k, Z k → W'.heap[k]? = W.heap[k]?) ∧ I xs W') := (rfl)
theorem roundQ_r {α : Type} {Z : Nat → Prop} {I : List α → World → Prop} {Ix : Code → List α → World → Prop} {xs : List α} {W W' : World} {a : Act} : roundQ Z I Ix xs W .ret a W' = ((∀ k, Z k → W'.heap[k]? = W.heap[k]?) ∧ Ix .ret xs W') := (rfl)
theorem roundQ_e {α : Type} {Z : Nat → Prop} {I : List α → World → Prop} {Ix : Code → List α → World → Prop} {xs : List α} {W W' : World} {a : Act} (i : Nat) : roundQ Z I Ix xs W (.exit i) a W' = ((∀ k, Z k → W'.heap[k]? = W.heap[k]?) ∧ Ix (.exit i) xs W') := (rfl)
/-- The law, with the evaluator's words. -/
theorem rangeV {α : Type} {g : Operand} {q : Tmp} {assign body : Code} {Q : Exit → Act → World → Prop} {t : Fr} {w : World} {gf : Nat} {lb : List Value} (hg : ev t g = .func (.func gf) #[] lb.toArray) (eg : ∀ args w, (callFunc gf args).run P w = .ok (.enter gf args) w)
    {en : α → Value} {B Z : Nat → Prop} {S Sp : List α → Prop} {A : List α → α → Prop} (hB : ∀ k, B k → k < w.heap.size) (hZ : ∀ k, Z k → k < w.heap.size) (hseq : Iter P (n - 1) gf lb.toArray (fun x => #[en x]) B Z S Sp A w)
    (I : List α → World → Prop) (Ix : Code → List α → World → Prop) (hI : ∀ s W W', I s W → Kept (fun k => B k ∨ k = w.heap.size ∨ k = w.heap.size + 1) W W' → I s W') (hIx : ∀ c s W W', Ix c s W → Kept (fun k => B k ∨ k = w.heap.size ∨ k = w.heap.size + 1) W W' → Ix c s W') (h0 : I [] w) (d : Nat)
    (pa : plainB assign = true) (pb : plainB body = true) (hassign : ∀ (x : α) (W : World), vc P assign (fun e t' W' => e = .normal ∧ t' = ((t.set q (en x)).set d (en x)) ∧ W' = W) (t.set q (en x)) W .mk)
    (hbody : ∀ (pre : List α) (x : α) (W : World), I pre W → A pre x → w.heap.size + 1 < W.heap.size → vc P body (fun e t' W' => W.heap.size ≤ W'.heap.size ∧ roundQ (fun k => Z k ∨ k = w.heap.size ∨ k = w.heap.size + 1) I Ix (pre ++ [x]) W e ⟨t'.toArray, []⟩ W') (((t.set q (en x)).set d (en x))) W .mk)
    (hdone : ∀ (xs : List α) (W : World), S xs → I xs W → W.heap[w.heap.size]? = some (.deferred (some [])) → Q .normal ⟨t.toArray, { target := .collected w.heap.size, args := #[] } :: ds⟩ W)
    (hstop : ∀ (c : Code) (pre : List α) (W : World), Sp pre → Ix c pre W → W.heap[w.heap.size]? = some (.deferred (some [])) → c.wpIn (fen none) n P Q ⟨t.toArray, { target := .collected w.heap.size, args := #[] } :: ds⟩ W) :
    (Code.rangeFunc g #[q] assign body).wpIn (fen none) n P Q ⟨t.toArray, ds⟩ w := by
  refine rangeK (a := ⟨t.toArray, ds⟩) (by rw [ev_eq]; exact hg) eg (encs := fun x => #[en x]) (fun _ => rfl) hB hZ hseq I Ix hI hIx h0 (fun x => ⟨((t.set q (en x)).set d (en x)).toArray, []⟩) ?_ ?_ hdone hstop
  · intro x W K hK
    have e : (((#[q] : Array Tmp).zip #[en x]).foldl (fun t (x : Tmp × Value) => t.setIfInBounds x.1 x.2) t.toArray) = (t.set q (en x)).toArray := zip1 q (en x) t
    show assign.wpIn _ _ _ _ ⟨(((#[q] : Array Tmp).zip #[en x]).foldl (fun t (x : Tmp × Value) => t.setIfInBounds x.1 x.2) t.toArray), []⟩ _
    rw [e]
    refine wpIn_mono (vcIn_ok (ds := []) assign pa _ _ _ (hassign x W)) ?_
    rintro e a w' ⟨hd, rfl, ht, rfl⟩
    show K a w'
    rw [act_eqD hd, ht]
    exact hK
  · intro pre x W h1 h2 h3
    refine wpIn_mono (vcIn_ok (ds := []) body pb _ _ _ (hbody pre x W h1 h2 h3)) ?_
    rintro e a w' ⟨hd, h4, h5⟩
    refine ⟨h4, ?_⟩
    rw [act_eqD hd]
    exact h5
end
attribute [push_cast] then_n then_r then_e inBlock_n inBlock_r inBlock_e roundQ_n roundQ_r roundQ_e
end Go.Vc
end
section
namespace Go.Proofs.YtiofleijieepgaaGreatDoor
open Go.Vc Go.Proofs Go.RowKit Cae
set_option maxRecDepth 100000
set_option linter.unusedSimpArgs false
set_option linter.unusedVariables false
attribute [local irreducible] wpL callK valK unitK runK Fun Sl Vc.Own vc vcOps opK pureK
set_option maxHeartbeats 4000000

theorem splitSeq_c (s : List UInt8) (c : UInt8) (w : World) : Fun Tryz.prog 148 [str s, str [c], .int .i64 0] w fun r w' => r = .func (.func 166) #[] #[.pointer (some ⟨w.heap.size + 1, 0, none⟩), .pointer (some ⟨w.heap.size, 0, none⟩), .pointer (some ⟨w.heap.size + 2, 0, none⟩)] ∧ Blk w' w.heap.size 9 [str s] ∧ Blk w' (w.heap.size + 1) 9 [str [c]] ∧ Blk w' (w.heap.size + 2) 3 [.int .i64 0] ∧ w'.heap.size = w.heap.size + 3 ∧ Below w.heap.size w w' := by
  refine fun_of_vc Tryz.func148 rfl (by kernel_rfl) [6] rfl ?_
  simp -dsimp (maxSteps := 4000000) only [push_cast, fr0, Tryz.ntmps148, List.length_cons, List.length_nil, Nat.reduceAdd, Nat.reduceSub, Nat.reduceBEq, List.replicate_succ, List.replicate_zero]
  refine boxK_of ?_
  intro w1 hw1
  have sz1 := hw1.size
  simp -dsimp only [push_cast, Nat.reduceAdd, Nat.reduceLeDiff, Nat.reduceBEq, decide_true]
  refine boxK_of ?_
  intro w2 hw2
  have sz2 := hw2.size
  simp -dsimp only [push_cast, Nat.reduceAdd, Nat.reduceLeDiff, Nat.reduceBEq, decide_true]
  refine boxK_of ?_
  intro w3 hw3
  have sz3 := hw3.size
  simp -dsimp only [push_cast, Nat.reduceAdd, Nat.reduceLeDiff, Nat.reduceBEq, decide_true, ne_eq, eq_self, not_true_eq_false, not_false_eq_true, true_imp_iff, false_imp_iff, Int.reduceNe, Int.reduceEq, Int.reduceLT, Int.reduceLE, Bool.not_true, Bool.not_false, sz1, sz2]
  have b1 := (hw1.blk.below hw2.below (by omega)).below hw3.below (by omega)
  have b2 := hw2.blk.below hw3.below (by omega)
  have b3 := hw3.blk
  rw [sz1] at b2
  rw [sz2, sz1] at b3
  exact ⟨b1, b2, b3, by omega, (hw1.below.trans (hw2.below.mono (by omega))).trans (hw3.below.mono (by omega))⟩
theorem splitSeqs_c (s : List UInt8) (c : UInt8) (w : World) : Fun Tryz.prog 120 [str s, str [c]] w fun r w' => r = .func (.func 166) #[] #[.pointer (some ⟨w.heap.size + 1, 0, none⟩), .pointer (some ⟨w.heap.size, 0, none⟩), .pointer (some ⟨w.heap.size + 2, 0, none⟩)] ∧ Blk w' w.heap.size 9 [str s] ∧ Blk w' (w.heap.size + 1) 9 [str [c]] ∧ Blk w' (w.heap.size + 2) 3 [.int .i64 0] ∧ w'.heap.size = w.heap.size + 3 ∧ Below w.heap.size w w' := by
  refine fun_of_vc Tryz.func120 rfl (by kernel_rfl) [4] rfl ?_
  simp -dsimp (maxSteps := 4000000) only [push_cast, fr0, Tryz.ntmps120, List.length_cons, List.length_nil, Nat.reduceAdd, Nat.reduceSub, Nat.reduceBEq, List.replicate_succ, List.replicate_zero]
  refine callK_of (splitSeq_c s c w) ?_
  rintro _ w1 ⟨rfl, h⟩
  simp -dsimp only [push_cast, Nat.reduceAdd, Nat.reduceLeDiff, Nat.reduceBEq, decide_true, ne_eq, eq_self, not_true_eq_false, not_false_eq_true, true_imp_iff, false_imp_iff, Int.reduceNe, Int.reduceEq, Int.reduceLT, Int.reduceLE, Bool.not_true, Bool.not_false]
  exact h

def rdLen (w : World) (b : Nat) : Nat := match w.cell? ⟨b, 0, none⟩ with | some (.string s) => s.size | _ => 0
theorem rdLen_of {w : World} {b : Nat} {s : List UInt8} (h : w.cell? ⟨b, 0, none⟩ = some (str s)) : rdLen w b = s.length := by
  unfold rdLen; rw [h]; rfl
theorem split_it (s : List UInt8) (c : UInt8) (hs : s.length ≤ 1000000000) (n bs bp bv : Nat) (h1' : bs ≠ bp) (h2' : bs ≠ bv) (w : World) (hS : Blk w bs 9 [str s]) (hP : Blk w bp 9 [str [c]]) (hV : Blk w bv 3 [.int .i64 0]) :
    Iter Tryz.prog n 166 #[.pointer (some ⟨bp, 0, none⟩), .pointer (some ⟨bs, 0, none⟩), .pointer (some ⟨bv, 0, none⟩)] (fun x : List UInt8 => #[str x]) (fun k => k = bs) (fun k => k = bs ∨ k = bp ∨ k = bv) (fun xs => xs = splitB c s) (fun pre => pre <+: splitB c s) (fun pre x => pre ++ [x] <+: splitB c s) w := by
  intro l J Jx W hW hWs hJ hJx hY h0
  have hS : Blk W bs 9 [str s] := (hW _ hS.lt).trans hS
  have hP : Blk W bp 9 [str [c]] := (hW _ hP.lt).trans hP
  have hV : Blk W bv 3 [.int .i64 0] := (hW _ hV.lt).trans hV
  refine callsIn_of_wp Tryz.func166 rfl trivial ?_ rfl
  have c0 : W.cell? ⟨bp, 0, none⟩ = some (str [c]) := hP.cell rfl
  simp only [Tryz.ntmps166, List.size_toArray, List.length_cons, List.length_nil, Nat.reduceAdd, Nat.reduceSub, Array.replicate_succ, Array.replicate_zero, List.push_toArray, List.append_toArray, List.nil_append, List.cons_append]
  refine wpIn_seq (seqIn (ro := none) (by rfl) ?_)
  simp -dsimp only [push_cast, Nat.reduceAdd, Nat.reduceLeDiff, Nat.reduceBEq, decide_true, ne_eq, eq_self, not_true_eq_false, not_false_eq_true, true_imp_iff, false_imp_iff, Int.reduceNe, Int.reduceEq, Int.reduceLT, Int.reduceLE, Bool.not_true, Bool.not_false, c0]
  refine condF (by rfl) (wpIn_skip ?_)
  simp -dsimp only [push_cast, Nat.reduceAdd, Nat.reduceLeDiff, Nat.reduceBEq, decide_true, ne_eq, eq_self, not_true_eq_false, not_false_eq_true, true_imp_iff, false_imp_iff, Int.reduceNe, Int.reduceEq, Int.reduceLT, Int.reduceLE, Bool.not_true, Bool.not_false]
  refine wpIn_seq (wpIn_block (loopIn (ro := none) [7, 8, 29, 30, 31, 32, 33, 34, 35, 36, 37, 38, 39, 40, 41, 42, 43, 44, 45, 46, 47, 48] (fun z wx => ∃ pre rest, pre ++ splitB c rest = splitB c s ∧ J pre wx ∧ Blk wx bs 9 [str rest] ∧ Blk wx bp 9 [str [c]] ∧ Blk wx bv 3 [.int .i64 0] ∧ rest.length ≤ s.length) (fun _ wx => rdLen wx bs) ?_ ?_))
  · exact ⟨[], s, rfl, h0, hS, hP, hV, Nat.le_refl _⟩
  · intro z wx hI
    obtain ⟨pre, rest, hsp, hj, hS, hP, hV, hlr⟩ := hI
    have hrd := rdLen_of (hS.cell (o := 0) rfl)
    have cS : wx.cell? ⟨bs, 0, none⟩ = some (str rest) := hS.cell rfl
    have cP : wx.cell? ⟨bp, 0, none⟩ = some (str [c]) := hP.cell rfl
    have cV : wx.cell? ⟨bv, 0, none⟩ = some (.int .i64 0) := hV.cell rfl
    have hse := splitB_eq c rest
    refine wpIn_block (seqIn (ro := none) (by rfl) ?_)
    simp -dsimp only [push_cast, Nat.reduceAdd, Nat.reduceLeDiff, Nat.reduceBEq, decide_true, ne_eq, eq_self, not_true_eq_false, not_false_eq_true, true_imp_iff, false_imp_iff, Int.reduceNe, Int.reduceEq, Int.reduceLT, Int.reduceLE, Bool.not_true, Bool.not_false, cS, cP]
    refine callK_of (index_s rest c wx) ?_
    rintro _ w1 ⟨rfl, rfl⟩
    rw [ib_spec]
    simp -dsimp only [push_cast, Nat.reduceAdd, Nat.reduceLeDiff, Nat.reduceBEq, decide_true, ne_eq, eq_self, not_true_eq_false, not_false_eq_true, true_imp_iff, false_imp_iff, Int.reduceNe, Int.reduceEq, Int.reduceLT, Int.reduceLE, Bool.not_true, Bool.not_false]
    refine seqIn (ro := none) (by rfl) ?_
    have fin : ∀ (x : Exit) (t : Fr) (w2 : World), (x = .normal ∨ x = .ret) → ((∃ xs, xs = splitB c s ∧ J xs w2) ∨ ∃ pre, pre <+: splitB c s ∧ Jx pre w2) → bodyPost Tryz.prog Tryz.f166 (fun e W' => (∃ v, e = .returned v) ∧ ((∃ xs, xs = splitB c s ∧ J xs W') ∨ ∃ pre, pre <+: splitB c s ∧ Jx pre W')) x ⟨t.toArray, []⟩ w2 := fun x t w2 hx hh => by
      obtain ⟨vs, h1, _⟩ := resultsC_run (P := Tryz.prog) (w := w2) Tryz.f166 [] (by rfl) t (fun _ => True) trivial
      rcases hx with rfl | rfl <;> exact ⟨rfl, _, h1, ⟨_, rfl⟩, hh⟩
    cases hc : rest.contains c with
    | false =>
      simp only [Bool.false_eq_true, if_false]
      simp -dsimp only [push_cast, Nat.reduceAdd, Nat.reduceLeDiff, Nat.reduceBEq, decide_true, ne_eq, eq_self, not_true_eq_false, not_false_eq_true, true_imp_iff, false_imp_iff, Int.reduceNe, Int.reduceEq, Int.reduceLT, Int.reduceLE, Bool.not_true, Bool.not_false]
      rw [if_neg (by decide)]
      have hone : splitB c rest = [rest] := by rw [hse, hc, tw_all hc]; rfl
      rw [hone] at hsp
      have hy := hY pre rest w1 hj (by show pre ++ [rest] <+: _; rw [hsp]; exact List.prefix_refl _)
      refine yieldRegion (l := l) (m := n) (l1 := [_, _]) (l2 := []) (by rfl) (by rfl) (by rfl) (by rfl) ?_
      simp -dsimp only [push_cast, Nat.reduceAdd, Nat.reduceLeDiff, Nat.reduceBEq, decide_true, ne_eq, eq_self, not_true_eq_false, not_false_eq_true, true_imp_iff, false_imp_iff, Int.reduceNe, Int.reduceEq, Int.reduceLT, Int.reduceLE, Bool.not_true, Bool.not_false, cS]
      refine ⟨_, hy, ?_⟩
      rintro e w2 hr
      rcases hr with ⟨rfl, h1, _, _⟩ | ⟨rfl, h1⟩
      · refine ⟨true, rfl, ?_⟩
        exact fin .normal _ _ (.inl rfl) (.inl ⟨_, hsp, h1⟩)
      · refine ⟨false, rfl, ?_⟩
        exact fin .normal _ _ (.inl rfl) (.inr ⟨_, by rw [hsp]; exact List.prefix_refl _, h1⟩)
    | true =>
      simp only [if_true]
      have hlt := tw_lt hc
      rw [hc, if_pos rfl] at hse
      have hg : ∃ k, (rest.takeWhile (· != c)).length = k := ⟨_, rfl⟩
      obtain ⟨k, hk⟩ := hg
      have h1 : rest.takeWhile (· != c) = rest.take k := by rw [← hk]; exact (take_tw _ rest).symm
      have h2 : (rest.dropWhile (· != c)).drop 1 = rest.drop (k + 1) := by rw [← drop_tw, List.drop_drop, hk]
      rw [h1, h2] at hse
      rw [hk] at hlt ⊢
      have hge : decide ((k : Int) < 0) = false := decide_eq_false (by omega)
      have hy := hY pre (rest.take k) w1 hj (by show pre ++ [rest.take k] <+: _; rw [← hsp, hse]; exact ⟨splitB c (rest.drop (k + 1)), by simp⟩)
      simp -dsimp only [push_cast, Nat.reduceAdd, Nat.reduceLeDiff, Nat.reduceBEq, decide_true, ne_eq, eq_self, not_true_eq_false, not_false_eq_true, true_imp_iff, false_imp_iff, Int.reduceNe, Int.reduceEq, Int.reduceLT, Int.reduceLE, Bool.not_true, Bool.not_false, hge]
      refine seqIn (ro := none) (by rfl) ?_
      simp -dsimp only [push_cast, Nat.reduceAdd, Nat.reduceLeDiff, Nat.reduceBEq, decide_true, ne_eq, eq_self, not_true_eq_false, not_false_eq_true, true_imp_iff, false_imp_iff, Int.reduceNe, Int.reduceEq, Int.reduceLT, Int.reduceLE, Bool.not_true, Bool.not_false, cS, cV]
      have ek : ((k : Int) + 0).toNat = k := by omega
      refine ⟨by omega, by omega, ?_⟩
      rw [ek]
      refine wpIn_seq (wpIn_seq (yieldRegion (l := l) (m := n) (l1 := [_, _]) (l2 := [_]) (by rfl) (by rfl) (by rfl) (by rfl) ?_))
      simp -dsimp only [push_cast, Nat.reduceAdd, Nat.reduceLeDiff, Nat.reduceBEq, decide_true, ne_eq, eq_self, not_true_eq_false, not_false_eq_true, true_imp_iff, false_imp_iff, Int.reduceNe, Int.reduceEq, Int.reduceLT, Int.reduceLE, Bool.not_true, Bool.not_false]
      refine ⟨_, hy, ?_⟩
      rintro e w2 hr
      have hpre : pre ++ [rest.take k] <+: splitB c s := by rw [← hsp, hse]; exact ⟨splitB c (rest.drop (k + 1)), by simp⟩
      rcases hr with ⟨rfl, h1, hz, hsz⟩ | ⟨rfl, h1⟩
      · refine ⟨true, rfl, ?_⟩
        have hS2 : Blk w2 bs 9 [str rest] := (hz _ (.inl rfl)).trans hS
        have hP2 : Blk w2 bp 9 [str [c]] := (hz _ (.inr (.inl rfl))).trans hP
        have hV2 : Blk w2 bv 3 [.int .i64 0] := (hz _ (.inr (.inr rfl))).trans hV
        have dS : w2.cell? ⟨bs, 0, none⟩ = some (str rest) := hS2.cell rfl
        have dP : w2.cell? ⟨bp, 0, none⟩ = some (str [c]) := hP2.cell rfl
        simp -dsimp only [push_cast, Nat.reduceAdd, Nat.reduceLeDiff, Nat.reduceBEq, decide_true, ne_eq, eq_self, not_true_eq_false, not_false_eq_true, true_imp_iff, false_imp_iff, Int.reduceNe, Int.reduceEq, Int.reduceLT, Int.reduceLE, Bool.not_true, Bool.not_false]
        refine condF (by rfl) (wpIn_skip ?_)
        simp -dsimp only [push_cast, Nat.reduceAdd, Nat.reduceLeDiff, Nat.reduceBEq, decide_true, ne_eq, eq_self, not_true_eq_false, not_false_eq_true, true_imp_iff, false_imp_iff, Int.reduceNe, Int.reduceEq, Int.reduceLT, Int.reduceLE, Bool.not_true, Bool.not_false]
        refine plainIn (ro := none) (by rfl) ?_
        simp -dsimp only [push_cast, Nat.reduceAdd, Nat.reduceLeDiff, Nat.reduceBEq, decide_true, ne_eq, eq_self, not_true_eq_false, not_false_eq_true, true_imp_iff, false_imp_iff, Int.reduceNe, Int.reduceEq, Int.reduceLT, Int.reduceLE, Bool.not_true, Bool.not_false, dS, dP]
        have ek1 : ((k : Int) + (0 + 1)).toNat = k + 1 := by omega
        refine ⟨by omega, by omega, ?_⟩
        rw [ek1]
        refine storeK_of hS2 (by simp) rfl ?_
        intro w3 hw3
        have hP3 := hP2.kept hw3.kept (fun h => h1' h.symm)
        have hV3 := hV2.kept hw3.kept (fun h => h2' h.symm)
        have hS3 : Blk w3 bs 9 [str (rest.drop (k + 1))] := hw3.blk
        simp -dsimp only [push_cast, Nat.reduceAdd, Nat.reduceLeDiff, Nat.reduceBEq, decide_true, ne_eq, eq_self, not_true_eq_false, not_false_eq_true, true_imp_iff, false_imp_iff, Int.reduceNe, Int.reduceEq, Int.reduceLT, Int.reduceLE, Bool.not_true, Bool.not_false]
        refine ⟨⟨_, _, by rw [List.append_assoc, List.singleton_append, ← hse]; exact hsp, hJ _ _ _ h1 hw3.kept, hS3, hP3, hV3, by rw [List.length_drop]; omega⟩, ?_⟩
        rw [rdLen_of (hS3.cell (o := 0) rfl), hrd, List.length_drop]
        omega
      · refine ⟨false, rfl, ?_⟩
        simp -dsimp only [push_cast, Nat.reduceAdd, Nat.reduceLeDiff, Nat.reduceBEq, decide_true, ne_eq, eq_self, not_true_eq_false, not_false_eq_true, true_imp_iff, false_imp_iff, Int.reduceNe, Int.reduceEq, Int.reduceLT, Int.reduceLE, Bool.not_true, Bool.not_false]
        refine condT (by rfl) (wpIn_ret ?_)
        simp -dsimp only [push_cast, Nat.reduceAdd, Nat.reduceLeDiff, Nat.reduceBEq, decide_true, ne_eq, eq_self, not_true_eq_false, not_false_eq_true, true_imp_iff, false_imp_iff, Int.reduceNe, Int.reduceEq, Int.reduceLT, Int.reduceLE, Bool.not_true, Bool.not_false]
        exact fin .ret _ _ (.inr rfl) (.inr ⟨_, hpre, h1⟩)
end Go.Proofs.YtiofleijieepgaaGreatDoor
end
section
namespace Cae
theorem hexP_head {n : Nat} (hn : n < 4294967296) : ∃ b r, hexP n = b :: r ∧ isHex b = true := by
  cases h : hexP n with
  | nil => exact absurd h (hexP_ne n)
  | cons b r => exact ⟨b, r, rfl, hexP_all hn b (by rw [h]; simp)⟩
end Cae
namespace Go.Proofs.YtiofleijieepgaaGreatDoor
open Go.Vc Go.Proofs Go.RowKit Cae
set_option maxRecDepth 100000
set_option linter.unusedSimpArgs false
set_option linter.unusedVariables false
attribute [local irreducible] wpL callK valK unitK runK Fun Sl Vc.Own vc vcOps opK pureK
set_option maxHeartbeats 8000000

/-- The two variables that hold errors. -/
def SErrs (w : World) : Prop := (∃ t p, w.cell? ⟨6, 0, none⟩ = some (.iface t p)) ∧ (∃ t p, w.cell? ⟨7, 0, none⟩ = some (.iface t p))
theorem SErrs.below {w w' : World} (h : SErrs w) (hb : Below w.heap.size w w') : SErrs w' := by
  obtain ⟨⟨t, p, h1⟩, ⟨t', p', h2⟩⟩ := h
  exact ⟨⟨t, p, (hb.cell (World.block_lt_of_cell? w _ h1)).trans h1⟩, ⟨t', p', (hb.cell (World.block_lt_of_cell? w _ h2)).trans h2⟩⟩
def toErrR_ren : Go.Shelf.Ren := ⟨fun | 245 => 111 | 279 => 133 | 280 => 134 | 281 => 135 | 282 => 136 | 316 => 159 | 171 => 64 | 205 => 160 | 243 => 98 | 246 => 122 | 283 => 150 | 284 => 151 | 285 => 152 | 286 => 153 | 129 => 169 | 317 => 168 | 318 => 170 | 319 => 171 | 320 => 172 | 337 => 179 | 338 => 180 | n => n, fun | 9 => 9 | 3 => 3 | 75 => 29 | 167 => 176 | 4 => 4 | 168 => 177 | 210 => 210 | 37 => 75 | 0 => 0 | 127 => 108 | 145 => 247 | 143 => 245 | 2 => 2 | 171 => 193 | 53 => 194 | 5 => 5 | 173 => 197 | 212 => 229 | 51 => 118 | 20 => 20 | 213 => 230 | 46 => 148 | 232 => 251 | 233 => 252 | 80 => 82 | n => n, fun | 15 => 6 | 16 => 7 | 17 => 10 | 18 => 11 | 19 => 12 | n => n⟩
theorem toErrR : Go.Proofs.LaysC.n245 Tryz.prog toErrR_ren := {
  mixed := by kernel_rfl
  f129 := Tryz.func169.trans (congrArg some (by kernel_rfl))
  f171 := Tryz.func64.trans (congrArg some (by kernel_rfl))
  f205 := Tryz.func160.trans (congrArg some (by kernel_rfl))
  f243 := Tryz.func98.trans (congrArg some (by kernel_rfl))
  f245 := Tryz.func111.trans (congrArg some (by kernel_rfl))
  f246 := Tryz.func122.trans (congrArg some (by kernel_rfl))
  f279 := Tryz.func133.trans (congrArg some (by kernel_rfl))
  f280 := Tryz.func134.trans (congrArg some (by kernel_rfl))
  f281 := Tryz.func135.trans (congrArg some (by kernel_rfl))
  f282 := Tryz.func136.trans (congrArg some (by kernel_rfl))
  f283 := Tryz.func150.trans (congrArg some (by kernel_rfl))
  f284 := Tryz.func151.trans (congrArg some (by kernel_rfl))
  f285 := Tryz.func152.trans (congrArg some (by kernel_rfl))
  f286 := Tryz.func153.trans (congrArg some (by kernel_rfl))
  f316 := Tryz.func159.trans (congrArg some (by kernel_rfl))
  f317 := Tryz.func168.trans (congrArg some (by kernel_rfl))
  f318 := Tryz.func170.trans (congrArg some (by kernel_rfl))
  f319 := Tryz.func171.trans (congrArg some (by kernel_rfl))
  f320 := Tryz.func172.trans (congrArg some (by kernel_rfl))
  f337 := Tryz.func179.trans (congrArg some (by kernel_rfl))
  f338 := Tryz.func180.trans (congrArg some (by kernel_rfl))
  t0 := Tryz.underlying0
  a0 := Tryz.isAgg0
  z0 := Tryz.sizeOf0
  v0 := Tryz.zeroValue0
  t2 := Tryz.underlying2
  a2 := Tryz.isAgg2
  z2 := Tryz.sizeOf2
  v2 := Tryz.zeroValue2
  t3 := Tryz.underlying3
  a3 := Tryz.isAgg3
  z3 := Tryz.sizeOf3
  v3 := Tryz.zeroValue3
  t4 := Tryz.underlying4
  a4 := Tryz.isAgg4
  z4 := Tryz.sizeOf4
  v4 := Tryz.zeroValue4
  t5 := Tryz.underlying5
  a5 := Tryz.isAgg5
  z5 := Tryz.sizeOf5
  v5 := Tryz.zeroValue5
  t9 := Tryz.underlying9
  a9 := Tryz.isAgg9
  z9 := Tryz.sizeOf9
  v9 := Tryz.zeroValue9
  t20 := Tryz.underlying20
  a20 := Tryz.isAgg20
  z20 := Tryz.sizeOf20
  v20 := Tryz.zeroValue20
  t37 := Tryz.underlying75
  a37 := Tryz.isAgg75
  z37 := Tryz.sizeOf75
  v37 := Tryz.zeroValue75
  t46 := Tryz.underlying148
  a46 := Tryz.isAgg148
  z46 := Tryz.sizeOf148
  v46 := Tryz.zeroValue148
  t51 := Tryz.underlying118
  a51 := Tryz.isAgg118
  z51 := Tryz.sizeOf118
  v51 := Tryz.zeroValue118
  t53 := Tryz.underlying194
  a53 := Tryz.isAgg194
  z53 := Tryz.sizeOf194
  v53 := Tryz.zeroValue194
  t75 := Tryz.underlying29
  a75 := Tryz.isAgg29
  z75 := Tryz.sizeOf29
  v75 := Tryz.zeroValue29
  t127 := Tryz.underlying108
  a127 := Tryz.isAgg108
  z127 := Tryz.sizeOf108
  v127 := Tryz.zeroValue108
  t143 := Tryz.underlying245
  a143 := Tryz.isAgg245
  z143 := Tryz.sizeOf245
  v143 := Tryz.zeroValue245
  t145 := Tryz.underlying247
  a145 := Tryz.isAgg247
  z145 := Tryz.sizeOf247
  v145 := Tryz.zeroValue247
  t167 := Tryz.underlying176
  a167 := Tryz.isAgg176
  z167 := Tryz.sizeOf176
  v167 := Tryz.zeroValue176
  t168 := Tryz.underlying177
  a168 := Tryz.isAgg177
  z168 := Tryz.sizeOf177
  v168 := Tryz.zeroValue177
  t171 := Tryz.underlying193
  a171 := Tryz.isAgg193
  z171 := Tryz.sizeOf193
  v171 := Tryz.zeroValue193
  t173 := Tryz.underlying197
  a173 := Tryz.isAgg197
  z173 := Tryz.sizeOf197
  v173 := Tryz.zeroValue197
  t210 := Tryz.underlying210
  a210 := Tryz.isAgg210
  z210 := Tryz.sizeOf210
  v210 := Tryz.zeroValue210
  t212 := Tryz.underlying229
  a212 := Tryz.isAgg229
  z212 := Tryz.sizeOf229
  v212 := Tryz.zeroValue229
  t213 := Tryz.underlying230
  a213 := Tryz.isAgg230
  z213 := Tryz.sizeOf230
  t232 := Tryz.underlying251
  a232 := Tryz.isAgg251
  z232 := Tryz.sizeOf251
  v232 := Tryz.zeroValue251
  t233 := Tryz.underlying252
  a233 := Tryz.isAgg252
  z233 := Tryz.sizeOf252
  v233 := Tryz.zeroValue252
  g15 := by kernel_rfl
  g16 := by kernel_rfl
  g17 := by kernel_rfl
  g18 := by kernel_rfl
  g19 := by kernel_rfl
  t80 := Tryz.underlying82
  a80 := Tryz.isAgg82
  z80 := Tryz.sizeOf82
  v80 := Tryz.zeroValue82
  i0 := by kernel_rfl
  i2 := by kernel_rfl
  i3 := by kernel_rfl
  i4 := by kernel_rfl
  i5 := by kernel_rfl
  i9 := by kernel_rfl
  i20 := by kernel_rfl
  i37 := by kernel_rfl
  i46 := by kernel_rfl
  i51 := by kernel_rfl
  i53 := by kernel_rfl
  i75 := by kernel_rfl
  i80 := by kernel_rfl
  i127 := by kernel_rfl
  i143 := by kernel_rfl
  i145 := by kernel_rfl
  i167 := by kernel_rfl
  i168 := by kernel_rfl
  i171 := by kernel_rfl
  i173 := by kernel_rfl
  i210 := by kernel_rfl
  i212 := by kernel_rfl
  i232 := by kernel_rfl
  i233 := by kernel_rfl
  m15 := by kernel_rfl
  m16 := by kernel_rfl
  m17 := by kernel_rfl
  m18 := by kernel_rfl
  m19 := by kernel_rfl
  c0 := by kernel_rfl
  c2 := by kernel_rfl
  c3 := by kernel_rfl
  c4 := by kernel_rfl
  c5 := by kernel_rfl
  c9 := by kernel_rfl
  c20 := by kernel_rfl
  c37 := by kernel_rfl
  c46 := by kernel_rfl
  c51 := by kernel_rfl
  c53 := by kernel_rfl
  c75 := by kernel_rfl
  c80 := by kernel_rfl
  c127 := by kernel_rfl
  c143 := by kernel_rfl
  c145 := by kernel_rfl
  c167 := by kernel_rfl
  c168 := by kernel_rfl
  c171 := by kernel_rfl
  c173 := by kernel_rfl
  c210 := by kernel_rfl
  c212 := by kernel_rfl
  c213 := by kernel_rfl
  c232 := by kernel_rfl
  c233 := by kernel_rfl }

theorem toErr_c (f s : List UInt8) (base bits : Int) (k : Int) (hk : k = 1 ∨ k = 2) (hs : s.length ≤ 1000000000) (w : World) (h : SErrs w) : Fun Tryz.prog 111 [str f, str s, .int .i64 base, .int .i64 bits, .iface 176 (.int .i64 k)] w fun r w' => (∃ t p, r = .iface t p) ∧ Below w.heap.size w w' := by
  obtain ⟨⟨t1, p1, h1⟩, ⟨t2, p2, h2⟩⟩ := h
  refine fun_of_calls Tryz.func111 (by kernel_rfl) (by kernel_rfl) ?_
  rcases hk with rfl | rfl
  · refine Calls.mono (Any.strconv_toError_range toErrR ⟨f.toArray⟩ ⟨s.toArray⟩ base bits _ w (by show s.length ≤ _; omega) h2 (.inr ⟨_, _, rfl⟩)) ?_
    rintro e w' ⟨N, rfl, _, _, hb⟩
    exact ⟨_, rfl, ⟨_, _, rfl⟩, hb⟩
  · refine Calls.mono (Any.strconv_toError_syntax toErrR ⟨f.toArray⟩ ⟨s.toArray⟩ base bits _ w (by show s.length ≤ _; omega) h1 (.inr ⟨_, _, rfl⟩)) ?_
    rintro e w' ⟨N, rfl, _, _, hb⟩
    exact ⟨_, rfl, ⟨_, _, rfl⟩, hb⟩
theorem parseInt_l (s : List UInt8) (hs : s.length ≤ 1000000000) (w : World) : Fun Tryz.prog 132 [str s, .int .i64 16, .int .i64 32] w fun r w' => (∃ (v : Int) (e : Value), r = .tuple #[.int .i64 v, e] ∧ PErr e ∧ (∀ n < 2147483648, s = hexP n → v = n ∧ e = .nilIface)) ∧ Below w.heap.size w w' := by
  refine fun_of_vc Tryz.func132 rfl (by kernel_rfl) [6, 7] rfl ?_
  simp -dsimp (maxSteps := 4000000) only [push_cast, fr0, Tryz.ntmps132, List.length_cons, List.length_nil, Nat.reduceAdd, Nat.reduceSub, Nat.reduceBEq, List.replicate_succ, List.replicate_zero]
  by_cases hne : s = []
  · subst hne
    have e0 : decide (([] : List UInt8) = []) = true := rfl
    simp -dsimp (maxSteps := 4000000) only [push_cast, Nat.reduceAdd, Nat.reduceLeDiff, Nat.reduceBEq, decide_true, ne_eq, eq_self, not_true_eq_false, not_false_eq_true, true_imp_iff, false_imp_iff, Int.reduceNe, Int.reduceEq, Int.reduceLT, Int.reduceLE, Bool.not_true, Bool.not_false, e0]
    refine ⟨⟨0, _, rfl, .inr (.inr rfl), fun n _ h => absurd h.symm (hexP_ne n)⟩, Below.refl _ _⟩
  have hgc : ∃ c r, s = c :: r := List.exists_cons_of_ne_nil hne
  obtain ⟨c, r, rfl⟩ := hgc
  have e0 : decide (c :: r = []) = false := decide_eq_false hne
  have eh : (c :: r).getD 0 0 = c := rfl
  have hsz : (c :: r).length = r.length + 1 := rfl
  have hgb : ∃ b, c.toNat = b := ⟨_, rfl⟩
  obtain ⟨b, hb0⟩ := hgb
  have hnx : (b = 43 ∨ b = 45) → ∀ n < 2147483648, c :: r ≠ hexP n := fun h n hn hh => by
    obtain ⟨b', r', h1, h2⟩ := hexP_head (n := n) (by omega)
    rw [h1] at hh
    cases hh
    unfold isHex at h2
    rw [hb0, Bool.or_eq_true, Bool.and_eq_true, Bool.and_eq_true, decide_eq_true_eq, decide_eq_true_eq, decide_eq_true_eq, decide_eq_true_eq] at h2
    omega
  have ef : decide False = false := rfl
  have et : decide True = true := rfl
  have ed1 : (c :: r).drop (Int.toNat 1) = r := rfl
  simp -dsimp (maxSteps := 4000000) only [push_cast, Nat.reduceAdd, Nat.reduceLeDiff, Nat.reduceBEq, decide_true, ne_eq, eq_self, not_true_eq_false, not_false_eq_true, true_imp_iff, false_imp_iff, Int.reduceNe, Int.reduceEq, Int.reduceLT, Int.reduceLE, Bool.not_true, Bool.not_false, eh, hb0, ef, et, ed1]
  refine ⟨fun h => absurd h hne, fun _ => ⟨by omega, fun h43 => ⟨by omega, ?_⟩, fun n43 => ⟨fun h45 => ⟨by omega, ?_⟩, fun n45 => ?_⟩⟩⟩
  · have hno := hnx (.inl (by omega))
    refine callK_of (parseUint_c r (by first | omega | exact hs) w) ?_
    rintro _ w1 ⟨⟨v, e, rfl, hv, he, hx⟩, hb⟩
    have ecut : IntKind.u64.wrap (1 * 2 ^ min (IntKind.u64.wrap (32 - 1)).toNat IntKind.u64.bits) = 2147483648 := by decide
    have ewv : IntKind.i64.wrap (v : Int) = (v : Int) := by rw [wrap_i64 (by omega)]
    rcases he with rfl | rfl | rfl
    · simp -dsimp (maxSteps := 4000000) only [push_cast, Nat.reduceAdd, Nat.reduceLeDiff, Nat.reduceBEq, decide_true, ne_eq, eq_self, not_true_eq_false, not_false_eq_true, true_imp_iff, false_imp_iff, Int.reduceNe, Int.reduceEq, Int.reduceLT, Int.reduceLE, Bool.not_true, Bool.not_false, ef, et]
      rw [ecut]
      refine ⟨by omega, by decide, fun hge => ⟨⟨_, _, rfl, .inr (.inl rfl), fun n hn h => ?_⟩, hb⟩, fun hlt => ⟨⟨_, _, rfl, .inl rfl, fun n hn h => ?_⟩, hb⟩⟩
      · first | exact absurd h (hno n hn) | (have := (hx n (by omega) h).1; omega)
      · first | exact absurd h (hno n hn) | (have := (hx n (by omega) h).1; exact ⟨by rw [ewv]; omega, rfl⟩)
    · simp -dsimp (maxSteps := 4000000) only [push_cast, Nat.reduceAdd, Nat.reduceLeDiff, Nat.reduceBEq, decide_true, ne_eq, eq_self, not_true_eq_false, not_false_eq_true, true_imp_iff, false_imp_iff, Int.reduceNe, Int.reduceEq, Int.reduceLT, Int.reduceLE, Bool.not_true, Bool.not_false, ef, et]
      refine neqIfaceK (te := 176) (k := .i64) (q := .i64) rfl rfl rfl Tryz.underlying29 (by kernel_rfl) (by kernel_rfl) ?_
      have e12 : (!((1 : Int) == 1)) = false := rfl
      rw [e12]
      simp -dsimp (maxSteps := 4000000) only [push_cast, Nat.reduceAdd, Nat.reduceLeDiff, Nat.reduceBEq, decide_true, ne_eq, eq_self, not_true_eq_false, not_false_eq_true, true_imp_iff, false_imp_iff, Int.reduceNe, Int.reduceEq, Int.reduceLT, Int.reduceLE, Bool.not_true, Bool.not_false, ef, et]
      refine ⟨by omega, by decide, fun hge => ⟨⟨_, _, rfl, .inr (.inl rfl), fun n hn h => ?_⟩, hb⟩, fun hlt => ⟨⟨_, _, rfl, .inl rfl, fun n hn h => ?_⟩, hb⟩⟩
      · first | exact absurd h (hno n hn) | (have := (hx n (by omega) h).2; cases this)
      · first | exact absurd h (hno n hn) | (have := (hx n (by omega) h).2; cases this)
    · simp -dsimp (maxSteps := 4000000) only [push_cast, Nat.reduceAdd, Nat.reduceLeDiff, Nat.reduceBEq, decide_true, ne_eq, eq_self, not_true_eq_false, not_false_eq_true, true_imp_iff, false_imp_iff, Int.reduceNe, Int.reduceEq, Int.reduceLT, Int.reduceLE, Bool.not_true, Bool.not_false, ef, et]
      refine neqIfaceK (te := 176) (k := .i64) (q := .i64) rfl rfl rfl Tryz.underlying29 (by kernel_rfl) (by kernel_rfl) ?_
      have e12 : (!((2 : Int) == 1)) = true := rfl
      rw [e12]
      simp -dsimp (maxSteps := 4000000) only [push_cast, Nat.reduceAdd, Nat.reduceLeDiff, Nat.reduceBEq, decide_true, ne_eq, eq_self, not_true_eq_false, not_false_eq_true, true_imp_iff, false_imp_iff, Int.reduceNe, Int.reduceEq, Int.reduceLT, Int.reduceLE, Bool.not_true, Bool.not_false, ef, et]
      refine ⟨⟨_, _, rfl, .inr (.inr rfl), fun n hn h => ?_⟩, hb⟩
      first | exact absurd h (hno n hn) | (have := (hx n (by omega) h).2; cases this)
  · have hno := hnx (.inr (by omega))
    refine callK_of (parseUint_c r (by first | omega | exact hs) w) ?_
    rintro _ w1 ⟨⟨v, e, rfl, hv, he, hx⟩, hb⟩
    have ecut : IntKind.u64.wrap (1 * 2 ^ min (IntKind.u64.wrap (32 - 1)).toNat IntKind.u64.bits) = 2147483648 := by decide
    have ewv : IntKind.i64.wrap (v : Int) = (v : Int) := by rw [wrap_i64 (by omega)]
    rcases he with rfl | rfl | rfl
    · simp -dsimp (maxSteps := 4000000) only [push_cast, Nat.reduceAdd, Nat.reduceLeDiff, Nat.reduceBEq, decide_true, ne_eq, eq_self, not_true_eq_false, not_false_eq_true, true_imp_iff, false_imp_iff, Int.reduceNe, Int.reduceEq, Int.reduceLT, Int.reduceLE, Bool.not_true, Bool.not_false, ef, et]
      rw [ecut]
      refine ⟨by omega, by decide, fun hge => ⟨⟨_, _, rfl, .inr (.inl rfl), fun n hn h => ?_⟩, hb⟩, fun hlt => ⟨⟨_, _, rfl, .inl rfl, fun n hn h => ?_⟩, hb⟩⟩
      · first | exact absurd h (hno n hn) | (have := (hx n (by omega) h).1; omega)
      · first | exact absurd h (hno n hn) | (have := (hx n (by omega) h).1; exact ⟨by rw [ewv]; omega, rfl⟩)
    · simp -dsimp (maxSteps := 4000000) only [push_cast, Nat.reduceAdd, Nat.reduceLeDiff, Nat.reduceBEq, decide_true, ne_eq, eq_self, not_true_eq_false, not_false_eq_true, true_imp_iff, false_imp_iff, Int.reduceNe, Int.reduceEq, Int.reduceLT, Int.reduceLE, Bool.not_true, Bool.not_false, ef, et]
      refine neqIfaceK (te := 176) (k := .i64) (q := .i64) rfl rfl rfl Tryz.underlying29 (by kernel_rfl) (by kernel_rfl) ?_
      have e12 : (!((1 : Int) == 1)) = false := rfl
      rw [e12]
      simp -dsimp (maxSteps := 4000000) only [push_cast, Nat.reduceAdd, Nat.reduceLeDiff, Nat.reduceBEq, decide_true, ne_eq, eq_self, not_true_eq_false, not_false_eq_true, true_imp_iff, false_imp_iff, Int.reduceNe, Int.reduceEq, Int.reduceLT, Int.reduceLE, Bool.not_true, Bool.not_false, ef, et]
      refine ⟨by omega, by decide, fun hge => ⟨⟨_, _, rfl, .inr (.inl rfl), fun n hn h => ?_⟩, hb⟩, fun hlt => ⟨⟨_, _, rfl, .inl rfl, fun n hn h => ?_⟩, hb⟩⟩
      · first | exact absurd h (hno n hn) | (have := (hx n (by omega) h).2; cases this)
      · first | exact absurd h (hno n hn) | (have := (hx n (by omega) h).2; cases this)
    · simp -dsimp (maxSteps := 4000000) only [push_cast, Nat.reduceAdd, Nat.reduceLeDiff, Nat.reduceBEq, decide_true, ne_eq, eq_self, not_true_eq_false, not_false_eq_true, true_imp_iff, false_imp_iff, Int.reduceNe, Int.reduceEq, Int.reduceLT, Int.reduceLE, Bool.not_true, Bool.not_false, ef, et]
      refine neqIfaceK (te := 176) (k := .i64) (q := .i64) rfl rfl rfl Tryz.underlying29 (by kernel_rfl) (by kernel_rfl) ?_
      have e12 : (!((2 : Int) == 1)) = true := rfl
      rw [e12]
      simp -dsimp (maxSteps := 4000000) only [push_cast, Nat.reduceAdd, Nat.reduceLeDiff, Nat.reduceBEq, decide_true, ne_eq, eq_self, not_true_eq_false, not_false_eq_true, true_imp_iff, false_imp_iff, Int.reduceNe, Int.reduceEq, Int.reduceLT, Int.reduceLE, Bool.not_true, Bool.not_false, ef, et]
      refine ⟨⟨_, _, rfl, .inr (.inr rfl), fun n hn h => ?_⟩, hb⟩
      first | exact absurd h (hno n hn) | (have := (hx n (by omega) h).2; cases this)
  · skip
    refine callK_of (parseUint_c (c :: r) (by first | omega | exact hs) w) ?_
    rintro _ w1 ⟨⟨v, e, rfl, hv, he, hx⟩, hb⟩
    have ecut : IntKind.u64.wrap (1 * 2 ^ min (IntKind.u64.wrap (32 - 1)).toNat IntKind.u64.bits) = 2147483648 := by decide
    have ewv : IntKind.i64.wrap (v : Int) = (v : Int) := by rw [wrap_i64 (by omega)]
    rcases he with rfl | rfl | rfl
    · simp -dsimp (maxSteps := 4000000) only [push_cast, Nat.reduceAdd, Nat.reduceLeDiff, Nat.reduceBEq, decide_true, ne_eq, eq_self, not_true_eq_false, not_false_eq_true, true_imp_iff, false_imp_iff, Int.reduceNe, Int.reduceEq, Int.reduceLT, Int.reduceLE, Bool.not_true, Bool.not_false, ef, et]
      rw [ecut]
      refine ⟨by omega, by decide, fun hge => ⟨⟨_, _, rfl, .inr (.inl rfl), fun n hn h => ?_⟩, hb⟩, fun hlt => ⟨⟨_, _, rfl, .inl rfl, fun n hn h => ?_⟩, hb⟩⟩
      · first | exact absurd h (hno n hn) | (have := (hx n (by omega) h).1; omega)
      · first | exact absurd h (hno n hn) | (have := (hx n (by omega) h).1; exact ⟨by rw [ewv]; omega, rfl⟩)
    · simp -dsimp (maxSteps := 4000000) only [push_cast, Nat.reduceAdd, Nat.reduceLeDiff, Nat.reduceBEq, decide_true, ne_eq, eq_self, not_true_eq_false, not_false_eq_true, true_imp_iff, false_imp_iff, Int.reduceNe, Int.reduceEq, Int.reduceLT, Int.reduceLE, Bool.not_true, Bool.not_false, ef, et]
      refine neqIfaceK (te := 176) (k := .i64) (q := .i64) rfl rfl rfl Tryz.underlying29 (by kernel_rfl) (by kernel_rfl) ?_
      have e12 : (!((1 : Int) == 1)) = false := rfl
      rw [e12]
      simp -dsimp (maxSteps := 4000000) only [push_cast, Nat.reduceAdd, Nat.reduceLeDiff, Nat.reduceBEq, decide_true, ne_eq, eq_self, not_true_eq_false, not_false_eq_true, true_imp_iff, false_imp_iff, Int.reduceNe, Int.reduceEq, Int.reduceLT, Int.reduceLE, Bool.not_true, Bool.not_false, ef, et]
      refine ⟨by omega, by decide, fun hge => ⟨⟨_, _, rfl, .inr (.inl rfl), fun n hn h => ?_⟩, hb⟩, fun hlt => ⟨⟨_, _, rfl, .inl rfl, fun n hn h => ?_⟩, hb⟩⟩
      · first | exact absurd h (hno n hn) | (have := (hx n (by omega) h).2; cases this)
      · first | exact absurd h (hno n hn) | (have := (hx n (by omega) h).2; cases this)
    · simp -dsimp (maxSteps := 4000000) only [push_cast, Nat.reduceAdd, Nat.reduceLeDiff, Nat.reduceBEq, decide_true, ne_eq, eq_self, not_true_eq_false, not_false_eq_true, true_imp_iff, false_imp_iff, Int.reduceNe, Int.reduceEq, Int.reduceLT, Int.reduceLE, Bool.not_true, Bool.not_false, ef, et]
      refine neqIfaceK (te := 176) (k := .i64) (q := .i64) rfl rfl rfl Tryz.underlying29 (by kernel_rfl) (by kernel_rfl) ?_
      have e12 : (!((2 : Int) == 1)) = true := rfl
      rw [e12]
      simp -dsimp (maxSteps := 4000000) only [push_cast, Nat.reduceAdd, Nat.reduceLeDiff, Nat.reduceBEq, decide_true, ne_eq, eq_self, not_true_eq_false, not_false_eq_true, true_imp_iff, false_imp_iff, Int.reduceNe, Int.reduceEq, Int.reduceLT, Int.reduceLE, Bool.not_true, Bool.not_false, ef, et]
      refine ⟨⟨_, _, rfl, .inr (.inr rfl), fun n hn h => ?_⟩, hb⟩
      first | exact absurd h (hno n hn) | (have := (hx n (by omega) h).2; cases this)
theorem parseInt_c (s : List UInt8) (hs : s.length ≤ 1000000000) (w : World) (h : SErrs w) : Fun Tryz.prog 109 [str s, .int .i64 16, .int .i64 32] w fun r w' => (∃ (v : Int) (e : Value), r = .tuple #[.int .i64 v, e] ∧ (e = .nilIface ∨ ∃ t x, e = .iface t x) ∧ (∀ n < 2147483648, s = hexP n → v = n ∧ e = .nilIface)) ∧ Below w.heap.size w w' := by
  refine fun_of_vc Tryz.func109 rfl (by kernel_rfl) [6, 7] rfl ?_
  simp -dsimp (maxSteps := 4000000) only [push_cast, fr0, Tryz.ntmps109, List.length_cons, List.length_nil, Nat.reduceAdd, Nat.reduceSub, Nat.reduceBEq, List.replicate_succ, List.replicate_zero]
  refine callK_of (parseInt_l s hs w) ?_
  rintro _ w1 ⟨⟨v, e, rfl, he, hx⟩, hb⟩
  rcases he with rfl | rfl | rfl
  · simp -dsimp (maxSteps := 4000000) only [push_cast, Nat.reduceAdd, Nat.reduceLeDiff, Nat.reduceBEq, decide_true, ne_eq, eq_self, not_true_eq_false, not_false_eq_true, true_imp_iff, false_imp_iff, Int.reduceNe, Int.reduceEq, Int.reduceLT, Int.reduceLE, Bool.not_true, Bool.not_false, ]
    exact ⟨⟨_, _, rfl, .inl rfl, hx⟩, hb⟩
  · simp -dsimp (maxSteps := 4000000) only [push_cast, Nat.reduceAdd, Nat.reduceLeDiff, Nat.reduceBEq, decide_true, ne_eq, eq_self, not_true_eq_false, not_false_eq_true, true_imp_iff, false_imp_iff, Int.reduceNe, Int.reduceEq, Int.reduceLT, Int.reduceLE, Bool.not_true, Bool.not_false, ]
    refine callK_of (toErr_c [80, 97, 114, 115, 101, 73, 110, 116] s 16 32 1 (.inl rfl) hs w1 (h.below hb)) ?_
    rintro _ w2 ⟨⟨t, p, rfl⟩, hb2⟩
    simp -dsimp (maxSteps := 4000000) only [push_cast, Nat.reduceAdd, Nat.reduceLeDiff, Nat.reduceBEq, decide_true, ne_eq, eq_self, not_true_eq_false, not_false_eq_true, true_imp_iff, false_imp_iff, Int.reduceNe, Int.reduceEq, Int.reduceLT, Int.reduceLE, Bool.not_true, Bool.not_false, ]
    exact ⟨⟨_, _, rfl, .inr ⟨_, _, rfl⟩, fun n hn hh => by have := (hx n hn hh).2; cases this⟩, hb.trans (hb2.mono hb.size)⟩
  · simp -dsimp (maxSteps := 4000000) only [push_cast, Nat.reduceAdd, Nat.reduceLeDiff, Nat.reduceBEq, decide_true, ne_eq, eq_self, not_true_eq_false, not_false_eq_true, true_imp_iff, false_imp_iff, Int.reduceNe, Int.reduceEq, Int.reduceLT, Int.reduceLE, Bool.not_true, Bool.not_false, ]
    refine callK_of (toErr_c [80, 97, 114, 115, 101, 73, 110, 116] s 16 32 2 (.inr rfl) hs w1 (h.below hb)) ?_
    rintro _ w2 ⟨⟨t, p, rfl⟩, hb2⟩
    simp -dsimp (maxSteps := 4000000) only [push_cast, Nat.reduceAdd, Nat.reduceLeDiff, Nat.reduceBEq, decide_true, ne_eq, eq_self, not_true_eq_false, not_false_eq_true, true_imp_iff, false_imp_iff, Int.reduceNe, Int.reduceEq, Int.reduceLT, Int.reduceLE, Bool.not_true, Bool.not_false, ]
    exact ⟨⟨_, _, rfl, .inr ⟨_, _, rfl⟩, fun n hn hh => by have := (hx n hn hh).2; cases this⟩, hb.trans (hb2.mono hb.size)⟩
end Go.Proofs.YtiofleijieepgaaGreatDoor
end
