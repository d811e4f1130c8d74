/- Texts of this claim, merged: Bsm, Pv, OpenP, Arg, Pset, Vo, Vw, So0, EncN, Join, Hex, Sprint, Cut, Byt, Pint, Ppar. -/
import Derived.Test.YtiofleijieepgaaGreatDoorM1
import Derived.Test.YtiofleijieepgaaGreatDoorM3
import Derived.ChangeArms
import Derived.Shelf.Strings.OnBuilder
import Derived.Shelf.Strings.Search3
import Derived.Shelf.Small.Wraps
import Derived.Lib.IfaceEq
import Derived.Lib.IfaceNeq
section
namespace Go.Proofs.YtiofleijieepgaaGreatDoor
open Go.Vc Go.Proofs Go.RowKit Cae
set_option maxRecDepth 100000
set_option linter.unusedSimpArgs false
set_option linter.unusedVariables false
attribute [local irreducible] wpL callK valK unitK runK Fun Sl Vc.Own vc vcOps opK pureK
/-- Some cells of a block. -/
theorem blkSome {w : World} {b n : Nat} {e : TypeId} {cs xs : List Value} (h : Blk w b e cs) (o : Nat) (hx : (cs.drop o).take n = xs) (hn : xs.length = n) : cellsAt w ⟨b, o, none⟩ 0 n = some xs := by
  subst hn
  refine cellsAt_of xs 0 fun j u hu => ?_
  rw [Nat.zero_add]
  refine h.cell ?_
  rw [← hx] at hu
  have := (List.getElem?_eq_some_iff.1 hu).1
  rw [List.length_take] at this
  rw [List.getElem?_take_of_lt (by omega), List.getElem?_drop] at hu
  exact hu

end Go.Proofs.YtiofleijieepgaaGreatDoor
end
section
namespace Go.Proofs.YtiofleijieepgaaGreatDoor
open Go.Vc Go.Proofs Go.RowKit Cae
set_option maxRecDepth 100000
set_option linter.unusedSimpArgs false
set_option linter.unusedVariables false
attribute [local irreducible] wpL callK valK unitK runK Fun Sl Vc.Own vc vcOps opK pureK
set_option maxHeartbeats 4000000

/-- Lengths that the model's numbers hold. -/
def CodeLen (c : CodeP) : Prop := SetsLen c ∧ c.ins.length < 1000000000 ∧ c.sets.length < 1000000000
def ProgLen (p : ProgP) : Prop := p.rules.length < 1000000000 ∧ ∀ r ∈ p.rules, CodeLen r.before ∧ CodeLen r.after

/-- A pair, and a program, as they lie in memory. -/
def PairR (X : Nat → Prop) (w : World) : List Value → PairP → Prop := fun cs r => ∃ s1 i1 s2 i2, cs = [.bool r.brk, s1, i1, s2, i2] ∧ CodeV X w (.agg #[s1, i1]) r.before ∧ CodeV X w (.agg #[s2, i2]) r.after
def ProgV (X : Nat → Prop) (w : World) (v : Value) (p : ProgP) : Prop := ∃ rv, v = .agg #[rv, .bool p.els] ∧ Sl X 5 (PairR X w) w rv p.rules

theorem PairR.mono {X X' : Nat → Prop} {w w' : World} {cs : List Value} {r : PairP} (h : PairR X w cs r) (hs : ∀ b, ¬ X b → b < w.heap.size → w'.heap[b]? = w.heap[b]?) (hX : ∀ b, X' b → X b) : PairR X' w' cs r := by
  obtain ⟨s1, i1, s2, i2, rfl, h1, h2⟩ := h
  exact ⟨s1, i1, s2, i2, rfl, h1.mono hs hX, h2.mono hs hX⟩
theorem PairsV.mono {X X' : Nat → Prop} {w w' : World} {v : Value} {l : List PairP} (h : Sl X 5 (PairR X w) w v l) (hs : ∀ b, ¬ X b → b < w.heap.size → w'.heap[b]? = w.heap[b]?) (hX : ∀ b, X' b → X b) : Sl X' 5 (PairR X' w') w' v l :=
  Sl.mono h hs (fun _ _ _ h => h.mono hs hX) hX
theorem ProgV.mono {X X' : Nat → Prop} {w w' : World} {v : Value} {p : ProgP} (h : ProgV X w v p) (hs : ∀ b, ¬ X b → b < w.heap.size → w'.heap[b]? = w.heap[b]?) (hX : ∀ b, X' b → X b) : ProgV X' w' v p := by
  obtain ⟨rv, rfl, h⟩ := h
  exact ⟨rv, rfl, PairsV.mono h hs hX⟩
theorem PairsV.below {X : Nat → Prop} {w w' : World} {v : Value} {l : List PairP} (h : Sl X 5 (PairR X w) w v l) (hb : Below w.heap.size w w') : Sl X 5 (PairR X w') w' v l := PairsV.mono h (fun b _ hlt => hb.block b hlt) (fun _ h => h)
theorem PairR.below {X : Nat → Prop} {w w' : World} {cs : List Value} {r : PairP} (h : PairR X w cs r) (hb : Below w.heap.size w w') : PairR X w' cs r := h.mono (fun b _ hlt => hb.block b hlt) (fun _ h => h)
theorem ProgV.below {X : Nat → Prop} {w w' : World} {v : Value} {p : ProgP} (h : ProgV X w v p) (hb : Below w.heap.size w w') : ProgV X w' v p := h.mono (fun b _ hlt => hb.block b hlt) (fun _ h => h)
/-- What is read lies in blocks that are there. -/
theorem Sl.narrow {α : Type} {X X' : Nat → Prop} {k : Nat} {R R' : List Value → α → Prop} {w : World} {v : Value} {l : List α} (h : Sl X k R w v l) (hk : 0 < k) (hR : ∀ cs x, R cs x → R' cs x) (hX : ∀ b, b < w.heap.size → X' b → X b) : Sl X' k R' w v l := by
  unfold Sl at h ⊢
  obtain ⟨a, c, he, hc, h⟩ := h
  refine ⟨a, c, he, hc, fun i x hx => ?_⟩
  obtain ⟨b, o, cs, ha, hb, hcs, hcell, hr⟩ := h i x hx
  have h0 := hcell 0 cs[0] (List.getElem?_eq_getElem (by omega))
  exact ⟨b, o, cs, ha, fun hh => hb (hX b (World.block_lt_of_cell? w _ h0) hh), hcs, hcell, hR _ _ hr⟩
theorem CodeV.narrow {X X' : Nat → Prop} {w : World} {v : Value} {c : CodeP} (h : CodeV X w v c) (hX : ∀ b, b < w.heap.size → X' b → X b) : CodeV X' w v c := by
  obtain ⟨sv, iv, rfl, h1, h2⟩ := h
  refine ⟨sv, iv, rfl, Sl.narrow h1 (by omega) (fun cs x hx => ?_) hX, Sl.narrow h2 (by omega) (fun _ _ h => h) hX⟩
  obtain ⟨u, rfl, hu⟩ := hx
  exact ⟨u, rfl, Sl.narrow hu (by omega) (fun _ _ h => h) hX⟩
theorem PairR.narrow {X X' : Nat → Prop} {w : World} {cs : List Value} {r : PairP} (h : PairR X w cs r) (hX : ∀ b, b < w.heap.size → X' b → X b) : PairR X' w cs r := by
  obtain ⟨s1, i1, s2, i2, rfl, h1, h2⟩ := h
  exact ⟨s1, i1, s2, i2, rfl, h1.narrow hX, h2.narrow hX⟩
theorem ProgV.narrow {X X' : Nat → Prop} {w : World} {v : Value} {p : ProgP} (h : ProgV X w v p) (hX : ∀ b, b < w.heap.size → X' b → X b) : ProgV X' w v p := by
  obtain ⟨rv, rfl, h⟩ := h
  exact ⟨rv, rfl, Sl.narrow h (by omega) (fun _ _ h => h.narrow hX) hX⟩

theorem pairsIndex_c {α : Type} (R : List Value → α → Prop) (g : FuncId) (cap : List Value) (f : α → Bool) (l : List α) (hl : l.length < 1000000000) (X : Nat → Prop) (v : Value) (w : World) (hv : Sl X 5 R w v l)
    (hf : ∀ x ∈ l, ∀ cs, R cs x → cs.length = 5 → ∀ w', Below w.heap.size w w' → Fun Tryz.prog g (elV cs :: cap) w' fun r w'' => r = .bool (f x) ∧ Below w'.heap.size w' w'') :
    Fun Tryz.prog 54 [v, .func (.func g) #[] cap.toArray] w fun r w' => (∃ n : Int, r = .int .i64 n ∧ (0 ≤ n ↔ l.any f = true)) ∧ Below w.heap.size w w' := by
  obtain ⟨a, c, rfl, hc⟩ := hv.shape
  refine fun_of_vc Tryz.func54 rfl (by kernel_rfl) [4] rfl ?_
  push_cast -dsimp (maxSteps := 4000000) [Tryz.ntmps54]
  refine wpL_loop [4, 5, 8, 9, 10, 11, 12, 13, 14, 15, 16, 17, 18] (fun z wx => ∃ (i : Nat), z 8 = .int .i64 i ∧ i ≤ l.length ∧ (∀ x ∈ l.take i, f x = false) ∧ Below w.heap.size w wx) (fun z _ => l.length - (intOf (z 8)).toNat) ?_ ?_
  · exact ⟨0, rfl, Nat.zero_le _, by simp, Below.refl _ _⟩
  · intro z wx hI
    obtain ⟨i, h8, hi, hok, hb⟩ := hI
    push_cast -dsimp [h8]
    refine ⟨fun hlt => ?_, fun hge => ?_⟩
    · obtain ⟨x, hx, hxm, hd, ht⟩ := lt_get (l := l) (i := i) (by omega)
      obtain ⟨b, o, cs, ha, hX, hk, hcell, hR⟩ := (hv.below hb).getR hx
      subst ha
      obtain ⟨u0, u1, u2, u3, u4, rfl⟩ : ∃ u0 u1 u2 u3 u4, cs = [u0, u1, u2, u3, u4] := (match cs, hk with | [u0, u1, u2, u3, u4], _ => ⟨u0, u1, u2, u3, u4, rfl⟩); have c0 : cellsAt wx ⟨b, o + i * 5, none⟩ 0 5 = some [u0, u1, u2, u3, u4] := (cellsAt_of [u0, u1, u2, u3, u4] 0 (fun j u hu => by simpa using hcell j u hu)); push_cast -dsimp [c0]
      refine ⟨⟨by omega, by omega⟩, ?_⟩
      refine callK_of (hf x hxm _ hR rfl wx hb) ?_
      rintro _ w1 ⟨rfl, hb1⟩
      have hB1 := hb.trans (hb1.mono hb.size)
      push_cast -dsimp [condK_b]
      refine ⟨fun hyes => ?_, fun hno => ?_⟩
      · exact ⟨⟨i, rfl, ⟨fun _ => List.any_eq_true.2 ⟨x, hxm, hyes⟩, fun _ => by omega⟩⟩, hB1⟩
      · refine ⟨⟨by omega, by omega⟩, ⟨i + 1, rfl, by omega, ?_, hB1⟩, by rw [h8]; simp only [intOf]; omega⟩
        intro y hy
        rw [ht, List.mem_append, List.mem_singleton] at hy
        rcases hy with hy | rfl
        · exact hok y hy
        · exact hno
    · refine ⟨⟨-1, rfl, ?_⟩, hb⟩
      rw [List.take_of_length_le (by omega)] at hok
      constructor
      · intro h; omega
      · intro h
        obtain ⟨x, hx, hn⟩ := List.any_eq_true.1 h
        rw [hok x hx] at hn; cases hn

theorem pairsContains_c {α : Type} (R : List Value → α → Prop) (g : FuncId) (cap : List Value) (f : α → Bool) (l : List α) (hl : l.length < 1000000000) (X : Nat → Prop) (v : Value) (w : World) (hv : Sl X 5 R w v l)
    (hf : ∀ x ∈ l, ∀ cs, R cs x → cs.length = 5 → ∀ w', Below w.heap.size w w' → Fun Tryz.prog g (elV cs :: cap) w' fun r w'' => r = .bool (f x) ∧ Below w'.heap.size w' w'') :
    Fun Tryz.prog 21 [v, .func (.func g) #[] cap.toArray] w fun r w' => r = .bool (l.any f) ∧ Below w.heap.size w w' := by
  refine fun_of_vc Tryz.func21 rfl (by kernel_rfl) [4] rfl ?_
  push_cast -dsimp (maxSteps := 4000000) [Tryz.ntmps21]
  refine callK_of (pairsIndex_c R g cap f l hl X v w hv hf) ?_
  rintro r w1 ⟨⟨n, rfl, hn⟩, hb⟩
  push_cast -dsimp
  refine ⟨?_, hb⟩
  congr 1
  cases h : l.any f with
  | true => rw [h] at hn; exact decide_eq_true (hn.2 rfl)
  | false => rw [h] at hn; exact decide_eq_false (fun h0 => by have := hn.1 h0; cases this)

theorem rightPair_c (r : PairP) (hl : CodeLen r.before ∧ CodeLen r.after) (X : Nat → Prop) (w : World) (cs : List Value) (hv : PairR X w cs r) :
    Fun Tryz.prog 35 [elV cs] w fun u w' => u = .bool (!(codeRight r.before && codeRight r.after)) ∧ Below w.heap.size w w' := by
  obtain ⟨s1, i1, s2, i2, rfl, h1, h2⟩ := hv
  show Fun _ _ [.agg #[.bool r.brk, s1, i1, s2, i2]] _ _
  refine fun_of_vc Tryz.func35 rfl (by kernel_rfl) [2] rfl ?_
  push_cast -dsimp (maxSteps := 4000000) [Tryz.ntmps35]
  refine boxK_of ?_
  intro w1 hw1
  have hcs : cellsL (.agg #[.bool r.brk, s1, i1, s2, i2]) = [.bool r.brk, s1, i1, s2, i2] := rfl
  rw [hcs] at hw1
  have d1 : cellsAt w1 ⟨w.heap.size, 1, none⟩ 0 2 = some [s1, i1] := blkSome (n := 2) (xs := [s1, i1]) hw1.blk 1 rfl rfl
  push_cast -dsimp [d1]
  refine callK_of (Right_c r.before hl.1.1 hl.1.2.1 hl.1.2.2 X _ w1 (h1.below hw1.below)) ?_
  rintro _ w2 ⟨rfl, hb2⟩
  have sz1 := hw1.size
  have hB2 := hw1.below.trans (hb2.mono (by omega))
  have d2 : cellsAt w2 ⟨w.heap.size, 3, none⟩ 0 2 = some [s2, i2] := blkSome (n := 2) (xs := [s2, i2]) (hw1.blk.below hb2 (by omega)) 3 rfl rfl
  cases hr : codeRight r.before with
  | false =>
    push_cast -dsimp
    exact ⟨by simp, hB2⟩
  | true =>
    push_cast -dsimp [d2]
    refine callK_of (Right_c r.after hl.2.1 hl.2.2.1 hl.2.2.2 X _ w2 (h2.below hB2)) ?_
    rintro _ w3 ⟨rfl, hb3⟩
    push_cast -dsimp
    exact hB2.trans (hb3.mono hB2.size)

theorem rightProgram_c (p : ProgP) (hl : ProgLen p) (X : Nat → Prop) (v : Value) (w : World) (hv : ProgV X w v p) :
    Fun Tryz.prog 10 [v] w fun u w' => u = .bool (progRight p) ∧ Below w.heap.size w w' := by
  obtain ⟨rv, rfl, hr⟩ := hv
  obtain ⟨a, c, rfl, hc⟩ := hr.shape
  refine fun_of_vc Tryz.func10 rfl (by kernel_rfl) [2] rfl ?_
  push_cast -dsimp (maxSteps := 4000000) [Tryz.ntmps10]
  refine boxK_of ?_
  intro w1 hw1
  have d0 : w1.cell? ⟨w.heap.size, 0, none⟩ = some (.slice a p.rules.length c) := hw1.cell rfl
  push_cast -dsimp [d0]
  refine ⟨fun h1 => ?_, fun h1 => ⟨by congr 1; unfold progRight; rw [decide_eq_false (by omega)]; rfl, hw1.below⟩⟩
  refine callK_of (pairsContains_c (PairR X w1) 35 [] (fun r => !(codeRight r.before && codeRight r.after)) p.rules (by omega) X _ w1 (PairsV.below hr hw1.below) ?_) ?_
  · intro r hrm cs hR _ w' hb'
    exact rightPair_c r (hl.2 r hrm) X w' cs (hR.below hb')
  rintro _ w2 ⟨rfl, hb2⟩
  push_cast -dsimp
  refine ⟨?_, hw1.below.trans (hb2.mono hw1.below.size)⟩
  rw [any_not]
  congr 1
  unfold progRight
  rw [decide_eq_true (by omega), Bool.true_and]

end Go.Proofs.YtiofleijieepgaaGreatDoor
end
section
namespace Go.Proofs.YtiofleijieepgaaGreatDoor
open Go.Vc Go.Proofs Go.RowKit Cae
set_option maxRecDepth 100000
set_option linter.unusedSimpArgs false
set_option linter.unusedVariables false
attribute [local irreducible] wpL callK valK unitK runK Fun Sl Vc.Own vc vcOps opK pureK
open Go.Deep Go.ChangeShapes Go.WideShapes Go.ChangeAt

section
variable {H : Type} {enc : TypeId × Value → H} {W : World} {base : Nat} {sp : Nat → Bool} {held : Bool}
theorem c_bool : Tryz.prog.cellsOf 4 = 1 := by kernel_rfl
theorem c_code : Tryz.prog.cellsOf 43 = 2 := by kernel_rfl
theorem openBool {n : Nat} {cs : List Value} {y : DataW H × List MemPlace} (h : DataW.trod enc Tryz.prog W base sp held n 4 cs = some y) : ∃ z : Bool, cs = [.bool z] := by
  obtain ⟨z, hz, _⟩ := DataW.trod_bool Tryz.underlying4 h
  exact ⟨z, hz⟩
theorem open_pair {n : Nat} {cs : List Value} {y : DataW H × List MemPlace} (h : DataW.trod enc Tryz.prog W base sp held n 45 cs = some y) : ∃ r, PairR (fun _ => False) W cs r := by
  obtain ⟨y0, y1, y2, m, _, hl, h0, h1, h2⟩ := trod_struct3 Tryz.underlying45 h
  rw [show Tryz.prog.cellsOf 45 = 5 by kernel_rfl] at hl
  match cs, hl with
  | [a, b, c, d, e], _ =>
    have h0' : DataW.trod enc Tryz.prog W base sp held m 4 (List.take (Tryz.prog.cellsOf 4) [a, b, c, d, e]) = some y0 := h0
    have h1' : DataW.trod enc Tryz.prog W base sp held m 43 (List.take (Tryz.prog.cellsOf 43) [b, c, d, e]) = some y1 := h1
    have h2' : DataW.trod enc Tryz.prog W base sp held m 43 (List.take (Tryz.prog.cellsOf 43) [d, e]) = some y2 := h2
    rw [c_bool] at h0'
    rw [c_code] at h1' h2'
    obtain ⟨z0, e0⟩ := openBool h0'
    obtain ⟨sv1, iv1, c1, e1, hs1, hi1⟩ := open_code h1'
    obtain ⟨sv2, iv2, c2, e2, hs2, hi2⟩ := open_code h2'
    simp at e0 e1 e2
    obtain ⟨rfl, rfl⟩ := e1
    obtain ⟨rfl, rfl⟩ := e2
    subst e0
    exact ⟨⟨z0, c1, c2⟩, b, c, d, e, rfl, ⟨b, c, rfl, hs1, hi1⟩, ⟨d, e, rfl, hs2, hi2⟩⟩
theorem open_prog {n : Nat} {v : Value} {y : DataW H × List MemPlace} (h : DataW.trod enc Tryz.prog W base sp held n 24 v.cells.toList = some y) : ∃ p, ProgV (fun _ => False) W v p := by
  obtain ⟨y0, y1, m, _, hl, h0, h1⟩ := trod_struct2 Tryz.underlying24 h
  rw [show Tryz.prog.cellsOf 24 = 2 by kernel_rfl] at hl
  obtain ⟨cs, hv, hcs⟩ := cells_agg (v := v) (n := 2) (by omega) hl
  rw [hcs] at hl h0 h1
  match cs, hl, hv with
  | [a, b], _, hv =>
    have h0' : DataW.trod enc Tryz.prog W base sp held m 22 (List.take (Tryz.prog.cellsOf 22) [a, b]) = some y0 := h0
    have h1' : DataW.trod enc Tryz.prog W base sp held m 4 (List.take (Tryz.prog.cellsOf 4) [b]) = some y1 := h1
    rw [show Tryz.prog.cellsOf 22 = 1 by kernel_rfl] at h0'
    rw [c_bool] at h1'
    obtain ⟨rv, rules, e0, hr⟩ := open_slice (k := 5) (R := PairR (fun _ => False) W) Tryz.underlying22 (by kernel_rfl) (by omega) h0' fun n cs y _ hh => open_pair hh
    obtain ⟨z1, e1⟩ := openBool h1'
    simp at e0 e1
    subst e0 e1
    exact ⟨⟨rules, z1⟩, a, hv, hr⟩
end
end Go.Proofs.YtiofleijieepgaaGreatDoor
end
section
namespace Go.Proofs.YtiofleijieepgaaGreatDoor
open Go.Vc Go.Proofs Go.RowKit Cae
theorem encR_one : ∀ x, ∀ u ∈ encR x, u.oneCell' = true := by simp [encR, Value.oneCell']
end Go.Proofs.YtiofleijieepgaaGreatDoor
end
section
set_option linter.unusedSimpArgs false
set_option linter.unusedVariables false
namespace Cae

/-! Sets, by the points that are in them. -/
def inB (l : List Rg) (p : Int) : Bool := decide (0 ≤ p ∧ p ≤ 1114111) && hasP l p
theorem setRight_con {r : Rg} {s : List Rg} {a : Int} : setRight a (r :: s) = true ↔ (a + 1 < r.1 ∧ r.1 ≤ r.2 ∧ r.2 ≤ 1114111) ∧ setRight r.2 s = true := by
  rw [setRight]
  split
  · constructor
    · intro h; cases h
    · rintro ⟨h, _⟩; omega
  · constructor
    · intro h; exact ⟨by omega, h⟩
    · exact fun h => h.2
def lastHi (a : Int) : List Rg → Int
  | [] => a
  | r :: s => lastHi r.2 s
structure OfInv (out done : List Rg) : Prop where
  right : setRight (-2) out = true
  has : ∀ p, hasP out p = inB done p
end Cae
end
section
set_option linter.unusedSimpArgs false
set_option linter.unusedVariables false
namespace Go.Vc
open Go.RowKit

/-- What is owned at two types lies in two blocks. -/
theorem ownNe {α β : Type} {w : World} {base base' k k' : Nat} {e e' : TypeId} {enc : α → List Value} {enc' : β → List Value} {v v' : Value} {l : List α} {l' : List β} (h : Vc.Own base e k enc w v l) (h' : Vc.Own base' e' k' enc' w v' l') (hne : e ≠ e') : ∀ g, v.ownBlock = some g → v'.ownBlock ≠ some g := fun g hg hg' => by
  rcases h.1.2 with ⟨he, _⟩ | ⟨g1, cap, cur, he, _, h1, _⟩
  · rw [he] at hg; cases hg
  · rcases h'.1.2 with ⟨he', _⟩ | ⟨g2, cap', cur', he', _, h2, _⟩
    · rw [he'] at hg'; cases hg'
    · rw [he] at hg
      rw [he'] at hg'
      have e1 : g1 = g := by simpa [Value.ownBlock] using hg
      have e2 : g2 = g := by simpa [Value.ownBlock] using hg'
      subst e1 e2
      rw [h1] at h2
      cases h2
      exact hne rfl
section
set_option linter.unusedSectionVars false
variable {P : Program} {α : Type} [DecidableEq α]

/-- A kind of keys. -/
structure KeyOk (P : Program) (kt : TypeId) (key : α → Value) : Prop where
  und : ∃ d, P.underlying kt = some d ∧ ∀ a b, Instr.sameNow d (key a) (key b) = some (decide (a = b))
  bits : ∀ n a, Instr.sameBits n (key a) (key a) = true
  check : ∀ em n a w, (Instr.checkKey em (n + 1) kt (key a)).run P w = .ok () w

/-- Entries' stamps: below the clock, none twice. -/
def Stm (l : List MapEntry) (clock : Nat) : Prop := (∀ n ∈ l.map (·.born), n < clock) ∧ (l.map (·.born)).Nodup
theorem Stm.modify {l : List MapEntry} {clock : Nat} (h : Stm l clock) (j : Nat) (k v : Value) : Stm (l.modify j fun e => { e with key := k, val := v }) clock := by
  have e : ∀ (l : List MapEntry) (j : Nat), (l.modify j fun e => { e with key := k, val := v }).map (·.born) = l.map (·.born) := by
    intro l
    induction l with
    | nil => intro j; cases j <;> rfl
    | cons a l ih => intro j; cases j with
      | zero => rfl
      | succ j => simp only [List.modify_succ_cons, List.map_cons, ih j]
  unfold Stm
  rw [e]
  exact h
variable {key : α → Value}
end
end Go.Vc
namespace Go.Vc
section
variable {P : Program}
end
end Go.Vc
end
section
set_option linter.unusedSimpArgs false
set_option linter.unusedVariables false
namespace Go.Vc
open Go.RowKit

section
variable {P : Program} {ops : Array Oper} {C D : World → Prop}
end

section
variable {P : Program}
def vcPostW (P : Program) (ops : List Oper) (D : World → Prop) (R : Fr → World → Prop) : (l : List Nat) → Fr → World → Ph (ops, D, R, l) → Prop
  | [], t, w, _ => R t w
  | k :: r, t, w, _ => stepK P ops D ops[k]? (fun t w => vcPostW P ops D R r t w .mk) t w .mk
def vcPreW (P : Program) (ops : List Oper) (C D : World → Prop) (R : Fr → World → Prop) (m : Nat) (post : List Nat) : (l : List (Nat × Bool)) → Fr → World → Ph (ops, C, D, R, m, post, l) → Prop
  | [], t, w, _ => stepK P ops D ops[m]? (fun t w => vcPostW P ops D R post t w .mk) t w .mk
  | (k, true) :: r, t, w, _ => stepK P ops D ops[k]? (fun t w => vcPreW P ops C D R m post r t w .mk) t w .mk
  | (k, false) :: r, t, w, _ => stepK P ops C ops[k]? (fun t w => vcPreW P ops C D R m post r t w .mk) t w .mk

variable {t : Fr} {w : World} {C D : World → Prop} {R : Fr → World → Prop}
theorem vcPostW_nil (ops) (p) : vcPostW P ops D R [] t w p = R t w := (rfl)
theorem vcPostW_cons (ops k r) (p) : vcPostW P ops D R (k :: r) t w p = stepK P ops D ops[k]? (fun t w => vcPostW P ops D R r t w .mk) t w .mk := (rfl)
theorem vcPreW_nil (ops m post) (p) : vcPreW P ops C D R m post [] t w p = stepK P ops D ops[m]? (fun t w => vcPostW P ops D R post t w .mk) t w .mk := (rfl)
theorem vcPreW_true (ops m post k r) (p) : vcPreW P ops C D R m post ((k, true) :: r) t w p = stepK P ops D ops[k]? (fun t w => vcPreW P ops C D R m post r t w .mk) t w .mk := (rfl)
theorem vcPreW_false (ops m post k r) (p) : vcPreW P ops C D R m post ((k, false) :: r) t w p = stepK P ops C ops[k]? (fun t w => vcPreW P ops C D R m post r t w .mk) t w .mk := (rfl)
end
attribute [push_cast] vcPostW_nil vcPostW_cons vcPreW_nil vcPreW_true vcPreW_false
attribute [irreducible] vcPostW vcPreW
end Go.Vc
end
section
namespace Go.Vc
open Go.RowKit
section
variable {P : Program} {t : Fr} {w : World} {C : World → Prop} {K : VK}
theorem mixK_max (d) (args : List Operand) (aty ty pos af g) (p) : mixK P ⟨d, .call { callee := .builtin .max, args := args.toArray, argTypes := aty }, ty, pos, af, g⟩ t w C K p =
    mmK true (args.map (ev t)) (K · w) False .mk := rfl
theorem mixK_min (d) (args : List Operand) (aty ty pos af g) (p) : mixK P ⟨d, .call { callee := .builtin .min, args := args.toArray, argTypes := aty }, ty, pos, af, g⟩ t w C K p =
    mmK false (args.map (ev t)) (K · w) False .mk := rfl
end
attribute [push_cast] mixK_max mixK_min
/-- A contract of the library's shelf. -/
theorem fun_of_calls {P : Program} {f : FuncId} {fn : Func} {args : List Value} {w : World} {R : VK} (hf : P.funcs[f]? = some fn) (hb : fn.body.isNone = false) (hn : (fn.name == "runtime.NumGoroutine") = false)
    (h : Calls P f args.toArray w fun e w' => ∃ v, e = .returned v ∧ R v w') : Fun P f args w R := ⟨callFunc_enter hf hb hn, h⟩
end Go.Vc
namespace Go.Proofs.YtiofleijieepgaaGreatDoor
open Go.Vc Go.Proofs Go.RowKit Cae
set_option maxRecDepth 100000
set_option linter.unusedSimpArgs false
set_option linter.unusedVariables false
attribute [local irreducible] wpL callK valK unitK runK Fun Sl Vc.Own vc vcOps opK pureK
set_option maxHeartbeats 4000000

end Go.Proofs.YtiofleijieepgaaGreatDoor
namespace Go.RowKit
theorem Below.tr {a b c : World} (h : Below a.heap.size a b) (k : Below b.heap.size b c) : Below a.heap.size a c := h.trans (k.mono h.size)
end Go.RowKit
end
section
namespace Go.Proofs.YtiofleijieepgaaGreatDoor
open Go.Vc Go.Proofs Go.RowKit
end Go.Proofs.YtiofleijieepgaaGreatDoor
namespace Go.Vc
def encS (b : List UInt8) : List Value := [str b]
end Go.Vc
end
section
namespace Go.Vc
open Go.RowKit
/-- A string, in a cell. -/
theorem Sl.strs {X : Nat → Prop} {w : World} {v : Value} {x : List UInt8} {l : List (List UInt8)} (h : Sl X 1 (En Vc.encS) w v (x :: l)) : ∃ b o c, v = .slice (some ⟨b, o, none⟩) (x :: l).length c ∧ (x :: l).length ≤ c ∧ b < w.heap.size ∧ ∀ (j : Nat) y, ((x :: l).map fun t : List UInt8 => (⟨t.toArray⟩ : ByteArray))[j]? = some y → w.cell? ⟨b, o + j, none⟩ = some (.string y) := by
  obtain ⟨a, c, rfl, hc, hel⟩ := h
  have h0 := hel 0 x rfl
  obtain ⟨b, o, cs, rfl, hb, hcs, hcell, hr⟩ := h0
  have hall : ∀ (j : Nat) y, ((x :: l).map fun t : List UInt8 => (⟨t.toArray⟩ : ByteArray))[j]? = some y → w.cell? ⟨b, o + j, none⟩ = some (.string y) := by
    intro j y hy
    rw [List.getElem?_map] at hy
    cases hx : (x :: l)[j]? with
    | none => rw [hx] at hy; cases hy
    | some t =>
      rw [hx] at hy
      cases hy
      have h1 := hel j t hx
      obtain ⟨b1, o1, cs1, he, hb1, hcs1, hcell1, hr1⟩ := h1
      cases he
      have := hcell1 0 (str t) (by rw [hr1]; rfl)
      rwa [Nat.mul_one, Nat.add_zero] at this
  exact ⟨b, o, c, rfl, hc, World.block_lt_of_cell? w _ (hall 0 _ rfl), hall⟩
end Go.Vc
namespace Go.Proofs.YtiofleijieepgaaGreatDoor
open Go.Vc Go.Proofs Go.RowKit Cae
set_option maxRecDepth 100000
set_option linter.unusedSimpArgs false
set_option linter.unusedVariables false
attribute [local irreducible] wpL callK valK unitK runK Fun Sl Vc.Own vc vcOps opK pureK
set_option maxHeartbeats 4000000

def joinR_ren : Go.Shelf.Ren := ⟨fun | 156 => 97 | 165 => 121 | 166 => 31 | 169 => 34 | 240 => 62 | 241 => 149 | 276 => 95 | 277 => 167 | n => n, fun | 31 => 61 | 9 => 9 | 3 => 3 | 4 => 4 | 0 => 0 | 20 => 20 | 72 => 77 | 76 => 78 | 70 => 74 | 37 => 75 | 75 => 29 | 127 => 108 | 164 => 141 | 5 => 5 | 80 => 82 | n => n, fun | n => n⟩
theorem joinR : Go.Proofs.Lays.n156 Tryz.prog joinR_ren := {
  mixed := by kernel_rfl
  f156 := Tryz.func97.trans (congrArg some (by kernel_rfl))
  f165 := Tryz.func121.trans (congrArg some (by kernel_rfl))
  f166 := Tryz.func31.trans (congrArg some (by kernel_rfl))
  f169 := Tryz.func34.trans (congrArg some (by kernel_rfl))
  f240 := Tryz.func62.trans (congrArg some (by kernel_rfl))
  f241 := Tryz.func149.trans (congrArg some (by kernel_rfl))
  f276 := Tryz.func95.trans (congrArg some (by kernel_rfl))
  f277 := Tryz.func167.trans (congrArg some (by kernel_rfl))
  t0 := Tryz.underlying0
  a0 := Tryz.isAgg0
  z0 := Tryz.sizeOf0
  v0 := Tryz.zeroValue0
  t3 := Tryz.underlying3
  a3 := Tryz.isAgg3
  z3 := Tryz.sizeOf3
  v3 := Tryz.zeroValue3
  t4 := Tryz.underlying4
  a4 := Tryz.isAgg4
  z4 := Tryz.sizeOf4
  v4 := Tryz.zeroValue4
  t9 := Tryz.underlying9
  a9 := Tryz.isAgg9
  z9 := Tryz.sizeOf9
  v9 := Tryz.zeroValue9
  t20 := Tryz.underlying20
  a20 := Tryz.isAgg20
  z20 := Tryz.sizeOf20
  v20 := Tryz.zeroValue20
  t31 := Tryz.underlying61
  a31 := Tryz.isAgg61
  z31 := Tryz.sizeOf61
  v31 := Tryz.zeroValue61
  t37 := Tryz.underlying75
  a37 := Tryz.isAgg75
  z37 := Tryz.sizeOf75
  v37 := Tryz.zeroValue75
  t70 := Tryz.underlying74
  a70 := Tryz.isAgg74
  z70 := Tryz.sizeOf74
  v70 := Tryz.zeroValue74
  t72 := Tryz.underlying77
  a72 := Tryz.isAgg77
  z72 := Tryz.sizeOf77
  v72 := Tryz.zeroValue77
  t75 := Tryz.underlying29
  a75 := Tryz.isAgg29
  z75 := Tryz.sizeOf29
  v75 := Tryz.zeroValue29
  t76 := Tryz.underlying78
  a76 := Tryz.isAgg78
  z76 := Tryz.sizeOf78
  v76 := Tryz.zeroValue78
  t127 := Tryz.underlying108
  a127 := Tryz.isAgg108
  z127 := Tryz.sizeOf108
  v127 := Tryz.zeroValue108
  t164 := Tryz.underlying141
  a164 := Tryz.isAgg141
  z164 := Tryz.sizeOf141
  v164 := Tryz.zeroValue141 }

theorem joinX : Builder.Extra Tryz.prog joinR_ren where
  sizeBuilder := by kernel_rfl
  liesBuilder := by kernel_rfl
  t5 := by kernel_rfl
  a5 := fun w => (tyK_one (P := Tryz.prog) (by kernel_rfl) w).1
  z5 := fun w => (tyK_one (P := Tryz.prog) (by kernel_rfl) w).2
  v5 := by intro w; rfl
  infoByte := by kernel_rfl
  cellsByte := by kernel_rfl
  sizeByte := by kernel_rfl
  neB5 := by decide
theorem join_c (l : List (List UInt8)) (sep : List UInt8) (hN : l.length < 1000000000) (hlen : (Lib.join l sep).length ≤ 140737488355328) (X : Nat → Prop) (v : Value) (w : World) (hv : Sl X 1 (En Vc.encS) w v l) :
    Fun Tryz.prog 97 [v, str sep] w fun r w' => r = str (Lib.join l sep) ∧ Below w.heap.size w w' := by
  refine fun_of_calls Tryz.func97 (by kernel_rfl) (by kernel_rfl) ?_
  cases l with
  | nil =>
    have hsh := hv.shape
    obtain ⟨a, c, rfl, hc⟩ := hsh
    refine Calls.mono (Any.strings_Join_none joinR joinX a c ⟨sep.toArray⟩ w) ?_
    rintro e w' ⟨rfl, rfl⟩
    exact ⟨_, rfl, rfl, Below.refl _ _⟩
  | cons x l =>
    have hsl := hv.strs
    obtain ⟨b, o, c, rfl, hc, hb, hcell⟩ := hsl
    have e1 : (((x :: l).map fun t : List UInt8 => (⟨t.toArray⟩ : ByteArray)).map (·.data.toList)) = x :: l := by
      rw [List.map_map]
      exact List.map_id' _
    have hj := Any.strings_Join joinR joinX b o c ((x :: l).map fun t : List UInt8 => (⟨t.toArray⟩ : ByteArray)) ⟨sep.toArray⟩ w hcell hb (by rw [List.length_map]; omega) (by rw [List.length_map]; exact hc) (by rw [e1]; exact hlen)
    rw [e1, List.length_map] at hj
    refine Calls.mono hj ?_
    rintro e w' ⟨rfl, hbl⟩
    exact ⟨_, rfl, rfl, hbl⟩
end Go.Proofs.YtiofleijieepgaaGreatDoor
end
section
namespace Cae
/-- The sign of a digit. -/
def dig (n : Nat) : UInt8 := if n < 10 then UInt8.ofNat (48 + n) else UInt8.ofNat (87 + n)
def hexF : Nat → Nat → List UInt8 → List UInt8
  | 0, n, acc => dig n :: acc
  | f + 1, n, acc => if n < 16 then dig n :: acc else hexF f (n / 16) (dig (n % 16) :: acc)
/-- A number, in hexadecimal digits. -/
def hexP (n : Nat) : List UInt8 := hexF 8 n []
theorem hexF_len : ∀ (f n : Nat) (acc : List UInt8), (hexF f n acc).length ≤ f + 1 + acc.length
  | 0, n, acc => by rw [hexF]; simp; omega
  | f + 1, n, acc => by
    rw [hexF]
    split
    · simp; omega
    · have := hexF_len f (n / 16) (dig (n % 16) :: acc)
      rw [List.length_cons] at this
      omega
theorem hexP_len (n : Nat) : (hexP n).length ≤ 9 := hexF_len 8 n []
end Cae
namespace Go.Vc
open Go.RowKit
/-- A slice over the end of a block that is told. -/
theorem slBlkAt {α : Type} {f : α → Value} {w : World} {b c j n : Nat} {e : TypeId} {l : List α} {cs : List Value} (hB : Blk w b e cs) (hd : cs.drop j = l.map f) (hn : n = l.length) (hc : l.length ≤ c) : Sl (fun _ => False) 1 (En (fun x => [f x])) w (.slice (some ⟨b, j, none⟩) n c) l := by
  subst hn
  refine ⟨_, _, rfl, hc, fun i x hx => ⟨b, j, [f x], rfl, id, rfl, fun k u hu => ?_, rfl⟩⟩
  cases k with
  | zero =>
    simp at hu; subst hu
    rw [Nat.mul_one, Nat.add_zero]
    refine hB.cell ?_
    have h1 : (cs.drop j)[i]? = some (f x) := by rw [hd, List.getElem?_map, hx]; rfl
    rwa [List.getElem?_drop] at h1
  | succ k => simp at hu
end Go.Vc
namespace Go.Proofs.YtiofleijieepgaaGreatDoor
open Go.Vc Go.Proofs Go.RowKit Cae
set_option maxRecDepth 100000
set_option linter.unusedSimpArgs false
set_option linter.unusedVariables false
attribute [local irreducible] wpL callK valK unitK runK Fun Sl Vc.Own vc vcOps opK pureK
set_option maxHeartbeats 4000000

/-- The one place of the table of trailing zeros that is asked. -/
def Db (w : World) : Prop := w.cell? ⟨12, 15, none⟩ = some (.int .u8 4)
theorem Db.below {w w' : World} {B : Nat} (h : Db w) (hb : Below B w w') (hB : 12 < B) : Db w' := (hb.cell hB).trans h
theorem Db.lt {w : World} (h : Db w) : 12 < w.heap.size := World.block_lt_of_cell? w _ h

theorem bits_and_u64 {x y : Nat} (hx : x < 18446744073709551616) (hy : y < 18446744073709551616) : bitop .and .u64 x y = ((x &&& y : Nat) : Int) := by
  simp only [bitop, ofInt_nat, BitVec.toNat_and, BitVec.toNat_ofNat]
  rw [Nat.mod_eq_of_lt (show x < 2 ^ IntKind.u64.bits by show x < 2 ^ 64; omega), Nat.mod_eq_of_lt (show y < 2 ^ IntKind.u64.bits by show y < 2 ^ 64; omega), wrap_u64_nat, Nat.mod_eq_of_lt (and_lt (n := 64) hx)]
theorem digTab : ∀ d : Nat, d < 16 → ([48, 49, 50, 51, 52, 53, 54, 55, 56, 57, 97, 98, 99, 100, 101, 102, 103, 104, 105, 106, 107, 108, 109, 110, 111, 112, 113, 114, 115, 116, 117, 118, 119, 120, 121, 122] : List UInt8).getD d 0 = dig d := by decide
theorem pow2_c (w : World) : Fun Tryz.prog 171 [.int .i64 16] w fun r w' => r = .bool true ∧ w' = w := by
  refine fun_of_vc Tryz.func171 rfl (by kernel_rfl) [2] rfl ?_
  push_cast -dsimp (maxSteps := 4000000) [Tryz.ntmps171]
  have e1 : bitop .and .i64 16 15 = 0 := by decide +kernel
  rw [e1]
  rfl
theorem tz64_c (w : World) (h : Db w) : Fun Tryz.prog 180 [.int .u64 16] w fun r w' => r = .int .i64 4 ∧ w' = w := by
  refine fun_of_vc Tryz.func180 rfl (by kernel_rfl) [2] rfl ?_
  push_cast -dsimp (maxSteps := 4000000) [Tryz.ntmps180]
  push_cast -dsimp
  have e1 : (IntKind.u64.wrap (bitop .and .u64 16 (IntKind.u64.wrap (-16)) * 285870213051353865)).fdiv (2 ^ min 58 IntKind.u64.bits) = 15 := by decide +kernel
  rw [e1]
  have h' : w.cell? ⟨12, 15, none⟩ = some (.int .u8 4) := h
  push_cast -dsimp [h']
  rfl
theorem tz_c (w : World) (h : Db w) : Fun Tryz.prog 172 [.int .u64 16] w fun r w' => r = .int .i64 4 ∧ w' = w := by
  refine fun_of_vc Tryz.func172 rfl (by kernel_rfl) [2] rfl ?_
  push_cast -dsimp (maxSteps := 4000000) [Tryz.ntmps172]
  refine callK_of (tz64_c w h) ?_
  rintro _ w1 ⟨rfl, rfl⟩
  push_cast -dsimp
theorem sliceArrK {P : Program} {xt : TypeId} {n s : Nat} {e : TypeId} {E : Option (TypeId × Nat)} {a : Addr} {j : Nat} {L : VP} {o : Oper} {t : Fr} {w : World} {K : VK} {Q : EP} {p} (hu : P.underlying xt = some (.array n e)) (hn : P.arrayLen xt = n) (he : P.elem xt = e)
    (hs : (sizeOf e).run P w = .ok s w) (ho : execOp (ev t) o = (do pure (.value (← Instr.sliceAt xt (.pointer (some a)) (some (.int .i64 (j : Int))) none none)))) (hj : j < n)
    (k : K (.slice (some (a.add (j * s))) (n - j) (n - j)) w) : sliceK (P.underlying xt) E (.pointer (some a)) (some (.int .i64 (j : Int))) none none L (runK P o t w K Q .mk) p := by
  rw [hu]
  show runK P o t w K Q .mk
  refine runK_val ho (valK_of ?_ k)
  rw [run_sliceAt_array_l w xt a (by rw [hu, hn, he]) .i64 (j : Int) (by omega) (by rw [hn]; omega), he, hs]
  rw [hn]
  unfold slicedAt
  rw [Int.toNat_natCast]
  show Result.ok (Value.slice (some (if n = j then a else a.add (j * s))) (n - j) (n - j)) w = _
  rw [if_neg (by omega)]
theorem formatBits_c (n : Nat) (hn : n < 4294967296) (w : World) (h : Db w) :
    Fun Tryz.prog 153 [.slice none 0 0, .int .u64 (n : Int), .int .i64 16, .bool false, .bool false] w fun r w' => r = .tuple #[.slice none 0 0, str (hexP n)] ∧ Below w.heap.size w w' := by
  refine fun_of_vc Tryz.func153 rfl (by kernel_rfl) [10, 11] rfl ?_
  push_cast -dsimp (maxSteps := 4000000) [Tryz.ntmps153]
  push_cast -dsimp
  refine allocK (z := List.replicate 65 (.int .u8 0)) (by kernel_rfl) ?_
  intro w1 hw1
  have sz1 := hw1.size
  have hb1 := hw1.below
  push_cast -dsimp
  refine callK_of (pow2_c w1) ?_
  rintro _ w2 ⟨rfl, rfl⟩
  push_cast -dsimp
  have e4 : IntKind.u64.wrap 4 = 4 := by decide
  have e16 : IntKind.u64.wrap 16 = 16 := by decide
  have e15 : IntKind.u64.wrap (16 - 1) = 15 := by decide
  refine callK_of (tz_c w2 (h.below hb1 h.lt)) ?_
  rintro _ w3 ⟨rfl, rfl⟩
  push_cast -dsimp [e4, e16, e15]
  refine wpL_loop [1, 13, 44, 45, 46, 47, 48, 49, 50, 51, 52, 53, 54, 55, 56, 57] (fun z wx => ∃ (f m i : Nat) (acc : List UInt8) (cs : List Value), z 1 = .int .u64 (m : Int) ∧ z 13 = .int .i64 (i : Int) ∧ i = 57 + f ∧ f ≤ 8 ∧ m < 16 ^ (f + 1) ∧ hexF f m acc = hexP n ∧ cs.length = 65 ∧ cs.drop i = acc.map (fun b => .int .u8 (b.toNat : Int)) ∧ Blk wx w.heap.size 230 cs ∧ Below w.heap.size w wx) (fun z _ => (intOf (z 13)).toNat) ?_ ?_
  · refine ⟨8, n, 65, [], _, rfl, rfl, rfl, Nat.le_refl _, by omega, rfl, List.length_replicate .., ?_, hw1.blk, hb1⟩
    rfl
  · intro z wx hI
    obtain ⟨f, m, i, acc, cs, h1, h13, hif, hf, hm, hh, hcl, hcd, hB, hbx⟩ := hI
    have szx := hbx.size
    have hm64 : m < 18446744073709551616 := Nat.lt_of_lt_of_le hm (Nat.le_trans (Nat.pow_le_pow_right (by omega) (show f + 1 ≤ 9 by omega)) (by decide))
    have hgd : ∃ d, m % 16 = d := ⟨_, rfl⟩
    obtain ⟨d, hd⟩ := hgd
    have hd16 : d < 16 := by omega
    have ea : bitop .and .u64 (m : Int) (IntKind.u64.wrap 15) = (d : Int) := by
      rw [show IntKind.u64.wrap 15 = ((2 ^ 4 - 1 : Nat) : Int) from rfl, bits_and_u64 hm64 (by omega), and_mask, ← hd]
    have hq : ∃ q, m / 16 = q := ⟨_, rfl⟩
    obtain ⟨q, hq⟩ := hq
    have es : (m : Int).fdiv (2 ^ min 4 IntKind.u64.bits) = (q : Int) := by
      rw [← hq]
      exact shr_nat (b := 4) (k := 4) rfl (by decide)
    have hi1 : ∃ j, i = j + 1 := ⟨i - 1, by omega⟩
    obtain ⟨j, rfl⟩ := hi1
    have ej : ((j : Nat) : Int) + 1 - 1 = (j : Int) := by omega
    push_cast -dsimp [h1, h13, ea, es, ej]
    refine ⟨fun hge => ?_, fun hlt => ?_⟩
    · refine ⟨⟨by omega, by omega⟩, ⟨by omega, by omega⟩, ⟨by omega, by omega⟩, ?_⟩
      rw [digTab d hd16]
      refine storeK_of hB (by omega) rfl ?_
      intro w5 hw5
      have sz5 : w5.heap.size = wx.heap.size := hw5.size
      push_cast -dsimp [es]
      cases f with
      | zero => exact absurd hm (by omega)
      | succ f =>
        rw [hexF, if_neg (by omega), hq, hd] at hh
        refine ⟨⟨f, q, j, dig d :: acc, _, rfl, rfl, by omega, by omega, ?_, hh, by rw [List.length_set]; exact hcl, ?_, hw5.blk, hbx.trans (hw5.kept.below szx (fun g hg => Nat.le_of_eq (Eq.symm hg)))⟩, by rw [h13]; simp only [intOf]; omega⟩
        · rw [← hq]
          refine Nat.div_lt_of_lt_mul ?_
          rw [Nat.mul_comm, ← Nat.pow_succ]; exact hm
        · rw [List.drop_set, if_neg (by omega), Nat.sub_self, List.drop_eq_getElem_cons (by omega), List.set_cons_zero, hcd, List.map_cons]
    · have hh' : dig m :: acc = hexP n := by
        rw [← hh]
        cases f with
        | zero => rfl
        | succ f => rw [hexF, if_pos (by omega)]
      have hm36 : m < 16 := by omega
      refine ⟨⟨by omega, by omega⟩, ⟨by omega, by omega⟩, ⟨by omega, by omega⟩, ?_⟩
      rw [digTab m hm36]
      refine storeK_of hB (by omega) rfl ?_
      intro w5 hw5
      have sz5 : w5.heap.size = wx.heap.size := hw5.size
      push_cast -dsimp
      refine sliceArrK (n := 65) (s := 1) (e := 5) (by kernel_rfl) (by kernel_rfl) (by kernel_rfl) (by rfl) rfl (by omega) ?_
      push_cast -dsimp
      have hsl : Sl (fun _ => False) 1 (En encB) w5 (.slice (some ⟨w.heap.size, j, none⟩) (65 - j) (65 - j)) (dig m :: acc) := by
        refine slBlkAt (f := fun b : UInt8 => .int .u8 (b.toNat : Int)) hw5.blk ?_ ?_ ?_
        · rw [List.drop_set, if_neg (by omega), Nat.sub_self, List.drop_eq_getElem_cons (by omega), List.set_cons_zero, hcd, List.map_cons]
        · have := congrArg List.length hcd
          rw [List.length_drop, List.length_map, hcl] at this
          rw [List.length_cons]; omega
        · have := congrArg List.length hcd
          rw [List.length_drop, List.length_map, hcl] at this
          rw [List.length_cons]; omega
      refine strK (e := 5) (by kernel_rfl) (by kernel_rfl) (by kernel_rfl) hsl ?_
      push_cast -dsimp
      rw [hh']
      exact ⟨rfl, hbx.trans (hw5.kept.below szx (fun g hg => Nat.le_of_eq (Eq.symm hg)))⟩
theorem fmtInt_c (n : Nat) (hn : n < 4294967296) (w : World) (h : Db w) : Fun Tryz.prog 122 [.int .i64 (n : Int), .int .i64 16] w fun r w' => r = str (hexP n) ∧ Below w.heap.size w w' := by
  refine fun_of_vc Tryz.func122 rfl (by kernel_rfl) [4] rfl ?_
  push_cast -dsimp (maxSteps := 4000000) [Tryz.ntmps122]
  have e1 : IntKind.u64.wrap (n : Int) = (n : Int) := by rw [wrap_u64_nat, Nat.mod_eq_of_lt (by omega)]
  have e2 : decide ((n : Int) < 0) = false := decide_eq_false (by omega)
  push_cast -dsimp [e1, e2]
  refine callK_of (formatBits_c n hn w h) ?_
  rintro _ w1 ⟨rfl, hb⟩
  push_cast -dsimp
  exact hb
theorem fmtI_c (n : Nat) (hn : n < 4294967296) (w : World) (h : Db w) : Fun Tryz.prog 105 [.int .i64 (n : Int), .int .i64 16] w fun r w' => r = str (hexP n) ∧ Below w.heap.size w w' := by
  refine fun_of_vc Tryz.func105 rfl (by kernel_rfl) [4] rfl ?_
  push_cast -dsimp (maxSteps := 4000000) [Tryz.ntmps105]
  refine callK_of (fmtInt_c n hn w h) ?_
  rintro _ w1 ⟨rfl, hb⟩
  push_cast -dsimp
  exact hb
theorem hex_c (n : Nat) (hn : n < 4294967296) (w : World) (h : Db w) : Fun Tryz.prog 96 [.int .i64 (n : Int)] w fun r w' => r = str (hexP n) ∧ Below w.heap.size w w' := by
  refine fun_of_vc Tryz.func96 rfl (by kernel_rfl) [2] rfl ?_
  push_cast -dsimp (maxSteps := 4000000) [Tryz.ntmps96]
  refine callK_of (fmtI_c n hn w h) ?_
  rintro _ w1 ⟨rfl, hb⟩
  push_cast -dsimp
  exact hb
end Go.Proofs.YtiofleijieepgaaGreatDoor
end
section
namespace Cae
/-- A range, written. -/
def rgP (r : Rg) : List UInt8 := hexP r.1.toNat ++ (if r.1 < r.2 then 45 :: hexP r.2.toNat else [])
/-- A set, written. -/
def printP (s : List Rg) : List UInt8 := 91 :: (Go.Lib.join (s.map rgP) [32] ++ [93])
/-- Ranges that can be written. -/
def Wr (s : List Rg) : Prop := ∀ r ∈ s, 0 ≤ r.1 ∧ r.1 < 4294967296 ∧ r.2 < 4294967296
theorem rgP_len (r : Rg) : (rgP r).length ≤ 19 := by
  unfold rgP
  have h1 := hexP_len r.1.toNat
  have h2 := hexP_len r.2.toNat
  split <;> simp <;> omega
theorem joinR_len (s : List Rg) : (Go.Lib.join (s.map rgP) [32]).length ≤ 20 * s.length := by
  cases s with
  | nil => simp [Go.Lib.join_nil]
  | cons r s =>
    rw [List.map_cons, Go.Lib.join_cons, List.length_append, Go.Lib.joinTail_length]
    have h1 := rgP_len r
    have h2 : Go.Lib.lens (s.map rgP) ≤ 19 * s.length := by
      induction s with
      | nil => simp [Go.Lib.lens]
      | cons q s ih =>
        have := rgP_len q
        simp only [Go.Lib.lens, List.map_cons, List.sum_cons, List.length_cons] at ih ⊢
        omega
    simp only [List.length_cons, List.length_nil, List.length_map]
    omega
theorem wr_right : ∀ {s : List Rg} {a : Int}, -2 ≤ a → setRight a s = true → Wr s
  | [], _, _, _ => fun r hr => by cases hr
  | q :: s, a, ha, h => by
    rw [setRight_con] at h
    intro r hr
    rcases List.mem_cons.1 hr with rfl | hr
    · omega
    · exact wr_right (by omega) h.2 r hr
end Cae
namespace Go.Proofs.YtiofleijieepgaaGreatDoor
open Go.Vc Go.Proofs Go.RowKit Cae
set_option maxRecDepth 100000
set_option linter.unusedSimpArgs false
set_option linter.unusedVariables false
attribute [local irreducible] wpL callK valK unitK runK Fun Sl Vc.Own vc vcOps opK pureK
set_option maxHeartbeats 4000000

theorem print_c (s : List Rg) (hs : s.length < 10000000) (hw : Wr s) (X : Nat → Prop) (v : Value) (w : World) (hv : Sl X 2 (En encR) w v s) (h : Db w) :
    Fun Tryz.prog 63 [v] w fun r w' => r = str (printP s) ∧ Below w.heap.size w w' := by
  obtain ⟨a, c, rfl, hc⟩ := hv.shape
  refine fun_of_vc Tryz.func63 rfl (by kernel_rfl) [2] rfl ?_
  push_cast -dsimp (maxSteps := 4000000) [Tryz.ntmps63]
  refine wpL_loop [3, 5, 6, 9, 10, 11, 12, 13, 14, 15, 16, 17, 18, 19, 20, 21, 22, 23, 24, 25, 26, 27, 28, 29, 30, 31] (fun z wx => ∃ (i : Nat) (ov : Value), z 9 = .int .i64 i ∧ z 3 = ov ∧ i ≤ s.length ∧ Vc.Own w.heap.size 9 1 encS wx ov ((s.take i).map rgP) ∧ Below w.heap.size w wx) (fun z _ => s.length - (intOf (z 9)).toNat) ?_ ?_
  · exact ⟨0, _, rfl, rfl, Nat.zero_le _, Vc.Own.nil (enc := encS) _ _ (fun _ => rfl) _, Below.refl _ _⟩
  · intro z wx hI
    obtain ⟨i, ov, h9, h3, hi, hox, hbx⟩ := hI
    have szx := hbx.size
    push_cast -dsimp [h9, h3]
    refine ⟨fun hlt => ?_, fun hge => ?_⟩
    · have hg := lt_get (l := s) (i := i) (by omega)
      obtain ⟨x, hx, hxm, _, ht⟩ := hg
      have hsx := hv.below hbx
      have hg := hsx.get hx
      obtain ⟨b, o, rfl, hnb, hcell⟩ := hg
      have cx : cellsAt wx ⟨b, o + i * 2, none⟩ 0 2 = some [.int .i64 x.1, .int .i64 x.2] := cellsAt_of (encR x) 0 (fun j u hu => by simpa using hcell j u hu)
      have hxw := hw x hxm
      obtain ⟨x1, x2, x3⟩ := hxw
      have est : (s.take (i + 1)).map rgP = (s.take i).map rgP ++ [rgP x] := by
        rw [ht, List.map_append]; rfl
      have hgn : ∃ n : Nat, x.1 = n := ⟨x.1.toNat, by omega⟩
      obtain ⟨n, hn⟩ := hgn
      rw [hn] at cx
      push_cast -dsimp [cx]
      refine ⟨⟨by omega, by omega⟩, ?_⟩
      refine allocK (z := [.int .i64 0, .int .i64 0]) (by kernel_rfl) ?_
      intro w3 hw3
      have sz3 := hw3.size
      push_cast -dsimp
      refine storeAgg (n := 2) (by kernel_rfl) hw3.blk rfl (by simp) (by simp [Value.oneCell']) ?_
      intro w4 hw4
      have sz4 := hw4.size
      have c0 : w4.cell? ⟨wx.heap.size, 0, none⟩ = some (.int .i64 (n : Int)) := hw4.blk.cell rfl
      have c1 : w4.cell? ⟨wx.heap.size, 1, none⟩ = some (.int .i64 x.2) := hw4.blk.cell rfl
      push_cast -dsimp [c0, c1]
      have k4 : Kept (fun j => j = wx.heap.size) wx w4 := (Kept.new hw3).trans hw4.kept (fun _ _ h => h)
      have ho4 := hox.keptX k4 (fun g hg h => by have := hox.block g hg; omega)
      have hb4 : Below w.heap.size w w4 := hbx.trans (k4.below szx (fun _ h => by omega))
      have hsh := ho4.slice
      obtain ⟨oa, oc, rfl⟩ := hsh
      refine callK_of (hex_c n (by omega) w4 (h.below hb4 h.lt)) ?_
      rintro _ w5 ⟨rfl, hb5⟩
      have sz5 := hb5.size
      have ho5 := ho4.below hb5
      have hB5 := hb4.trans (hb5.mono (show w.heap.size ≤ w4.heap.size by omega))
      have c5 : w5.cell? ⟨wx.heap.size, 0, none⟩ = some (.int .i64 (n : Int)) := (hb5.cell (by show wx.heap.size < w4.heap.size; omega)).trans c0
      have c5' : w5.cell? ⟨wx.heap.size, 1, none⟩ = some (.int .i64 x.2) := (hb5.cell (by show wx.heap.size < w4.heap.size; omega)).trans c1
      push_cast -dsimp [c5, c5']
      refine ⟨fun hgt => ?_, fun hle => ?_⟩
      · have hgm : ∃ m : Nat, x.2 = m := ⟨x.2.toNat, by omega⟩
        obtain ⟨m, hm⟩ := hgm
        have hrg : rgP x = hexP n ++ 45 :: hexP m := by unfold rgP; rw [if_pos (by omega), hn, hm]; rfl
        rw [hm] at c5'
        rw [hm]
        refine callK_of (hex_c m (by omega) w5 (h.below hB5 h.lt)) ?_
        rintro _ w6 ⟨rfl, hb6⟩
        have sz6 := hb6.size
        have ho6 := ho5.below hb6
        have hB6 := hB5.trans (hb6.mono (show w.heap.size ≤ w5.heap.size by omega))
        have hl1 := hexP_len n
        have hl2 := hexP_len m
        push_cast -dsimp
        refine ⟨by omega, by simp only [List.length_append, List.length_cons, List.length_nil]; omega, ?_⟩
        refine rowK elI_61 rfl rfl (by omega) ?_
        intro w7 hw7
        have sz7 : w7.heap.size = w6.heap.size + 1 := hw7.size
        have ho7 := ho6.new hw7
        push_cast -dsimp
        refine appendK2 (base := w.heap.size) [rgP x] (enc := encS) elI_61 ho7 (by rfl) (fun j u hu => by rw [hrg] at hu; rw [Nat.zero_add]; exact hw7.cell hu) (by simp [encS, str, Value.oneCell']) (by simp only [List.length_cons, List.length_nil, List.length_map, List.length_take]; omega) (by omega) ?_
        intro v8 w8 ho8 hg8 hn8
        have hb8 : Below w.heap.size w w8 := (hB6.trans (hw7.below.mono (by omega))).trans ((Kept.grown (X := fun j => w.heap.size ≤ j) hg8 (fun k hk => (ho7.block k hk).1)).below (by omega) (fun _ h => h))
        rw [← est] at ho8
        push_cast -dsimp
        exact ⟨⟨by omega, by omega⟩, ⟨i + 1, _, rfl, rfl, by omega, ho8, hb8⟩, by rw [h9]; simp only [intOf]; omega⟩
      · have hrg : rgP x = hexP n := by unfold rgP; rw [if_neg (by omega), hn]; exact List.append_nil _
        refine rowK elI_61 rfl rfl (by omega) ?_
        intro w7 hw7
        have sz7 : w7.heap.size = w5.heap.size + 1 := hw7.size
        have ho7 := ho5.new hw7
        push_cast -dsimp
        refine appendK2 (base := w.heap.size) [rgP x] (enc := encS) elI_61 ho7 (by rfl) (fun j u hu => by rw [hrg] at hu; rw [Nat.zero_add]; exact hw7.cell hu) (by simp [encS, str, Value.oneCell']) (by simp only [List.length_cons, List.length_nil, List.length_map, List.length_take]; omega) (by omega) ?_
        intro v8 w8 ho8 hg8 hn8
        have hb8 : Below w.heap.size w w8 := (hB5.trans (hw7.below.mono (by omega))).trans ((Kept.grown (X := fun j => w.heap.size ≤ j) hg8 (fun k hk => (ho7.block k hk).1)).below (by omega) (fun _ h => h))
        rw [← est] at ho8
        push_cast -dsimp
        exact ⟨⟨by omega, by omega⟩, ⟨i + 1, _, rfl, rfl, by omega, ho8, hb8⟩, by rw [h9]; simp only [intOf]; omega⟩
    · have hin : i = s.length := by omega
      subst hin
      rw [List.take_length] at hox
      have hjl := joinR_len s
      refine callK_of (join_c (s.map rgP) [32] (by rw [List.length_map]; omega) (by omega) _ _ wx hox.sl) ?_
      rintro _ w6 ⟨rfl, hb6⟩
      have hB6 := hbx.trans (hb6.mono szx)
      push_cast -dsimp
      refine ⟨by omega, by simp only [List.length_append, List.length_cons, List.length_nil]; omega, ?_, hB6⟩
      rfl
end Go.Proofs.YtiofleijieepgaaGreatDoor
end
section
namespace Cae
/-- What stands ahead of the first c, what stands behind it, and whether there is one. -/
def cutP (c : UInt8) (s : List UInt8) : List UInt8 × List UInt8 × Bool := if s.contains c then (s.takeWhile (· != c), (s.dropWhile (· != c)).drop 1, true) else (s, [], false)
/-- The parts between c's. -/
def splitB (c : UInt8) : List UInt8 → List (List UInt8)
  | [] => [[]]
  | b :: r => if b == c then [] :: splitB c r else match splitB c r with
    | [] => [[b]]
    | p :: ps => (b :: p) :: ps
theorem ib_spec (c : UInt8) : ∀ s : List UInt8, Go.Lib.indexByte s c = if s.contains c then ((s.takeWhile (· != c)).length : Int) else -1
  | [] => rfl
  | b :: r => by
    rw [Go.Lib.indexByte, List.contains_cons, ib_spec c r, List.takeWhile_cons]
    by_cases h : b = c
    · subst h; simp
    · have h1 : (b == c) = false := by simpa using h
      have h2 : (c == b) = false := by simpa using (fun e => h e.symm : ¬ c = b)
      have h3 : (b != c) = true := by simp [h]
      rw [h1, h2, h3, Bool.false_or]
      cases hc : r.contains c with
      | true =>
        have : ¬ ((((r.takeWhile (· != c)).length : Nat) : Int) == -1) = true := by simp
        simp only [if_true, if_neg this, Bool.false_eq_true, if_false, List.length_cons]
        omega
      | false => simp
theorem take_tw (p : UInt8 → Bool) : ∀ s : List UInt8, s.take (s.takeWhile p).length = s.takeWhile p
  | [] => rfl
  | b :: r => by
    rw [List.takeWhile_cons]
    split
    · rw [List.length_cons, List.take_succ_cons, take_tw p r]
    · rfl
theorem drop_tw (p : UInt8 → Bool) : ∀ s : List UInt8, s.drop (s.takeWhile p).length = s.dropWhile p
  | [] => rfl
  | b :: r => by
    rw [List.takeWhile_cons, List.dropWhile_cons]
    split
    · rw [List.length_cons, List.drop_succ_cons, drop_tw p r]
    · rfl
theorem tw_lt {c : UInt8} : ∀ {s : List UInt8}, s.contains c = true → (s.takeWhile (· != c)).length < s.length
  | [], h => by cases h
  | b :: r, h => by
    rw [List.takeWhile_cons]
    split
    · rename_i hb
      have : r.contains c = true := by
        rw [List.contains_cons, Bool.or_eq_true] at h
        rcases h with h | h
        · have : c = b := by simpa using h
          subst this; simp at hb
        · exact h
      have := tw_lt this
      simp only [List.length_cons]; omega
    · simp
theorem tw_all {c : UInt8} : ∀ {s : List UInt8}, s.contains c = false → s.takeWhile (· != c) = s
  | [], _ => rfl
  | b :: r, h => by
    rw [List.contains_cons, Bool.or_eq_false_iff] at h
    have h1 : (b != c) = true := by have := h.1; simp at this; simp; exact fun e => this e.symm
    rw [List.takeWhile_cons, if_pos h1, tw_all h.2]
theorem dropWhile_len (p : UInt8 → Bool) : ∀ s : List UInt8, (s.dropWhile p).length ≤ s.length
  | [] => Nat.le_refl _
  | b :: r => by
    have := dropWhile_len p r
    rw [List.dropWhile_cons]
    split <;> simp <;> omega
theorem cutP_len (c : UInt8) (s : List UInt8) : (cutP c s).1.length ≤ s.length ∧ (cutP c s).2.1.length ≤ s.length := by
  unfold cutP
  split
  · rename_i h
    have h1 := tw_lt h
    have h2 := dropWhile_len (· != c) s
    refine ⟨by show (s.takeWhile (· != c)).length ≤ _; omega, ?_⟩
    show ((s.dropWhile (· != c)).drop 1).length ≤ _
    rw [List.length_drop]; omega
  · simp
theorem splitB_ne (c : UInt8) : ∀ s, splitB c s ≠ []
  | [] => by simp [splitB]
  | b :: r => by
    rw [splitB]
    split
    · simp
    · split <;> simp
theorem splitB_eq (c : UInt8) : ∀ s : List UInt8, splitB c s = s.takeWhile (· != c) :: (if s.contains c then splitB c ((s.dropWhile (· != c)).drop 1) else [])
  | [] => rfl
  | b :: r => by
    rw [splitB, List.takeWhile_cons, List.dropWhile_cons, List.contains_cons]
    by_cases h : b = c
    · subst h; simp
    · have h1 : (b == c) = false := by simpa using h
      have h2 : (c == b) = false := by simpa using fun e => h e.symm
      have h3 : (b != c) = true := by simp [h]
      rw [h1, h2, h3, Bool.false_or, splitB_eq c r]
      rfl
theorem splitB_len (c : UInt8) : ∀ s : List UInt8, (splitB c s).length ≤ s.length + 1
  | [] => by simp [splitB]
  | b :: r => by
    have h := splitB_len c r
    rw [splitB]
    split
    · simp; omega
    · cases hs : splitB c r with
      | nil => simp
      | cons p ps => rw [hs] at h; simp at h ⊢; omega
theorem splitB_mem (c : UInt8) : ∀ (s p : List UInt8), p ∈ splitB c s → p.length ≤ s.length
  | [], p, h => by simp [splitB] at h; subst h; simp
  | b :: r, p, h => by
    rw [splitB] at h
    split at h
    · rcases List.mem_cons.1 h with rfl | h
      · simp
      · have := splitB_mem c r p h
        simp; omega
    · cases hs : splitB c r with
      | nil => exact absurd hs (splitB_ne c r)
      | cons q qs =>
        rw [hs] at h
        rcases List.mem_cons.1 h with rfl | h
        · have := splitB_mem c r q (by rw [hs]; simp)
          simp; omega
        · have := splitB_mem c r p (by rw [hs]; simp [h])
          simp; omega
end Cae
namespace Go.Proofs.YtiofleijieepgaaGreatDoor
open Go.Vc Go.Proofs Go.RowKit Cae
set_option maxRecDepth 100000
set_option linter.unusedSimpArgs false
set_option linter.unusedVariables false
attribute [local irreducible] wpL callK valK unitK runK Fun Sl Vc.Own vc vcOps opK pureK
set_option maxHeartbeats 4000000

def indexR_ren : Go.Shelf.Ren := ⟨fun | 143 => 88 | 219 => 116 | 217 => 142 | 225 => 143 | 224 => 144 | 267 => 145 | 266 => 164 | 314 => 165 | n => n, fun | 9 => 9 | 3 => 3 | 4 => 4 | 5 => 5 | 46 => 148 | 146 => 119 | 51 => 118 | n => n, fun | 1 => 2 | n => n⟩
theorem indexR : Go.Proofs.Lays.n143 Tryz.prog indexR_ren := {
  mixed := by kernel_rfl
  f143 := Tryz.func88.trans (congrArg some (by kernel_rfl))
  f217 := Tryz.func142.trans (congrArg some (by kernel_rfl))
  f219 := Tryz.func116.trans (congrArg some (by kernel_rfl))
  f224 := Tryz.func144.trans (congrArg some (by kernel_rfl))
  f225 := Tryz.func143.trans (congrArg some (by kernel_rfl))
  f266 := Tryz.func164.trans (congrArg some (by kernel_rfl))
  f267 := Tryz.func145.trans (congrArg some (by kernel_rfl))
  f314 := Tryz.func165.trans (congrArg some (by kernel_rfl))
  t3 := Tryz.underlying3
  a3 := Tryz.isAgg3
  z3 := Tryz.sizeOf3
  v3 := Tryz.zeroValue3
  t4 := Tryz.underlying4
  a4 := Tryz.isAgg4
  z4 := Tryz.sizeOf4
  v4 := Tryz.zeroValue4
  t5 := Tryz.underlying5
  a5 := Tryz.isAgg5
  z5 := Tryz.sizeOf5
  v5 := Tryz.zeroValue5
  t9 := Tryz.underlying9
  a9 := Tryz.isAgg9
  z9 := Tryz.sizeOf9
  v9 := Tryz.zeroValue9
  t46 := Tryz.underlying148
  a46 := Tryz.isAgg148
  z46 := Tryz.sizeOf148
  v46 := Tryz.zeroValue148
  t51 := Tryz.underlying118
  a51 := Tryz.isAgg118
  z51 := Tryz.sizeOf118
  v51 := Tryz.zeroValue118
  t146 := Tryz.underlying119
  a146 := Tryz.isAgg119
  z146 := Tryz.sizeOf119
  v146 := Tryz.zeroValue119
  g1 := by kernel_rfl }

def indexLR_ren : Go.Shelf.Ren := ⟨fun | 219 => 116 | 217 => 142 | 225 => 143 | 224 => 144 | 267 => 145 | 266 => 164 | 314 => 165 | n => n, fun | 9 => 9 | 3 => 3 | 4 => 4 | 5 => 5 | 46 => 148 | 146 => 119 | 51 => 118 | n => n, fun | 1 => 2 | n => n⟩
theorem indexLR : Go.Proofs.Lays.n219 Tryz.prog indexLR_ren := {
  mixed := by kernel_rfl
  f217 := Tryz.func142.trans (congrArg some (by kernel_rfl))
  f219 := Tryz.func116.trans (congrArg some (by kernel_rfl))
  f224 := Tryz.func144.trans (congrArg some (by kernel_rfl))
  f225 := Tryz.func143.trans (congrArg some (by kernel_rfl))
  f266 := Tryz.func164.trans (congrArg some (by kernel_rfl))
  f267 := Tryz.func145.trans (congrArg some (by kernel_rfl))
  f314 := Tryz.func165.trans (congrArg some (by kernel_rfl))
  t3 := Tryz.underlying3
  a3 := Tryz.isAgg3
  z3 := Tryz.sizeOf3
  v3 := Tryz.zeroValue3
  t4 := Tryz.underlying4
  a4 := Tryz.isAgg4
  z4 := Tryz.sizeOf4
  v4 := Tryz.zeroValue4
  t5 := Tryz.underlying5
  a5 := Tryz.isAgg5
  z5 := Tryz.sizeOf5
  v5 := Tryz.zeroValue5
  t9 := Tryz.underlying9
  a9 := Tryz.isAgg9
  z9 := Tryz.sizeOf9
  v9 := Tryz.zeroValue9
  t46 := Tryz.underlying148
  a46 := Tryz.isAgg148
  z46 := Tryz.sizeOf148
  v46 := Tryz.zeroValue148
  t51 := Tryz.underlying118
  a51 := Tryz.isAgg118
  z51 := Tryz.sizeOf118
  v51 := Tryz.zeroValue118
  t146 := Tryz.underlying119
  a146 := Tryz.isAgg119
  z146 := Tryz.sizeOf119
  v146 := Tryz.zeroValue119
  g1 := by kernel_rfl }

def cutPreR_ren : Go.Shelf.Ren := ⟨fun | 103 => 118 | 210 => 146 | 206 => 59 | n => n, fun | 9 => 9 | 4 => 4 | 24 => 161 | 3 => 3 | n => n, fun | n => n⟩
theorem cutPreR : Go.Proofs.Lays.n103 Tryz.prog cutPreR_ren := {
  mixed := by kernel_rfl
  f103 := Tryz.func118.trans (congrArg some (by kernel_rfl))
  f206 := Tryz.func59.trans (congrArg some (by kernel_rfl))
  f210 := Tryz.func146.trans (congrArg some (by kernel_rfl))
  t3 := Tryz.underlying3
  a3 := Tryz.isAgg3
  z3 := Tryz.sizeOf3
  v3 := Tryz.zeroValue3
  t4 := Tryz.underlying4
  a4 := Tryz.isAgg4
  z4 := Tryz.sizeOf4
  v4 := Tryz.zeroValue4
  t9 := Tryz.underlying9
  a9 := Tryz.isAgg9
  z9 := Tryz.sizeOf9
  v9 := Tryz.zeroValue9
  t24 := Tryz.underlying161
  a24 := Tryz.isAgg161
  z24 := Tryz.sizeOf161
  v24 := Tryz.zeroValue161 }

def cutSufR_ren : Go.Shelf.Ren := ⟨fun | 104 => 119 | 211 => 147 | 207 => 61 | n => n, fun | 9 => 9 | 4 => 4 | 24 => 161 | 3 => 3 | n => n, fun | n => n⟩
theorem cutSufR : Go.Proofs.Lays.n104 Tryz.prog cutSufR_ren := {
  mixed := by kernel_rfl
  f104 := Tryz.func119.trans (congrArg some (by kernel_rfl))
  f207 := Tryz.func61.trans (congrArg some (by kernel_rfl))
  f211 := Tryz.func147.trans (congrArg some (by kernel_rfl))
  t3 := Tryz.underlying3
  a3 := Tryz.isAgg3
  z3 := Tryz.sizeOf3
  v3 := Tryz.zeroValue3
  t4 := Tryz.underlying4
  a4 := Tryz.isAgg4
  z4 := Tryz.sizeOf4
  v4 := Tryz.zeroValue4
  t9 := Tryz.underlying9
  a9 := Tryz.isAgg9
  z9 := Tryz.sizeOf9
  v9 := Tryz.zeroValue9
  t24 := Tryz.underlying161
  a24 := Tryz.isAgg161
  z24 := Tryz.sizeOf161
  v24 := Tryz.zeroValue161 }

theorem index_s (s : List UInt8) (c : UInt8) (w : World) : Fun Tryz.prog 88 [str s, str [c]] w fun r w' => r = .int .i64 (Lib.indexByte s c) ∧ w' = w := by
  refine fun_of_calls Tryz.func88 (by kernel_rfl) (by kernel_rfl) ?_
  refine Calls.mono (Any.strings_Index_one indexR ⟨s.toArray⟩ c w) ?_
  rintro e w' ⟨rfl, rfl⟩
  exact ⟨_, rfl, rfl, rfl⟩
theorem index_l (s : List UInt8) (c : UInt8) (w : World) : Fun Tryz.prog 116 [str s, str [c]] w fun r w' => r = .int .i64 (Lib.indexByte s c) ∧ w' = w := by
  refine fun_of_calls Tryz.func116 (by kernel_rfl) (by kernel_rfl) ?_
  refine Calls.mono (Any.stringslite_Index_one indexLR ⟨s.toArray⟩ c w) ?_
  rintro e w' ⟨rfl, rfl⟩
  exact ⟨_, rfl, rfl, rfl⟩
theorem cutPre_c (s p : List UInt8) (w : World) : Fun Tryz.prog 118 [str s, str p] w fun r w' => r = .tuple #[str (Lib.trimPrefix s p), .bool (Lib.hasPrefix s p)] ∧ w' = w := by
  refine fun_of_calls Tryz.func118 (by kernel_rfl) (by kernel_rfl) ?_
  refine Calls.mono (Any.strings_CutPrefix cutPreR ⟨s.toArray⟩ ⟨p.toArray⟩ w) ?_
  rintro e w' ⟨rfl, rfl⟩
  exact ⟨_, rfl, rfl, rfl⟩
theorem cutSuf_c (s p : List UInt8) (hs : s.length ≤ 9223372036854775807) (w : World) : Fun Tryz.prog 119 [str s, str p] w fun r w' => r = .tuple #[str (Lib.trimSuffix s p), .bool (Lib.hasSuffix s p)] ∧ w' = w := by
  refine fun_of_calls Tryz.func119 (by kernel_rfl) (by kernel_rfl) ?_
  refine Calls.mono (Any.strings_CutSuffix cutSufR ⟨s.toArray⟩ ⟨p.toArray⟩ w hs) ?_
  rintro e w' ⟨rfl, rfl⟩
  exact ⟨_, rfl, rfl, rfl⟩
theorem cut_l (s : List UInt8) (c : UInt8) (hs : s.length ≤ 1000000000) (w : World) : Fun Tryz.prog 117 [str s, str [c]] w fun r w' => r = .tuple #[str (cutP c s).1, str (cutP c s).2.1, .bool (cutP c s).2.2] ∧ Below w.heap.size w w' := by
  refine fun_of_vc Tryz.func117 rfl (by kernel_rfl) [4, 5, 6] rfl ?_
  push_cast -dsimp (maxSteps := 4000000) [Tryz.ntmps117]
  refine callK_of (index_l s c w) ?_
  rintro _ w1 ⟨rfl, rfl⟩
  rw [ib_spec]
  unfold cutP
  cases hc : s.contains c with
  | false =>
    simp only [Bool.false_eq_true, if_false]
    push_cast -dsimp
    exact Below.refl _ _
  | true =>
    simp only [if_true]
    have hlt := tw_lt hc
    have hg : ∃ k, (s.takeWhile (· != c)).length = k := ⟨_, rfl⟩
    obtain ⟨k, hk⟩ := hg
    have h1 : s.takeWhile (· != c) = s.take k := by rw [← hk]; exact (take_tw _ s).symm
    have h2 : (s.dropWhile (· != c)).drop 1 = s.drop (k + 1) := by rw [← drop_tw, List.drop_drop, hk]
    rw [h1, h2]
    rw [hk] at hlt
    have h3 : (s.take k).length = k := by rw [List.length_take]; omega
    rw [h3]
    have hge : decide ((k : Int) ≥ 0) = true := decide_eq_true (by omega)
    push_cast -dsimp [hge]
    refine wpL_draw (fun _ => True) mixed (by kernel_rfl) trivial ?_
    push_cast -dsimp
    refine ⟨by omega, by omega, by omega, ?_, (Below.refl _ _).drew⟩
    rw [show ((k : Int) + 1).toNat = k + 1 by omega]
theorem cut_c (s : List UInt8) (c : UInt8) (hs : s.length ≤ 1000000000) (w : World) : Fun Tryz.prog 89 [str s, str [c]] w fun r w' => r = .tuple #[str (cutP c s).1, str (cutP c s).2.1, .bool (cutP c s).2.2] ∧ Below w.heap.size w w' := by
  refine fun_of_vc Tryz.func89 rfl (by kernel_rfl) [4, 5, 6] rfl ?_
  push_cast -dsimp (maxSteps := 4000000) [Tryz.ntmps89]
  refine callK_of (cut_l s c hs w) ?_
  rintro _ w1 ⟨rfl, hb⟩
  push_cast -dsimp
  exact hb
end Go.Proofs.YtiofleijieepgaaGreatDoor
end
section
set_option linter.unusedSimpArgs false
set_option linter.unusedVariables false
namespace Go.Vc
open Go.RowKit
/-- A block that bytes of a text were laid in. -/
def Byt (w : World) (b : Nat) (e : TypeId) (l : List UInt8) : Prop :=
  ∃ (cs : Array Value) (n : Nat), w.heap[b]? = some (.cells cs e (n, n + 1)) ∧ cs.size ≤ n ∧ ∀ (j : Nat) (c : UInt8), l[j]? = some c → cs[j]? = some (Value.int IntKind.u8 (c.toNat : Int))

theorem Byt.cell {w : World} {b : Nat} {e : TypeId} {l : List UInt8} (h : Byt w b e l) {j : Nat} {c : UInt8} (hc : l[j]? = some c) : w.cell? ⟨b, j, none⟩ = some (.int .u8 (c.toNat : Int)) := by
  obtain ⟨cs, n, h, _, hh⟩ := h
  simp [World.cell?, h, hh j c hc]
theorem bytesK {P : Program} {s d e : TypeId} {l : List UInt8} {t : Fr} {w : World} {K : VK} {Q : EP} {p} (hs : P.underlying s = some .string) (hd : P.underlying d = some (.slice e)) (he : P.underlying e = some (.int .u8))
    (kk : ∀ c w', l.length ≤ c → Byt w' w.heap.size e l → Below w.heap.size w w' → K (.slice (some ⟨w.heap.size, 0, none⟩) l.length c) w') : valK P (convert s d (str l)) t w K Q p := by
  have hr := run_bytes_of_string (P := P) w s d e ⟨l.toArray⟩ hs hd he
  have hsz : ByteArray.size ⟨l.toArray⟩ = l.length := by simp [ByteArray.size]
  refine valK_of hr ?_
  rw [hsz]
  refine kk _ _ (grownCap_ge _ _ _ _) ⟨bytesRow ⟨l.toArray⟩ (grownCap w l.length 0 e), (bytesRow ⟨l.toArray⟩ (grownCap w l.length 0 e)).size, ?_, Nat.le_refl _, fun j c hj => ?_⟩ ((Below.refl w.heap.size w).drew.alloc (Nat.le_refl _) _)
  · exact heap_alloc_new w.drew _
  · have hlt := (List.getElem?_eq_some_iff.1 hj).1
    have := bytesRow_at ⟨l.toArray⟩ (grownCap w l.length 0 e) j (by simpa using hlt)
    rw [this]
    have : l[j]? = some l[j] := List.getElem?_eq_getElem hlt
    rw [this] at hj
    cases hj
    simp
end Go.Vc
end
section
namespace Cae
/-- What a hexadecimal digit is worth. -/
def dv (b : UInt8) : Nat := if b.toNat ≤ 57 then b.toNat - 48 else b.toNat - 87
def isHex (b : UInt8) : Bool := (decide (48 ≤ b.toNat) && decide (b.toNat ≤ 57)) || (decide (97 ≤ b.toNat) && decide (b.toNat ≤ 102))
def hexV (l : List UInt8) : Nat := l.foldl (fun m b => 16 * m + dv b) 0
theorem dig_hex : ∀ d : Nat, d < 16 → isHex (dig d) = true ∧ dv (dig d) = d := by decide
theorem hexF_all : ∀ (f n : Nat) (acc : List UInt8), n < 16 ^ (f + 1) → (∀ b ∈ acc, isHex b = true) → ∀ b ∈ hexF f n acc, isHex b = true
  | 0, n, acc, hn, h => by
    rw [hexF]
    intro b hb
    rcases List.mem_cons.1 hb with rfl | hb
    · exact (dig_hex n (by omega)).1
    · exact h b hb
  | f + 1, n, acc, hn, h => by
    rw [hexF]
    split
    · intro b hb
      rcases List.mem_cons.1 hb with rfl | hb
      · exact (dig_hex n (by omega)).1
      · exact h b hb
    · refine hexF_all f (n / 16) _ (Nat.div_lt_of_lt_mul (by rw [Nat.mul_comm, ← Nat.pow_succ]; exact hn)) ?_
      intro b hb
      rcases List.mem_cons.1 hb with rfl | hb
      · exact (dig_hex (n % 16) (by omega)).1
      · exact h b hb
theorem foldl_hex (l : List UInt8) : ∀ m : Nat, l.foldl (fun m b => 16 * m + dv b) m = 16 ^ l.length * m + hexV l := by
  unfold hexV
  induction l with
  | nil => intro m; simp
  | cons b l ih =>
    intro m
    rw [List.foldl_cons, List.foldl_cons, ih, ih (16 * 0 + dv b), List.length_cons, Nat.pow_succ, Nat.mul_add]
    have : 16 ^ l.length * (16 * m) = 16 ^ l.length * 16 * m := by rw [Nat.mul_assoc]
    rw [this]
    simp
    omega
theorem hexV_cons (b : UInt8) (l : List UInt8) : hexV (b :: l) = 16 ^ l.length * dv b + hexV l := by
  have := foldl_hex l (16 * 0 + dv b)
  unfold hexV at this ⊢
  rw [List.foldl_cons, this]
  simp
theorem hexF_val : ∀ (f n : Nat) (acc : List UInt8), n < 16 ^ (f + 1) → hexV (hexF f n acc) = 16 ^ acc.length * n + hexV acc
  | 0, n, acc, hn => by rw [hexF, hexV_cons, (dig_hex n (by omega)).2]
  | f + 1, n, acc, hn => by
    rw [hexF]
    split
    · rw [hexV_cons, (dig_hex n (by omega)).2]
    · rw [hexF_val f (n / 16) _ (Nat.div_lt_of_lt_mul (by rw [Nat.mul_comm, ← Nat.pow_succ]; exact hn)), hexV_cons, (dig_hex (n % 16) (by omega)).2, List.length_cons, Nat.pow_succ]
      have h1 := Nat.div_add_mod n 16
      have h2 : 16 ^ acc.length * n = 16 ^ acc.length * 16 * (n / 16) + 16 ^ acc.length * (n % 16) := by
        rw [Nat.mul_assoc, ← Nat.mul_add, h1]
      rw [h2]; omega
theorem hexP_all {n : Nat} (hn : n < 4294967296) : ∀ b ∈ hexP n, isHex b = true := hexF_all 8 n [] (by omega) (fun b h => by cases h)
theorem hexP_val {n : Nat} (hn : n < 4294967296) : hexV (hexP n) = n := by
  unfold hexP
  rw [hexF_val 8 n [] (by omega)]
  simp [hexV]
theorem hexF_ne : ∀ (f n : Nat) (acc : List UInt8), hexF f n acc ≠ []
  | 0, n, acc => by rw [hexF]; simp
  | f + 1, n, acc => by
    rw [hexF]; split
    · simp
    · exact hexF_ne f _ _
theorem hexP_ne (n : Nat) : hexP n ≠ [] := hexF_ne 8 n []
theorem hexV_snoc (l : List UInt8) (b : UInt8) : hexV (l ++ [b]) = 16 * hexV l + dv b := by
  unfold hexV; rw [List.foldl_append]; rfl
theorem hexV_take (l : List UInt8) (i : Nat) : hexV (l.take i) ≤ hexV l := by
  have e := foldl_hex (l.drop i) (hexV (l.take i))
  have h0 : hexV l = 16 ^ (l.drop i).length * hexV (l.take i) + hexV (l.drop i) := by
    rw [← e]
    conv => lhs; rw [← List.take_append_drop i l]
    unfold hexV
    rw [List.foldl_append]
  have h1 : 1 ≤ 16 ^ (l.drop i).length := Nat.pos_of_ne_zero (by simp)
  rw [h0]
  exact Nat.le_trans (Nat.le_mul_of_pos_left (hexV (l.take i)) h1) (Nat.le_add_right _ _)
theorem hexP_inj {m n : Nat} (hm : m < 4294967296) (hn : n < 4294967296) (h : hexP m = hexP n) : m = n := by
  have := hexP_val hm; rw [h, hexP_val hn] at this; exact this.symm
end Cae
namespace Go.Vc
open Go.RowKit
theorem eq_1ii {L : VP} {other : Prop} (ty v ty' v' c) (p) : eqNilK 1 c .eql (.iface ty v) (.iface ty' v') L other p = other := (rfl)
theorem neq_1ii {L : VP} {other : Prop} (ty v ty' v' c) (p) : eqNilK 1 c .neq (.iface ty v) (.iface ty' v') L other p = other := (rfl)
attribute [push_cast] eq_1ii neq_1ii
theorem neqIfaceK {P : Program} {o : Oper} {t : Fr} {w : World} {K : VK} {Q : EP} {ty : TypeId} {x y : Operand} {z : TypeId} {te : TypeId} {k q : IntKind} {a b : Int} {ms : Array (String × TypeId)} (ho : o.op = .binOp .neq ty x y z) (hx : ev t x = .iface te (.int k a)) (hy : ev t y = .iface te (.int k b))
    (ht : P.underlying ty = some (.interface ms)) (hc : (P.info? te).map (·.comparable) = some true) (he : P.underlying te = some (.int q)) (kk : K (.bool (!(a == b))) w) : runK P o t w K Q .mk := by
  refine runK_val (s := do eqGuard .neq ty x y (ev t x) (ev t y); binOp .neq ty (ev t x) (ev t y)) (by unfold execOp; simp only [ho]) (valK_of (w' := w) ?_ kk)
  rw [Sem.run_bind, eqGuard_plain (.inl (by rw [hx]; simp)) (by intro c; rw [hx]; simp)]
  show (binOp .neq ty (ev t x) (ev t y)).run P w = _
  rw [hx, hy]
  exact Lib.run_neq_iface_int w a b ht hc he
end Go.Vc
namespace Go.Proofs.YtiofleijieepgaaGreatDoor
open Go.Vc Go.Proofs Go.RowKit Cae
set_option maxRecDepth 100000
set_option linter.unusedSimpArgs false
set_option linter.unusedVariables false
attribute [local irreducible] wpL callK valK unitK runK Fun Sl Vc.Own vc vcOps opK pureK
set_option maxHeartbeats 8000000

theorem low_b : ∀ b : Nat, b < 256 → 0 ≤ bitop .or .u8 (b : Int) 32 ∧ bitop .or .u8 (b : Int) 32 ≤ 255 ∧ (97 ≤ b → b ≤ 102 → bitop .or .u8 (b : Int) 32 = b) ∧ (b < 48 → bitop .or .u8 (b : Int) 32 < 97) ∧ (b = 95 → bitop .or .u8 (b : Int) 32 = 127) := by decide +kernel
theorem lower_c (b : Int) (w : World) : Fun Tryz.prog 177 [.int .u8 b] w fun r w' => r = .int .u8 (bitop .or .u8 b 32) ∧ w' = w := by
  refine fun_of_vc Tryz.func177 rfl (by kernel_rfl) [2] rfl ?_
  push_cast -dsimp (maxSteps := 4000000) [Tryz.ntmps177]
/-- The error that a number is read with: none, or one of two. -/
def PErr (e : Value) : Prop := e = .nilIface ∨ e = .iface 176 (.int .i64 1) ∨ e = .iface 176 (.int .i64 2)
theorem parseUint_c (bits : Int) (hbits : bits = 32 ∨ bits = 40) (s : List UInt8) (hs : s.length ≤ 1000000000) (w : World) : Fun Tryz.prog 158 [str s, .int .i64 16, .int .i64 bits] w fun r w' => (∃ (v : Nat) (e : Value), r = .tuple #[.int .u64 (v : Int), e] ∧ v < 1099511627776 ∧ PErr e ∧ (∀ n < 4294967296, s = hexP n → v = n ∧ e = .nilIface)) ∧ Below w.heap.size w w' := by
  refine fun_of_vc Tryz.func158 rfl (by kernel_rfl) [6, 7] rfl ?_
  push_cast -dsimp (maxSteps := 4000000) [Tryz.ntmps158]
  by_cases hne : s = []
  · subst hne
    have e0 : decide (([] : List UInt8) = []) = true := rfl
    push_cast -dsimp (maxSteps := 4000000) [e0]
    refine ⟨⟨0, _, rfl, by omega, .inr (.inr rfl), fun n _ h => absurd h.symm (hexP_ne n)⟩, Below.refl _ _⟩
  have ef : decide False = false := rfl
  have emx : ∃ mx : Nat, IntKind.u64.wrap (IntKind.u64.wrap (1 * 2 ^ min (IntKind.u64.wrap bits).toNat IntKind.u64.bits) - 1) = (mx : Int) ∧ 4294967295 ≤ mx ∧ mx < 1099511627776 := by
    rcases hbits with rfl | rfl
    · exact ⟨4294967295, by decide, by omega, by omega⟩
    · exact ⟨1099511627775, by decide, by omega, by omega⟩
  obtain ⟨mx, emx, hmx1, hmx2⟩ := emx
  push_cast -dsimp (maxSteps := 4000000) [ef]
  refine ⟨fun h => absurd h hne, fun _ => ⟨fun h => by omega, fun _ => ⟨fun _ => ⟨fun h => by omega, fun _ => ⟨by rcases hbits with rfl | rfl <;> decide, ?_⟩⟩, fun h => by omega⟩⟩⟩
  rw [emx]
  refine bytesK (e := 5) (by kernel_rfl) (by kernel_rfl) (by kernel_rfl) ?_
  intro cap w1 hcap hB1 hb1
  have sz1 := hb1.size
  push_cast -dsimp (maxSteps := 4000000) [ef]
  refine wpL_loop [6, 7, 12, 13, 15, 16, 17, 101, 102, 103, 104, 105, 106, 107, 108, 109, 110, 111, 112, 113, 114, 115, 116, 117, 118, 119, 120, 121, 122, 123, 124, 125, 126, 127, 128, 129, 130, 131, 132, 133, 134, 135, 136, 137, 138, 139, 140, 141, 142, 143, 144, 145, 146, 147, 148, 149, 150, 151, 152, 153, 154, 155, 156, 157, 158, 159, 160, 161, 162, 163] (fun z wx => ∃ (i m : Nat), z 101 = .int .i64 (i : Int) ∧ z 13 = .int .u64 (m : Int) ∧ z 12 = .bool false ∧ i ≤ s.length ∧ m ≤ mx ∧ ((∀ b ∈ s, isHex b = true) → hexV s < 4294967296 → m = hexV (s.take i)) ∧ Below w.heap.size w wx ∧ Byt wx w.heap.size 5 s) (fun z _ => s.length - (intOf (z 101)).toNat) ?_ ?_
  · exact ⟨0, 0, rfl, rfl, rfl, Nat.zero_le _, by omega, fun _ _ => rfl, hb1, hB1⟩
  · intro z wx hI
    obtain ⟨i, m, h101, h13, h12, hi, hm, hv, hbx, hBx⟩ := hI
    push_cast -dsimp (maxSteps := 4000000) [h101, h13, h12, ef]
    refine ⟨fun hlt => ?_, fun hge => ?_⟩
    · have hg := lt_get (l := s) (i := i) (by omega)
      obtain ⟨x, hx, hxm, hxd, hxt⟩ := hg
      have cx := hBx.cell hx
      have hb8 : x.toNat < 256 := x.toNat_lt
      have hlow := low_b x.toNat hb8
      have hhex : (∀ b ∈ s, isHex b = true) → isHex x = true := fun h => h x hxm
      have hdvx : dv x = if x.toNat ≤ 57 then x.toNat - 48 else x.toNat - 87 := rfl
      have hisx : isHex x = ((decide (48 ≤ x.toNat) && decide (x.toNat ≤ 57)) || (decide (97 ≤ x.toNat) && decide (x.toNat ≤ 102))) := rfl
      have hgb : ∃ b, x.toNat = b := ⟨_, rfl⟩
      obtain ⟨b, hb⟩ := hgb
      rw [hb] at cx hb8 hlow hdvx hisx
      have hgl : ∃ l, bitop .or .u8 (b : Int) 32 = l := ⟨_, rfl⟩
      obtain ⟨l, hl⟩ := hgl
      rw [hl] at hlow
      have hgl : ∃ lo : Nat, l = (lo : Int) := ⟨l.toNat, by omega⟩
      obtain ⟨lo, hlo⟩ := hgl
      subst hlo
      have ecut : decide ((m : Int) ≥ 1152921504606846976) = false := decide_eq_false (by omega)
      have e16 : IntKind.u8.wrap 16 = 16 := by decide
      have e16' : IntKind.u64.wrap 16 = 16 := by decide
      have hgk : ∃ k, 16 * m = k := ⟨_, rfl⟩
      obtain ⟨k, hk⟩ := hgk
      have ek : IntKind.u64.wrap ((m : Int) * 16) = (k : Int) := by
        rw [show (m : Int) * 16 = (k : Int) by omega, wrap_u64_nat, Nat.mod_eq_of_lt (by omega)]
      refine ⟨by omega, ?_⟩
      obtain ⟨hl0, hl1, hl2, hl3, hl4⟩ := hlow
      by_cases hA : 48 ≤ b ∧ b ≤ 57
      · have e95 : decide ((b : Int) = 95) = false := decide_eq_false (by omega)
        have e1 : decide (48 ≤ (b : Int)) = true := decide_eq_true (by omega)
        have e2 : decide ((b : Int) ≤ 57) = true := decide_eq_true (by omega)
        have hgd : ∃ dn : Nat, b - 48 = dn := ⟨_, rfl⟩
        obtain ⟨dn, hdn0⟩ := hgd
        have edn : IntKind.u8.wrap ((b : Int) - 48) = (dn : Int) := by
          rw [show (b : Int) - 48 = (dn : Int) by omega, wrap_u8_nat, Nat.mod_eq_of_lt (by omega)]
        have hdn : isHex x = true → dn = dv x := fun _ => by rw [hdvx, if_pos hA.2]; exact hdn0.symm
        by_cases hd : dn < 16
        · have ed : decide ((dn : Int) ≥ 16) = false := decide_eq_false (by omega)
          have ed64 : IntKind.u64.wrap (dn : Int) = (dn : Int) := by rw [wrap_u64_nat, Nat.mod_eq_of_lt (by omega)]
          have hgq : ∃ q, k + dn = q := ⟨_, rfl⟩
          obtain ⟨q, hq⟩ := hgq
          have eq : IntKind.u64.wrap ((k : Int) + (dn : Int)) = (q : Int) := by
            rw [show (k : Int) + (dn : Int) = (q : Int) by omega, wrap_u64_nat, Nat.mod_eq_of_lt (by omega)]
          have elt : decide ((q : Int) < (k : Int)) = false := decide_eq_false (by omega)
          have hm' : (∀ b ∈ s, isHex b = true) → hexV s < 4294967296 → q = hexV (s.take (i + 1)) := fun h1 h2 => by
            have := hv h1 h2
            have h3 := hdn (hhex h1)
            rw [hxt, hexV_snoc, ← this, ← h3]
            omega
          by_cases hr : q ≤ mx
          · have emax : decide ((q : Int) > (mx : Int)) = false := decide_eq_false (by omega)
            push_cast -dsimp (maxSteps := 4000000) [cx, ed, ecut, e16, e16', ek, ed64, eq, elt, emax, ef, e95, e1, e2, edn]
            exact ⟨⟨by omega, by omega⟩, ⟨i + 1, q, rfl, rfl, by omega, hr, hm', hbx, hBx⟩, by rw [h101]; simp only [intOf]; omega⟩
          · have emax : decide ((q : Int) > (mx : Int)) = true := decide_eq_true (by omega)
            push_cast -dsimp (maxSteps := 4000000) [cx, ed, ecut, e16, e16', ek, ed64, eq, elt, emax, ef, e95, e1, e2, edn]
            refine ⟨⟨mx, _, rfl, by omega, .inr (.inl rfl), fun n hn h => ?_⟩, hbx⟩
            have h1 := hm' (by rw [h]; exact hexP_all hn) (by rw [h, hexP_val hn]; exact hn)
            have h2 := hexV_take s (i + 1)
            have h3 := hexP_val hn
            rw [← h] at h3
            omega
        · have ed : decide ((dn : Int) ≥ 16) = true := decide_eq_true (by omega)
          push_cast -dsimp (maxSteps := 4000000) [cx, ed, e16, ef, e95, e1, e2, edn]
          refine ⟨⟨0, _, rfl, by omega, .inr (.inr rfl), fun n hn h => ?_⟩, hbx⟩
          have h3 := hdn (hhex (by rw [h]; exact hexP_all hn))
          have h4 := hhex (by rw [h]; exact hexP_all hn)
          rw [hisx, Bool.or_eq_true, Bool.and_eq_true, Bool.and_eq_true, decide_eq_true_eq, decide_eq_true_eq, decide_eq_true_eq, decide_eq_true_eq] at h4
          rw [hdvx] at h3
          split at h3 <;> omega
      · by_cases hB : 97 ≤ lo ∧ lo ≤ 122
        · have e95 : decide ((b : Int) = 95) = false := decide_eq_false (fun h => by have := hl4 (by omega); omega)
          have e1 : decide (48 ≤ (b : Int)) = true := decide_eq_true (Classical.byContradiction fun h => by have := hl3 (by omega); omega)
          have e2 : decide ((b : Int) ≤ 57) = false := decide_eq_false (fun h => hA ⟨Classical.byContradiction fun h => by have := hl3 (by omega); omega, by omega⟩)
          have e3 : decide (97 ≤ (lo : Int)) = true := decide_eq_true (by omega)
          have e4 : decide ((lo : Int) ≤ 122) = true := decide_eq_true (by omega)
          have hgd : ∃ dn : Nat, lo - 87 = dn := ⟨_, rfl⟩
          obtain ⟨dn, hdn0⟩ := hgd
          have hgl2 : ∃ l2 : Nat, lo - 97 = l2 := ⟨_, rfl⟩
          obtain ⟨l2, hl20⟩ := hgl2
          have edn : IntKind.u8.wrap ((lo : Int) - 97) = (l2 : Int) := by
            rw [show (lo : Int) - 97 = (l2 : Int) by omega, wrap_u8_nat, Nat.mod_eq_of_lt (by omega)]
          have edn2 : IntKind.u8.wrap ((l2 : Int) + 10) = (dn : Int) := by
            rw [show (l2 : Int) + 10 = (dn : Int) by omega, wrap_u8_nat, Nat.mod_eq_of_lt (by omega)]
          have hdn : isHex x = true → dn = dv x := fun h => by
            rw [hisx, Bool.or_eq_true, Bool.and_eq_true, Bool.and_eq_true, decide_eq_true_eq, decide_eq_true_eq, decide_eq_true_eq, decide_eq_true_eq] at h
            have h5 := hl2 (by omega) (by omega)
            rw [hdvx, if_neg (by omega)]
            omega
          push_cast -dsimp (maxSteps := 4000000) [cx, e95, e1, e2, ef]
          refine callK_of (lower_c (b : Int) wx) ?_
          rintro _ w2 ⟨rfl, rfl⟩
          rw [hl]
          push_cast -dsimp (maxSteps := 4000000) [e3, ef]
          refine callK_of (lower_c (b : Int) w2) ?_
          rintro _ w3 ⟨rfl, rfl⟩
          rw [hl]
          push_cast -dsimp (maxSteps := 4000000) [e4, ef]
          refine callK_of (lower_c (b : Int) w3) ?_
          rintro _ w4 ⟨rfl, rfl⟩
          rw [hl]
          by_cases hd : dn < 16
          · have ed : decide ((dn : Int) ≥ 16) = false := decide_eq_false (by omega)
            have ed64 : IntKind.u64.wrap (dn : Int) = (dn : Int) := by rw [wrap_u64_nat, Nat.mod_eq_of_lt (by omega)]
            have hgq : ∃ q, k + dn = q := ⟨_, rfl⟩
            obtain ⟨q, hq⟩ := hgq
            have eq : IntKind.u64.wrap ((k : Int) + (dn : Int)) = (q : Int) := by
              rw [show (k : Int) + (dn : Int) = (q : Int) by omega, wrap_u64_nat, Nat.mod_eq_of_lt (by omega)]
            have elt : decide ((q : Int) < (k : Int)) = false := decide_eq_false (by omega)
            have hm' : (∀ b ∈ s, isHex b = true) → hexV s < 4294967296 → q = hexV (s.take (i + 1)) := fun h1 h2 => by
              have := hv h1 h2
              have h3 := hdn (hhex h1)
              rw [hxt, hexV_snoc, ← this, ← h3]
              omega
            by_cases hr : q ≤ mx
            · have emax : decide ((q : Int) > (mx : Int)) = false := decide_eq_false (by omega)
              push_cast -dsimp (maxSteps := 4000000) [cx, ed, ecut, e16, e16', ek, ed64, eq, elt, emax, ef, edn, edn2]
              exact ⟨⟨by omega, by omega⟩, ⟨i + 1, q, rfl, rfl, by omega, hr, hm', hbx, hBx⟩, by rw [h101]; simp only [intOf]; omega⟩
            · have emax : decide ((q : Int) > (mx : Int)) = true := decide_eq_true (by omega)
              push_cast -dsimp (maxSteps := 4000000) [cx, ed, ecut, e16, e16', ek, ed64, eq, elt, emax, ef, edn, edn2]
              refine ⟨⟨mx, _, rfl, by omega, .inr (.inl rfl), fun n hn h => ?_⟩, hbx⟩
              have h1 := hm' (by rw [h]; exact hexP_all hn) (by rw [h, hexP_val hn]; exact hn)
              have h2 := hexV_take s (i + 1)
              have h3 := hexP_val hn
              rw [← h] at h3
              omega
          · have ed : decide ((dn : Int) ≥ 16) = true := decide_eq_true (by omega)
            push_cast -dsimp (maxSteps := 4000000) [cx, ed, e16, ef, edn, edn2]
            refine ⟨⟨0, _, rfl, by omega, .inr (.inr rfl), fun n hn h => ?_⟩, hbx⟩
            have h3 := hdn (hhex (by rw [h]; exact hexP_all hn))
            have h4 := hhex (by rw [h]; exact hexP_all hn)
            rw [hisx, Bool.or_eq_true, Bool.and_eq_true, Bool.and_eq_true, decide_eq_true_eq, decide_eq_true_eq, decide_eq_true_eq, decide_eq_true_eq] at h4
            rw [hdvx] at h3
            split at h3 <;> omega
        · by_cases h95 : b = 95
          · have := hl4 h95
            have e95 : decide ((b : Int) = 95) = true := decide_eq_true (by omega)
            have e1 : decide (48 ≤ (b : Int)) = true := decide_eq_true (by omega)
            have e2 : decide ((b : Int) ≤ 57) = false := decide_eq_false (by omega)
            have e3 : decide (97 ≤ (lo : Int)) = true := decide_eq_true (by omega)
            have e4 : decide ((lo : Int) ≤ 122) = false := decide_eq_false (by omega)
            push_cast -dsimp (maxSteps := 4000000) [cx, e95, e1, e2, ef]
            refine callK_of (lower_c (b : Int) wx) ?_
            rintro _ w2 ⟨rfl, rfl⟩
            rw [hl]
            push_cast -dsimp (maxSteps := 4000000) [e3, ef]
            refine callK_of (lower_c (b : Int) w2) ?_
            rintro _ w3 ⟨rfl, rfl⟩
            rw [hl]
            push_cast -dsimp (maxSteps := 4000000) [e4, ef]
            refine ⟨⟨0, _, rfl, by omega, .inr (.inr rfl), fun n hn h => ?_⟩, hbx⟩
            have := hhex (by rw [h]; exact hexP_all hn)
            rw [hisx, Bool.or_eq_true, Bool.and_eq_true, Bool.and_eq_true, decide_eq_true_eq, decide_eq_true_eq, decide_eq_true_eq, decide_eq_true_eq] at this
            omega
          · rcases Nat.lt_or_ge b 48 with h48 | h48
            · have := hl3 h48
              have e95 : decide ((b : Int) = 95) = false := decide_eq_false (by omega)
              have e1 : decide (48 ≤ (b : Int)) = false := decide_eq_false (by omega)
              have e2 : decide ((b : Int) ≤ 57) = true := decide_eq_true (by omega)
              have e3 : decide (97 ≤ (lo : Int)) = false := decide_eq_false (by omega)
              push_cast -dsimp (maxSteps := 4000000) [cx, e95, e1, e2, ef]
              refine callK_of (lower_c (b : Int) wx) ?_
              rintro _ w2 ⟨rfl, rfl⟩
              rw [hl]
              push_cast -dsimp (maxSteps := 4000000) [e3, ef]
              refine ⟨⟨0, _, rfl, by omega, .inr (.inr rfl), fun n hn h => ?_⟩, hbx⟩
              have := hhex (by rw [h]; exact hexP_all hn)
              rw [hisx, Bool.or_eq_true, Bool.and_eq_true, Bool.and_eq_true, decide_eq_true_eq, decide_eq_true_eq, decide_eq_true_eq, decide_eq_true_eq] at this
              omega
            · rcases Nat.lt_or_ge lo 97 with h97 | h97
              · skip
                have e95 : decide ((b : Int) = 95) = false := decide_eq_false (by omega)
                have e1 : decide (48 ≤ (b : Int)) = true := decide_eq_true (by omega)
                have e2 : decide ((b : Int) ≤ 57) = false := decide_eq_false (by omega)
                have e3 : decide (97 ≤ (lo : Int)) = false := decide_eq_false (by omega)
                push_cast -dsimp (maxSteps := 4000000) [cx, e95, e1, e2, ef]
                refine callK_of (lower_c (b : Int) wx) ?_
                rintro _ w2 ⟨rfl, rfl⟩
                rw [hl]
                push_cast -dsimp (maxSteps := 4000000) [e3, ef]
                refine ⟨⟨0, _, rfl, by omega, .inr (.inr rfl), fun n hn h => ?_⟩, hbx⟩
                have := hhex (by rw [h]; exact hexP_all hn)
                rw [hisx, Bool.or_eq_true, Bool.and_eq_true, Bool.and_eq_true, decide_eq_true_eq, decide_eq_true_eq, decide_eq_true_eq, decide_eq_true_eq] at this
                omega
              · skip
                have e95 : decide ((b : Int) = 95) = false := decide_eq_false (by omega)
                have e1 : decide (48 ≤ (b : Int)) = true := decide_eq_true (by omega)
                have e2 : decide ((b : Int) ≤ 57) = false := decide_eq_false (by omega)
                have e3 : decide (97 ≤ (lo : Int)) = true := decide_eq_true (by omega)
                have e4 : decide ((lo : Int) ≤ 122) = false := decide_eq_false (by omega)
                push_cast -dsimp (maxSteps := 4000000) [cx, e95, e1, e2, ef]
                refine callK_of (lower_c (b : Int) wx) ?_
                rintro _ w2 ⟨rfl, rfl⟩
                rw [hl]
                push_cast -dsimp (maxSteps := 4000000) [e3, ef]
                refine callK_of (lower_c (b : Int) w2) ?_
                rintro _ w3 ⟨rfl, rfl⟩
                rw [hl]
                push_cast -dsimp (maxSteps := 4000000) [e4, ef]
                refine ⟨⟨0, _, rfl, by omega, .inr (.inr rfl), fun n hn h => ?_⟩, hbx⟩
                have := hhex (by rw [h]; exact hexP_all hn)
                rw [hisx, Bool.or_eq_true, Bool.and_eq_true, Bool.and_eq_true, decide_eq_true_eq, decide_eq_true_eq, decide_eq_true_eq, decide_eq_true_eq] at this
                omega
    · refine ⟨⟨m, _, rfl, by omega, .inl rfl, fun n hn h => ⟨?_, rfl⟩⟩, hbx⟩
      have := hv (by rw [h]; exact hexP_all hn) (by rw [h, hexP_val hn]; exact hn)
      rw [this, List.take_of_length_le (by omega), h, hexP_val hn]
end Go.Proofs.YtiofleijieepgaaGreatDoor
end
section
set_option linter.unusedSimpArgs false
set_option linter.unusedVariables false
namespace Cae
/-- A set that is written so. -/
def PrintOf (s : List UInt8) (l : List Rg) : Prop := setRight (-2) l = true ∧ printP l = s
theorem hex_no {n : Nat} (hn : n < 4294967296) {c : UInt8} (hc : isHex c = false) : (hexP n).contains c = false := by
  cases h : (hexP n).contains c with
  | false => rfl
  | true =>
    have hm : c ∈ hexP n := by simpa using h
    have := hexP_all hn c hm
    rw [hc] at this; cases this
theorem contains_app (a b : List UInt8) (c : UInt8) : (a ++ b).contains c = (a.contains c || b.contains c) := by
  induction a with
  | nil => simp
  | cons x a ih => rw [List.cons_append, List.contains_cons, List.contains_cons, ih, Bool.or_assoc]
theorem rgP_no {r : Rg} (h0 : 0 ≤ r.1) (h1 : r.1 < 4294967296) (h2 : r.2 < 4294967296) : (rgP r).contains 32 = false := by
  unfold rgP
  rw [contains_app, hex_no (by omega) (by rfl)]
  split
  · rw [List.contains_cons, hex_no (by omega) (by rfl)]; rfl
  · rfl
theorem rgP_ne (r : Rg) : rgP r ≠ [] := by
  unfold rgP
  intro h
  exact hexP_ne _ (List.append_eq_nil_iff.1 h).1
theorem tw_app {c : UInt8} : ∀ {a b : List UInt8}, a.contains c = false → (a ++ c :: b).takeWhile (· != c) = a ∧ (a ++ c :: b).dropWhile (· != c) = c :: b
  | [], b, _ => by simp
  | x :: a, b, h => by
    rw [List.contains_cons, Bool.or_eq_false_iff] at h
    have h1 : (x != c) = true := by have := h.1; simp at this; simp; exact fun e => this e.symm
    have ih := tw_app (b := b) h.2
    rw [List.cons_append, List.takeWhile_cons, List.dropWhile_cons, if_pos h1, if_pos h1, ih.1, ih.2]
    exact ⟨rfl, rfl⟩
theorem split_no {c : UInt8} {a : List UInt8} (h : a.contains c = false) : splitB c a = [a] := by
  rw [splitB_eq, h, tw_all h]; rfl
theorem split_app {c : UInt8} {a b : List UInt8} (h : a.contains c = false) : splitB c (a ++ c :: b) = a :: splitB c b := by
  rw [splitB_eq, (tw_app h).1, (tw_app h).2]
  have : (a ++ c :: b).contains c = true := by rw [contains_app]; simp
  rw [if_pos this]; rfl
theorem split_join {c : UInt8} : ∀ (x : List UInt8) (l : List (List UInt8)), (∀ p ∈ x :: l, p.contains c = false) → splitB c (Go.Lib.join (x :: l) [c]) = x :: l
  | x, [], h => by rw [Go.Lib.join_one]; exact split_no (h x (by simp))
  | x, y :: l, h => by
    have e : Go.Lib.join (x :: y :: l) [c] = x ++ c :: Go.Lib.join (y :: l) [c] := by
      rw [Go.Lib.join_cons, Go.Lib.join_cons]
      simp [Go.Lib.joinTail]
    rw [e, split_app (h x (by simp)), split_join y l (fun p hp => h p (List.mem_cons_of_mem _ hp))]
theorem cut_rg {r : Rg} (h0 : 0 ≤ r.1) (h1 : r.1 < 4294967296) (h2 : r.2 < 4294967296) (hlt : r.1 < r.2) : cutP 45 (rgP r) = (hexP r.1.toNat, hexP r.2.toNat, true) := by
  have hn := hex_no (n := r.1.toNat) (c := 45) (by omega) (by rfl)
  have e : rgP r = hexP r.1.toNat ++ 45 :: hexP r.2.toNat := by unfold rgP; rw [if_pos hlt]
  unfold cutP
  rw [e, (tw_app hn).1, (tw_app hn).2, contains_app]
  simp
theorem cut_rg1 {r : Rg} (h0 : 0 ≤ r.1) (h1 : r.1 < 4294967296) (hlt : ¬ r.1 < r.2) : cutP 45 (rgP r) = (hexP r.1.toNat, [], false) := by
  have hn := hex_no (n := r.1.toNat) (c := 45) (by omega) (by rfl)
  have e : rgP r = hexP r.1.toNat := by unfold rgP; rw [if_neg hlt, List.append_nil]
  unfold cutP
  rw [e, hn]; rfl
theorem mem_right : ∀ {s : List Rg} {a : Int}, -2 ≤ a → setRight a s = true → ∀ r ∈ s, 0 ≤ r.1 ∧ r.1 ≤ r.2 ∧ r.2 ≤ 1114111
  | [], _, _, _ => fun r hr => by cases hr
  | q :: s, a, ha, h => by
    rw [setRight_con] at h
    intro r hr
    rcases List.mem_cons.1 hr with rfl | hr
    · omega
    · exact mem_right (by omega) h.2 r hr
/-- The text between [ and ]. -/
def bodyP (l : List Rg) : List UInt8 := Go.Lib.join (l.map rgP) [32]
theorem bodyP_nil {l : List Rg} (h : bodyP l = []) : l = [] := by
  cases l with
  | nil => rfl
  | cons r l =>
    unfold bodyP at h
    rw [List.map_cons, Go.Lib.join_cons] at h
    exact absurd (List.append_eq_nil_iff.1 h).1 (rgP_ne r)
theorem split_body {l : List Rg} (h : setRight (-2) l = true) (hne : bodyP l ≠ []) : splitB 32 (bodyP l) = l.map rgP := by
  cases l with
  | nil => exact absurd rfl hne
  | cons r l =>
    unfold bodyP
    rw [List.map_cons]
    refine split_join _ _ fun p hp => ?_
    rw [← List.map_cons] at hp
    obtain ⟨q, hq, rfl⟩ := List.mem_map.1 hp
    have := mem_right (by omega) h q hq
    exact rgP_no (by omega) (by omega) (by omega)
theorem print_pre {s : List UInt8} {l : List Rg} (h : PrintOf s l) : Go.Lib.hasPrefix s [91] = true ∧ Go.Lib.hasSuffix (Go.Lib.trimPrefix s [91]) [93] = true ∧ Go.Lib.trimSuffix (Go.Lib.trimPrefix s [91]) [93] = bodyP l := by
  obtain ⟨hr, rfl⟩ := h
  have h1 : Go.Lib.hasPrefix (printP l) [91] = true := by simp [Go.Lib.hasPrefix, printP]
  have h2 : Go.Lib.trimPrefix (printP l) [91] = bodyP l ++ [93] := by
    unfold Go.Lib.trimPrefix; rw [h1]; rfl
  have h3 : Go.Lib.hasSuffix (bodyP l ++ [93]) [93] = true := by
    unfold Go.Lib.hasSuffix
    rw [List.isSuffixOf_iff_suffix]
    exact ⟨bodyP l, rfl⟩
  rw [h2]
  refine ⟨h1, h3, ?_⟩
  unfold Go.Lib.trimSuffix
  rw [h3, if_pos rfl]
  simp
theorem print_inj {l l' : List Rg} (h : setRight (-2) l = true) (h' : setRight (-2) l' = true) (e : printP l = printP l') : l = l' := by
  have h1 := (print_pre ⟨h, rfl⟩).2.2
  have h2 := (print_pre ⟨h', rfl⟩).2.2
  rw [e, h2] at h1
  by_cases hb : bodyP l = []
  · rw [bodyP_nil hb, bodyP_nil (h1.trans hb)]
  · have s1 := split_body h hb
    have s2 := split_body h' (by rw [h1]; exact hb)
    rw [h1, s1] at s2
    have inj : ∀ (a b : List Rg), (∀ r ∈ a, 0 ≤ r.1 ∧ r.1 ≤ r.2 ∧ r.2 ≤ 1114111) → (∀ r ∈ b, 0 ≤ r.1 ∧ r.1 ≤ r.2 ∧ r.2 ≤ 1114111) → a.map rgP = b.map rgP → a = b := by
      intro a
      induction a with
      | nil => intro b _ _ hh; cases b with | nil => rfl | cons q b => cases hh
      | cons r a ih =>
        intro b ha hb hh
        cases b with
        | nil => cases hh
        | cons q b =>
          rw [List.map_cons, List.map_cons] at hh
          have hrq := List.cons.inj hh
          have hr := ha r (by simp)
          have hq := hb q (by simp)
          have : r = q := by
            have hc := congrArg (cutP 45) hrq.1
            by_cases l1 : r.1 < r.2 <;> by_cases l2 : q.1 < q.2
            · rw [cut_rg (by omega) (by omega) (by omega) l1, cut_rg (by omega) (by omega) (by omega) l2] at hc
              have c1 := hexP_inj (by omega) (by omega) (Prod.mk.inj hc).1
              have c2 := hexP_inj (by omega) (by omega) (Prod.mk.inj (Prod.mk.inj hc).2).1
              exact Prod.ext (by omega) (by omega)
            · rw [cut_rg (by omega) (by omega) (by omega) l1, cut_rg1 (by omega) (by omega) l2] at hc
              cases (Prod.mk.inj (Prod.mk.inj hc).2).2
            · rw [cut_rg1 (by omega) (by omega) l1, cut_rg (by omega) (by omega) (by omega) l2] at hc
              cases (Prod.mk.inj (Prod.mk.inj hc).2).2
            · rw [cut_rg1 (by omega) (by omega) l1, cut_rg1 (by omega) (by omega) l2] at hc
              have c1 := hexP_inj (by omega) (by omega) (Prod.mk.inj hc).1
              exact Prod.ext (by omega) (by omega)
          subst this
          rw [ih b (fun r hr => ha r (by simp [hr])) (fun r hr => hb r (by simp [hr])) hrq.2]
    exact inj l l' (mem_right (by omega) h) (mem_right (by omega) h') s2
theorem round_plain {body x : List UInt8} {pre : List (List UInt8)} {l : List Rg} (h : setRight (-2) l = true) (hb : body = bodyP l) (hne : body ≠ []) (hp : pre ++ [x] <+: splitB 32 body) : ∃ r, l[pre.length]? = some r ∧ x = rgP r ∧ 0 ≤ r.1 ∧ r.1 ≤ r.2 ∧ r.2 ≤ 1114111 := by
  subst hb
  rw [split_body h hne] at hp
  obtain ⟨rest, hr⟩ := hp
  have h1 : (l.map rgP)[pre.length]? = some x := by rw [← hr, List.append_assoc]; simp
  rw [List.getElem?_map] at h1
  cases hl : l[pre.length]? with
  | none => rw [hl] at h1; cases h1
  | some r =>
    rw [hl] at h1
    cases h1
    exact ⟨r, rfl, rfl, mem_right (by omega) h r (List.mem_of_getElem? hl)⟩
end Cae
end
