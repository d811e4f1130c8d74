import Derived.Test.YtplbgmoeannobaaGreatDoorPpar
import Derived.Test.YtplbgmoeannobaaGreatDoorSpl
import Derived.Test.YtplbgmoeannobaaGreatDoorPin2
namespace Go.Proofs.YtplbgmoeannobaaGreatDoor
open Go.Vc Go.Proofs Go.RowKit Cae
set_option maxRecDepth 100000
set_option linter.unusedSimpArgs false
set_option linter.unusedVariables false
attribute [local irreducible] wpL callK valK unitK runK Fun Sl Own vc vcOps opK pureK
set_option maxHeartbeats 8000000

/-- What Parse hands back. -/
def ParseR (B : Nat) (s : List UInt8) (r : Value) (w : World) : Prop :=
  (∃ v l, r = .tuple #[v, .nilIface] ∧ Go.Vc.Own B 42 2 encR w v l ∧ PrintOf s l) ∨ ((∀ l, ¬ PrintOf s l) ∧ r = .tuple #[.slice none 0 0, .iface 31 (.int .i64 3)])
/-- Between two rounds. -/
def ParI (sz : Nat) (w : World) (s body : List UInt8) (pre : List (List UInt8)) (W : World) : Prop :=
  ∃ v out, Blk W sz 24 [.slice none 0 0] ∧ Blk W (sz + 1) 35 [.nilIface] ∧ Blk W (sz + 2) 9 [str body] ∧ Blk W (sz + 3) 24 [v] ∧ Go.Vc.Own (sz + 9) 42 2 encR W v out ∧ out.length = pre.length ∧ (body = [] → out = []) ∧ (∀ l, PrintOf s l → out = l.take pre.length) ∧ Below sz w W
/-- Where a round has left the loop. -/
def ParX (sz : Nat) (w : World) (s body : List UInt8) (c : Code) (pre : List (List UInt8)) (W : World) : Prop :=
  (c = .ret ∧ Blk W sz 24 [.slice none 0 0] ∧ Blk W (sz + 1) 35 [.iface 31 (.int .i64 3)] ∧ (∀ l, ¬ PrintOf s l) ∧ Below sz w W) ∨ (c = .exit 0 ∧ body = [] ∧ ParI sz w s body [] W)
theorem ParI.kept {sz : Nat} {w W W' : World} {s body : List UInt8} {pre : List (List UInt8)} (hw : sz = w.heap.size) (h : ParI sz w s body pre W) (hk : Kept (fun k => k = sz + 4 ∨ k = sz + 7 ∨ k = sz + 7 + 1) W W') : ParI sz w s body pre W' := by
  obtain ⟨v, out, h1, h2, h3, h4, h5, h6, h7, h8, h9⟩ := h
  exact ⟨v, out, h1.kept hk (by omega), h2.kept hk (by omega), h3.kept hk (by omega), h4.kept hk (by omega), h5.keptX hk (fun g hg hh => by have := (h5.block g hg).1; omega), h6, h7, h8, h9.trans (hk.below (by have := h9.size; omega) (fun i h => by omega))⟩
theorem ParX.kept {sz : Nat} {w W W' : World} {s body : List UInt8} {c : Code} {pre : List (List UInt8)} (hw : sz = w.heap.size) (h : ParX sz w s body c pre W) (hk : Kept (fun k => k = sz + 4 ∨ k = sz + 7 ∨ k = sz + 7 + 1) W W') : ParX sz w s body c pre W' := by
  rcases h with ⟨h0, h1, h2, h3, h9⟩ | ⟨h0, h1, h2⟩
  · exact .inl ⟨h0, h1.kept hk (by omega), h2.kept hk (by omega), h3, h9.trans (hk.below (by have := h9.size; omega) (fun i h => by omega))⟩
  · exact .inr ⟨h0, h1, h2.kept hw hk⟩
theorem parse_end {w W : World} {s : List UInt8} {r1 r2 : Value} {D : Nat} (hD : D = w.heap.size + 7) (P1 : Blk W w.heap.size 24 [r1]) (P2 : Blk W (w.heap.size + 1) 35 [r2]) (hDW : W.heap[D]? = some (.deferred (some []))) (hb : Below w.heap.size w W)
    (hR : ParseR w.heap.size s (.tuple #[r1, r2]) (W.putObj D (.deferred none))) {t : Fr} (h2 : t.getD 2 undef = .pointer (some ⟨w.heap.size, 0, none⟩)) (h3 : t.getD 3 undef = .pointer (some ⟨w.heap.size + 1, 0, none⟩)) :
    bodyPostM Fence.wide 0 Tryz.prog Tryz.f20 (fun e w' => ∃ v, e = .returned v ∧ ParseR w.heap.size s v w' ∧ Below w.heap.size w w') .ret ⟨t.toArray, [{ target := .collected D, args := #[] }]⟩ W := by
  have hk := keptPut (X := fun k => k = D) W D (.deferred none) rfl
  have Q1 := P1.kept hk (by omega)
  have Q2 := P2.kept hk (by omega)
  refine leaveD (rs := [.cell 2 24, .cell 3 35]) (by rfl) hDW ?_
  have d1 : (W.putObj D (.deferred none)).cell? ⟨w.heap.size, 0, none⟩ = some r1 := Q1.cell rfl
  have d2 : (W.putObj D (.deferred none)).cell? ⟨w.heap.size + 1, 0, none⟩ = some r2 := Q2.cell rfl
  have hgW : ∃ V, W.putObj D (.deferred none) = V := ⟨_, rfl⟩
  obtain ⟨V, hV⟩ := hgW
  rw [hV] at d1 d2 hR hk ⊢
  push_cast -dsimp [h2, h3, d1, d2]
  exact ⟨hR, hb.trans (hk.below hb.size (fun i h => by omega))⟩
theorem parse_c (s : List UInt8) (hs : s.length ≤ 1000000) (w : World) (hd : Db w) (he : SErrs w) : Fun Tryz.prog 20 [str s] w fun r w' => ParseR w.heap.size s r w' ∧ Below w.heap.size w w' := by
  refine fun_of_in Tryz.func20 rfl (by kernel_rfl) ?_
  simp -dsimp (maxSteps := 4000000) only [push_cast, fr0, Tryz.ntmps20, List.length_cons, List.length_nil, Nat.reduceAdd, Nat.reduceSub, Nat.reduceBEq, List.replicate_succ, List.replicate_zero]
  refine seqIn (ro := none) (by rfl) ?_
  push_cast -dsimp
  refine allocK (z := [.slice none 0 0]) (by kernel_rfl) ?_
  intro w1 hw1
  have sz1 := hw1.size
  have B1 := hw1.blk
  have b1 := hw1.below
  push_cast -dsimp
  refine allocK (z := [.nilIface]) (by kernel_rfl) ?_
  intro w2 hw2
  have sz2 := hw2.size
  have B12 := B1.below hw2.below (by omega)
  have B22 := hw2.blk
  have b2 := b1.trans (hw2.below.mono (by omega))
  rw [sz1] at B22
  push_cast -dsimp [sz1]
  refine seqIn (ro := none) (by rfl) ?_
  push_cast -dsimp
  refine callK_of (cutPre_c s [91] w2) ?_
  rintro _ w2' ⟨rfl, rfl⟩
  push_cast -dsimp
  refine allocK (z := [str []]) (by kernel_rfl) ?_
  intro w3 hw3
  have sz3 := hw3.size
  have B13 := B12.below hw3.below (by omega)
  have B23 := B22.below hw3.below (by omega)
  have B33 := hw3.blk
  have b3 := b2.trans (hw3.below.mono (by omega))
  have es2 : w2'.heap.size = w.heap.size + 2 := by omega
  rw [es2] at B33
  push_cast -dsimp [es2]
  refine storeK_of B33 (by simp) rfl ?_
  intro w4 hw4
  have sz4 : w4.heap.size = w3.heap.size := hw4.size
  have B14 := B13.kept hw4.kept (by omega)
  have B24 := B23.kept hw4.kept (by omega)
  have B34 : Blk w4 (w.heap.size + 2) 9 [str (Lib.trimPrefix s [91])] := hw4.blk
  have b4 := b3.trans (hw4.kept.below (B := w.heap.size) (by omega) (fun i h => by omega))
  have c34 : w4.cell? ⟨w.heap.size + 2, 0, none⟩ = some (str (Lib.trimPrefix s [91])) := B34.cell rfl
  have htl : (Lib.trimPrefix s [91]).length ≤ s.length := by
    unfold Lib.trimPrefix
    split
    · rw [List.length_drop]; omega
    · exact Nat.le_refl _
  push_cast -dsimp
  refine seqIn (ro := none) (by rfl) ?_
  push_cast -dsimp [c34]
  refine callK_of (cutSuf_c (Lib.trimPrefix s [91]) [93] (by omega) w4) ?_
  rintro _ w4' ⟨rfl, rfl⟩
  push_cast -dsimp
  refine storeK_of B34 (by simp) rfl ?_
  intro w5 hw5
  have sz5 : w5.heap.size = w4'.heap.size := hw5.size
  have B15 := B14.kept hw5.kept (by omega)
  have B25 := B24.kept hw5.kept (by omega)
  have hgb : ∃ body, Lib.trimSuffix (Lib.trimPrefix s [91]) [93] = body := ⟨_, rfl⟩
  obtain ⟨body, hbody⟩ := hgb
  have hbl : body.length ≤ s.length := by
    rw [← hbody]
    unfold Lib.trimSuffix
    split
    · rw [List.length_take]; omega
    · exact htl
  rw [hbody] at hw5
  rw [hbody]
  have B35 : Blk w5 (w.heap.size + 2) 9 [str body] := hw5.blk
  have b5 := b4.trans (hw5.kept.below (B := w.heap.size) (by omega) (fun i h => by omega))
  have c15 : w5.cell? ⟨w.heap.size, 0, none⟩ = some (.slice none 0 0) := B15.cell rfl
  have hgp : ∃ pf, Lib.hasPrefix s [91] = pf := ⟨_, rfl⟩
  obtain ⟨pf, hpf⟩ := hgp
  have hgq : ∃ sf, Lib.hasSuffix (Lib.trimPrefix s [91]) [93] = sf := ⟨_, rfl⟩
  obtain ⟨sf, hsf⟩ := hgq
  rw [hpf, hsf]
  push_cast -dsimp
  refine seqIn (ro := none) (by rfl) ?_
  cases hps : (pf && sf) with
  | false =>
    have hno : ∀ l, ¬ PrintOf s l := fun l h => by
      have := print_pre h
      rw [hpf, hsf] at this
      rw [this.1, this.2.1] at hps
      cases hps
    cases pf <;> cases sf <;> first | (cases hps; done) | skip
    all_goals
      push_cast -dsimp
      refine storeK_of B15 (by simp) rfl ?_
      intro w6 hw6
      have sz6 : w6.heap.size = w5.heap.size := hw6.size
      have B26 := B25.kept hw6.kept (by omega)
      have B16 : Blk w6 w.heap.size 24 [.slice none 0 0] := hw6.blk
      push_cast -dsimp
      refine storeK_of B26 (by simp) rfl ?_
      intro w7 hw7
      have B17 := B16.kept hw7.kept (by omega)
      have B27 : Blk w7 (w.heap.size + 1) 35 [.iface 31 (.int .i64 3)] := hw7.blk
      have b7 := (b5.trans (hw6.kept.below (B := w.heap.size) (by omega) (fun i h => by omega))).trans (hw7.kept.below (B := w.heap.size) (by omega) (fun i h => by omega))
      have d1 : w7.cell? ⟨w.heap.size, 0, none⟩ = some (.slice none 0 0) := B17.cell rfl
      have d2 : w7.cell? ⟨w.heap.size + 1, 0, none⟩ = some (.iface 31 (.int .i64 3)) := B27.cell rfl
      push_cast -dsimp
      refine leave0 (rs := [.cell 2 24, .cell 3 35]) (by rfl) ?_
      push_cast -dsimp [d1, d2]
      exact ⟨.inr ⟨hno, rfl⟩, b7⟩
  | true =>
    cases pf <;> cases sf <;> first | (cases hps; done) | skip
    push_cast -dsimp
    refine seqIn (ro := none) (by rfl) ?_
    push_cast -dsimp
    refine allocK (z := [.slice none 0 0]) (by kernel_rfl) ?_
    intro w6 hw6
    have sz6 := hw6.size
    have B16 := B15.below hw6.below (by omega)
    have B26 := B25.below hw6.below (by omega)
    have B36 := B35.below hw6.below (by omega)
    have B46 := hw6.blk
    have b6 := b5.trans (hw6.below.mono (by omega))
    have es5 : w5.heap.size = w.heap.size + 3 := by omega
    rw [es5] at B46
    have c36 : w6.cell? ⟨w.heap.size + 2, 0, none⟩ = some (str body) := B36.cell rfl
    push_cast -dsimp [es5]
    refine wpIn_seq (seqIn (ro := none) (by rfl) ?_)
    push_cast -dsimp [c36]
    refine callK_of (splitSeqs_c body 32 w6) ?_
    rintro _ w7 ⟨rfl, hS, hP, hV, sz7, hb7⟩
    have es6 : w6.heap.size = w.heap.size + 4 := by omega
    rw [es6] at hS hP hV
    have B17 := B16.below hb7 (by omega)
    have B27 := B26.below hb7 (by omega)
    have B37 := B36.below hb7 (by omega)
    have B47 := B46.below hb7 (by omega)
    have b7 := b6.trans (hb7.mono (by omega))
    push_cast -dsimp [es6]
    have es7 : w7.heap.size = w.heap.size + 7 := by omega
    have hS7 : Blk w7 (w.heap.size + 4) 9 [str body] := hS
    refine wpIn_block (rangeV (α := List UInt8) (gf := 103) (lb := [.pointer (some ⟨w.heap.size + 4 + 1, 0, none⟩), .pointer (some ⟨w.heap.size + 4, 0, none⟩), .pointer (some ⟨w.heap.size + 4 + 2, 0, none⟩)]) (by rfl) (fun args w => callFunc_enter Tryz.func103 (by kernel_rfl) (by kernel_rfl)) (en := fun x => str x) (B := fun k => k = w.heap.size + 4) (Z := fun k => k = w.heap.size + 4 ∨ k = w.heap.size + 4 + 1 ∨ k = w.heap.size + 4 + 2)
      (fun k hk => by omega) (fun k hk => by omega) (split_it body 32 (by omega) _ _ _ _ (by omega) (by omega) w7 hS hP hV) (ParI w.heap.size w s body) (ParX w.heap.size w s body) (fun p W W' h hk => h.kept rfl (by rw [es7] at hk; exact hk)) (fun c p W W' h hk => h.kept rfl (by rw [es7] at hk; exact hk)) ?_ 8 (by rfl) (by rfl) ?_ ?_ ?_ ?_)
    · exact ⟨_, [], B17, B27, B37, B47, Go.Vc.Own.nil (enc := encR) _ _ (fun _ => rfl) _, rfl, fun _ => rfl, fun l _ => rfl, b7⟩
    · intro x W
      push_cast -dsimp
    · intro pre x W hI hA hWs
      obtain ⟨v, out, P1, P2, P3, P4, ho, hol, hob, hol2, hbB⟩ := hI
      have hbs := hbB.size
      have cb : W.cell? ⟨w.heap.size + 2, 0, none⟩ = some (str body) := P3.cell rfl
      have hxm : x ∈ splitB 32 body := hA.subset (by simp)
      have hxl := splitB_mem 32 body x hxm
      have hpreL : pre.length ≤ body.length := by
        have h1 := hA.length_le
        have h2 := splitB_len 32 body
        rw [List.length_append, List.length_singleton] at h1
        omega
      have hpl : ∀ l, PrintOf s l → setRight (-2) l = true ∧ body = bodyP l := fun l hl => ⟨hl.1, by rw [← hbody]; exact (print_pre hl).2.2⟩
      push_cast -dsimp [cb]
      refine ⟨fun hbe => ?_, fun hbne => ?_⟩
      · have hoe := hob hbe
        subst hoe
        exact ⟨Nat.le_refl _, .inr ⟨rfl, hbe, v, [], P1, P2, P3, P4, ho, rfl, fun _ => rfl, fun l _ => rfl, hbB⟩⟩
      · refine callK_of (cut_c x 45 (by omega) W) ?_
        rintro _ w8 ⟨rfl, hb8⟩
        have hgc : ∃ a b two, cutP 45 x = (a, b, two) := ⟨_, _, _, rfl⟩
        obtain ⟨a, b, two, hcut⟩ := hgc
        have hcl := cutP_len 45 x
        rw [hcut] at hcl
        rw [hcut]
        obtain ⟨hla, hlb⟩ := hcl
        dsimp only at hla hlb
        cases two with
        | true =>
          have hcp : ∀ l, PrintOf s l → ∃ r, l[pre.length]? = some r ∧ 0 ≤ r.1 ∧ r.1 ≤ r.2 ∧ r.2 ≤ 1114111 ∧ a = hexP r.1.toNat ∧ b = hexP r.2.toNat := fun l hl => by
            obtain ⟨hr, hbb⟩ := hpl l hl
            obtain ⟨r, hr1, hr0, hr2, hr3, hr4⟩ := round_plain hr hbb hbne hA
            rw [hr0] at hcut
            by_cases hlt : r.1 < r.2
            · rw [cut_rg (by omega) (by omega) (by omega) hlt] at hcut
              exact ⟨r, hr1, hr2, hr3, hr4, (Prod.mk.inj hcut).1.symm, (Prod.mk.inj (Prod.mk.inj hcut).2).1.symm⟩
            · rw [cut_rg1 (by omega) (by omega) hlt] at hcut
              cases (Prod.mk.inj (Prod.mk.inj hcut).2).2
          push_cast -dsimp
          refine callK_of (parseInt_c 32 (.inl rfl) a (by omega) w8 (he.below (hbB.trans (hb8.mono hbs)))) ?_
          rintro _ w9 ⟨⟨v1, e1, rfl, he1, hx1⟩, hb9⟩
          push_cast -dsimp
          refine callK_of (parseInt_c 32 (.inl rfl) b (by omega) w9 (he.below (hbB.trans ((hb8.tr hb9).mono hbs)))) ?_
          rintro _ w10 ⟨⟨v2, e2, rfl, he2, hx2⟩, hb10⟩
          have hb10' := (hb8.tr hb9).tr hb10
          have Q1 := P1.below hb10' (by omega)
          have Q2 := P2.below hb10' (by omega)
          have Q3 := P3.below hb10' (by omega)
          have Q4 := P4.below hb10' (by omega)
          have hoq := ho.below hb10'
          have hbq := hbB.trans (hb10'.mono hbs)
          have hWq := hb10'.size
          have hkq : Kept (fun _ => False) W w10 := Kept.of_below hb10' (fun i h1 h2 => by omega)
          have hval : ∀ l, PrintOf s l → ∃ r, l[pre.length]? = some r ∧ v1 = r.1 ∧ v2 = r.2 ∧ e1 = .nilIface ∧ e2 = .nilIface := fun l hl => by
            obtain ⟨r, hr1, hr2, hr3, hr4, ha1, ha2⟩ := hcp l hl
            have h1 := hx1 _ (by omega) ha1
            have h2 := hx2 _ (by omega) ha2
            exact ⟨r, hr1, by rw [h1.1]; omega, by rw [h2.1]; omega, h1.2, h2.2⟩
          by_cases hee : e1 = .nilIface ∧ e2 = .nilIface
          · obtain ⟨rfl, rfl⟩ := hee
            have cv : w10.cell? ⟨w.heap.size + 3, 0, none⟩ = some v := Q4.cell rfl
            have hsh := hoq.slice
            obtain ⟨oa, oc, rfl⟩ := hsh
            push_cast -dsimp [cv]
            refine rowK elI_24 rfl rfl (by omega) ?_
            intro w11 hw11
            have sz11 := hw11.size
            have ho11 := hoq.new hw11
            have R4 := Q4.below hw11.below (by omega)
            push_cast -dsimp
            refine appendK2 (base := w.heap.size + 9) [(v1, v2)] (enc := encR) elI_24 ho11 (by rfl) (fun j u hu => by simpa [encR] using hw11.cell hu) encR_one (by simp only [List.length_cons, List.length_nil]; omega) (by omega) ?_
            intro v12 w12 ho12 hg12 hn12
            have kg : Kept (fun j => (Value.slice oa out.length oc).ownBlock = some j) w11 w12 := Kept.grown hg12 (fun _ h => h)
            have hown := ho11.block
            have R5 : Blk w12 (w.heap.size + 3) 24 [.slice oa out.length oc] := R4.kept kg (fun h => by have := (hown _ h).1; omega)
            push_cast -dsimp
            have hsh := ho12.slice
            obtain ⟨va, vc, rfl⟩ := hsh
            refine storeK_of R5 (by simp) rfl ?_
            intro w13 hw13
            have k13 : Kept (fun j => j = w.heap.size + 3 ∨ (Value.slice oa out.length oc).ownBlock = some j) w10 w13 := ((Kept.new (X := fun j => j = w.heap.size + 3 ∨ (Value.slice oa out.length oc).ownBlock = some j) hw11).trans kg (fun _ _ h => .inr h)).trans hw13.kept (fun _ _ h => .inl h)
            have hlow : ∀ {k : Nat}, k = w.heap.size + 3 ∨ (Value.slice oa out.length oc).ownBlock = some k → w.heap.size + 9 ≤ k ∨ k = w.heap.size + 3 := fun h => by
              rcases h with h | h
              · exact .inr h
              · exact .inl (hown _ h).1
            have S1 := Q1.kept k13 (fun h => by have := hlow h; omega)
            have S2 := Q2.kept k13 (fun h => by have := hlow h; omega)
            have S3 := Q3.kept k13 (fun h => by have := hlow h; omega)
            have S4 : Blk w13 (w.heap.size + 3) 24 [.slice va (out ++ [(v1, v2)]).length vc] := hw13.blk
            have ho13 := ho12.keptX hw13.kept (fun g hg h => by have := (ho12.block g hg).1; omega)
            have hz : ∀ k, (k = w.heap.size + 4 ∨ k = w.heap.size + 4 + 1 ∨ k = w.heap.size + 4 + 2) ∨ k = w7.heap.size ∨ k = w7.heap.size + 1 → w13.heap[k]? = W.heap[k]? := fun k hk =>
              (k13.block k (by omega) (fun h => by have := hlow h; omega)).trans (hkq.block k (by omega) (fun h => h))
            have hend : ParI w.heap.size w s body (pre ++ [x]) w13 := ⟨_, out ++ [(v1, v2)], S1, S2, S3, S4, ho13, by rw [List.length_append, List.length_append, hol]; rfl, fun h => absurd h hbne, fun l hl => by
                obtain ⟨r, hr1, rfl, rfl, _, _⟩ := hval l hl
                have ht : l.take (pre ++ [x]).length = l.take pre.length ++ [r] := by
                  rw [List.length_append, List.length_singleton, List.take_add_one, hr1]; rfl
                rw [ht, ← hol2 l hl], hbq.trans (k13.below (B := w.heap.size) (by omega) (fun i h => by have := hlow h; omega))⟩
            have hsz13 : W.heap.size ≤ w13.heap.size := by have := k13.size; omega
            push_cast -dsimp
            exact ⟨hsz13, hz, hend⟩
          · have herr : ∀ l, ¬ PrintOf s l := fun l hl => by
              obtain ⟨r, _, _, _, h1, h2⟩ := hval l hl
              exact hee ⟨h1, h2⟩
            have fin : ∀ (w13 : World), Blk w13 w.heap.size 24 [.slice none 0 0] → Blk w13 (w.heap.size + 1) 35 [.iface 31 (.int .i64 3)] → Kept (fun k => k = w.heap.size ∨ k = w.heap.size + 1) w10 w13 → W.heap.size ≤ w13.heap.size ∧ (∀ k, (k = w.heap.size + 4 ∨ k = w.heap.size + 4 + 1 ∨ k = w.heap.size + 4 + 2) ∨ k = w7.heap.size ∨ k = w7.heap.size + 1 → w13.heap[k]? = W.heap[k]?) ∧ ParX w.heap.size w s body .ret (pre ++ [x]) w13 := fun w13 h1 h2 hk =>
              ⟨by have := hk.size; omega, fun k h => (hk.block k (by omega) (by omega)).trans (hkq.block k (by omega) (fun h => h)), .inl ⟨rfl, h1, h2, herr, hbq.trans (hk.below (by omega) (fun i h => by omega))⟩⟩
            rcases he1 with rfl | ⟨t1, x1, rfl⟩
            · rcases he2 with rfl | ⟨t2, x2, rfl⟩
              · exact absurd ⟨rfl, rfl⟩ hee
              · push_cast -dsimp
                refine storeK_of Q1 (by simp) rfl ?_
                intro w11 hw11
                have T2 := Q2.kept hw11.kept (by omega)
                have T1 : Blk w11 w.heap.size 24 [.slice none 0 0] := hw11.blk
                push_cast -dsimp
                refine storeK_of T2 (by simp) rfl ?_
                intro w12 hw12
                have U1 := T1.kept hw12.kept (by omega)
                have hfin := fin w12 U1 hw12.blk ((hw11.kept.weaken (fun i _ h => .inl h)).trans hw12.kept (fun i _ h => .inr h))
                push_cast -dsimp
                exact hfin
            · push_cast -dsimp
              refine storeK_of Q1 (by simp) rfl ?_
              intro w11 hw11
              have T2 := Q2.kept hw11.kept (by omega)
              have T1 : Blk w11 w.heap.size 24 [.slice none 0 0] := hw11.blk
              push_cast -dsimp
              refine storeK_of T2 (by simp) rfl ?_
              intro w12 hw12
              have U1 := T1.kept hw12.kept (by omega)
              have hfin := fin w12 U1 hw12.blk ((hw11.kept.weaken (fun i _ h => .inl h)).trans hw12.kept (fun i _ h => .inr h))
              push_cast -dsimp
              exact hfin
        | false =>
          have hcp : ∀ l, PrintOf s l → ∃ r, l[pre.length]? = some r ∧ 0 ≤ r.1 ∧ r.1 ≤ r.2 ∧ r.2 ≤ 1114111 ∧ a = hexP r.1.toNat ∧ a = hexP r.2.toNat := fun l hl => by
            obtain ⟨hr, hbb⟩ := hpl l hl
            obtain ⟨r, hr1, hr0, hr2, hr3, hr4⟩ := round_plain hr hbb hbne hA
            rw [hr0] at hcut
            by_cases hlt : r.1 < r.2
            · rw [cut_rg (by omega) (by omega) (by omega) hlt] at hcut
              cases (Prod.mk.inj (Prod.mk.inj hcut).2).2
            · rw [cut_rg1 (by omega) (by omega) hlt] at hcut
              have e2 : r.2 = r.1 := by omega
              exact ⟨r, hr1, hr2, hr3, hr4, (Prod.mk.inj hcut).1.symm, by rw [e2]; exact (Prod.mk.inj hcut).1.symm⟩
          push_cast -dsimp
          refine callK_of (parseInt_c 32 (.inl rfl) a (by omega) w8 (he.below (hbB.trans (hb8.mono hbs)))) ?_
          rintro _ w9 ⟨⟨v1, e1, rfl, he1, hx1⟩, hb9⟩
          push_cast -dsimp
          refine callK_of (parseInt_c 32 (.inl rfl) a (by omega) w9 (he.below (hbB.trans ((hb8.tr hb9).mono hbs)))) ?_
          rintro _ w10 ⟨⟨v2, e2, rfl, he2, hx2⟩, hb10⟩
          have hb10' := (hb8.tr hb9).tr hb10
          have Q1 := P1.below hb10' (by omega)
          have Q2 := P2.below hb10' (by omega)
          have Q3 := P3.below hb10' (by omega)
          have Q4 := P4.below hb10' (by omega)
          have hoq := ho.below hb10'
          have hbq := hbB.trans (hb10'.mono hbs)
          have hWq := hb10'.size
          have hkq : Kept (fun _ => False) W w10 := Kept.of_below hb10' (fun i h1 h2 => by omega)
          have hval : ∀ l, PrintOf s l → ∃ r, l[pre.length]? = some r ∧ v1 = r.1 ∧ v2 = r.2 ∧ e1 = .nilIface ∧ e2 = .nilIface := fun l hl => by
            obtain ⟨r, hr1, hr2, hr3, hr4, ha1, ha2⟩ := hcp l hl
            have h1 := hx1 _ (by omega) ha1
            have h2 := hx2 _ (by omega) ha2
            exact ⟨r, hr1, by rw [h1.1]; omega, by rw [h2.1]; omega, h1.2, h2.2⟩
          by_cases hee : e1 = .nilIface ∧ e2 = .nilIface
          · obtain ⟨rfl, rfl⟩ := hee
            have cv : w10.cell? ⟨w.heap.size + 3, 0, none⟩ = some v := Q4.cell rfl
            have hsh := hoq.slice
            obtain ⟨oa, oc, rfl⟩ := hsh
            push_cast -dsimp [cv]
            refine rowK elI_24 rfl rfl (by omega) ?_
            intro w11 hw11
            have sz11 := hw11.size
            have ho11 := hoq.new hw11
            have R4 := Q4.below hw11.below (by omega)
            push_cast -dsimp
            refine appendK2 (base := w.heap.size + 9) [(v1, v2)] (enc := encR) elI_24 ho11 (by rfl) (fun j u hu => by simpa [encR] using hw11.cell hu) encR_one (by simp only [List.length_cons, List.length_nil]; omega) (by omega) ?_
            intro v12 w12 ho12 hg12 hn12
            have kg : Kept (fun j => (Value.slice oa out.length oc).ownBlock = some j) w11 w12 := Kept.grown hg12 (fun _ h => h)
            have hown := ho11.block
            have R5 : Blk w12 (w.heap.size + 3) 24 [.slice oa out.length oc] := R4.kept kg (fun h => by have := (hown _ h).1; omega)
            push_cast -dsimp
            have hsh := ho12.slice
            obtain ⟨va, vc, rfl⟩ := hsh
            refine storeK_of R5 (by simp) rfl ?_
            intro w13 hw13
            have k13 : Kept (fun j => j = w.heap.size + 3 ∨ (Value.slice oa out.length oc).ownBlock = some j) w10 w13 := ((Kept.new (X := fun j => j = w.heap.size + 3 ∨ (Value.slice oa out.length oc).ownBlock = some j) hw11).trans kg (fun _ _ h => .inr h)).trans hw13.kept (fun _ _ h => .inl h)
            have hlow : ∀ {k : Nat}, k = w.heap.size + 3 ∨ (Value.slice oa out.length oc).ownBlock = some k → w.heap.size + 9 ≤ k ∨ k = w.heap.size + 3 := fun h => by
              rcases h with h | h
              · exact .inr h
              · exact .inl (hown _ h).1
            have S1 := Q1.kept k13 (fun h => by have := hlow h; omega)
            have S2 := Q2.kept k13 (fun h => by have := hlow h; omega)
            have S3 := Q3.kept k13 (fun h => by have := hlow h; omega)
            have S4 : Blk w13 (w.heap.size + 3) 24 [.slice va (out ++ [(v1, v2)]).length vc] := hw13.blk
            have ho13 := ho12.keptX hw13.kept (fun g hg h => by have := (ho12.block g hg).1; omega)
            have hz : ∀ k, (k = w.heap.size + 4 ∨ k = w.heap.size + 4 + 1 ∨ k = w.heap.size + 4 + 2) ∨ k = w7.heap.size ∨ k = w7.heap.size + 1 → w13.heap[k]? = W.heap[k]? := fun k hk =>
              (k13.block k (by omega) (fun h => by have := hlow h; omega)).trans (hkq.block k (by omega) (fun h => h))
            have hend : ParI w.heap.size w s body (pre ++ [x]) w13 := ⟨_, out ++ [(v1, v2)], S1, S2, S3, S4, ho13, by rw [List.length_append, List.length_append, hol]; rfl, fun h => absurd h hbne, fun l hl => by
                obtain ⟨r, hr1, rfl, rfl, _, _⟩ := hval l hl
                have ht : l.take (pre ++ [x]).length = l.take pre.length ++ [r] := by
                  rw [List.length_append, List.length_singleton, List.take_add_one, hr1]; rfl
                rw [ht, ← hol2 l hl], hbq.trans (k13.below (B := w.heap.size) (by omega) (fun i h => by have := hlow h; omega))⟩
            have hsz13 : W.heap.size ≤ w13.heap.size := by have := k13.size; omega
            push_cast -dsimp
            exact ⟨hsz13, hz, hend⟩
          · have herr : ∀ l, ¬ PrintOf s l := fun l hl => by
              obtain ⟨r, _, _, _, h1, h2⟩ := hval l hl
              exact hee ⟨h1, h2⟩
            have fin : ∀ (w13 : World), Blk w13 w.heap.size 24 [.slice none 0 0] → Blk w13 (w.heap.size + 1) 35 [.iface 31 (.int .i64 3)] → Kept (fun k => k = w.heap.size ∨ k = w.heap.size + 1) w10 w13 → W.heap.size ≤ w13.heap.size ∧ (∀ k, (k = w.heap.size + 4 ∨ k = w.heap.size + 4 + 1 ∨ k = w.heap.size + 4 + 2) ∨ k = w7.heap.size ∨ k = w7.heap.size + 1 → w13.heap[k]? = W.heap[k]?) ∧ ParX w.heap.size w s body .ret (pre ++ [x]) w13 := fun w13 h1 h2 hk =>
              ⟨by have := hk.size; omega, fun k h => (hk.block k (by omega) (by omega)).trans (hkq.block k (by omega) (fun h => h)), .inl ⟨rfl, h1, h2, herr, hbq.trans (hk.below (by omega) (fun i h => by omega))⟩⟩
            rcases he1 with rfl | ⟨t1, x1, rfl⟩
            · rcases he2 with rfl | ⟨t2, x2, rfl⟩
              · exact absurd ⟨rfl, rfl⟩ hee
              · push_cast -dsimp
                refine storeK_of Q1 (by simp) rfl ?_
                intro w11 hw11
                have T2 := Q2.kept hw11.kept (by omega)
                have T1 : Blk w11 w.heap.size 24 [.slice none 0 0] := hw11.blk
                push_cast -dsimp
                refine storeK_of T2 (by simp) rfl ?_
                intro w12 hw12
                have U1 := T1.kept hw12.kept (by omega)
                have hfin := fin w12 U1 hw12.blk ((hw11.kept.weaken (fun i _ h => .inl h)).trans hw12.kept (fun i _ h => .inr h))
                push_cast -dsimp
                exact hfin
            · push_cast -dsimp
              refine storeK_of Q1 (by simp) rfl ?_
              intro w11 hw11
              have T2 := Q2.kept hw11.kept (by omega)
              have T1 : Blk w11 w.heap.size 24 [.slice none 0 0] := hw11.blk
              push_cast -dsimp
              refine storeK_of T2 (by simp) rfl ?_
              intro w12 hw12
              have U1 := T1.kept hw12.kept (by omega)
              have hfin := fin w12 U1 hw12.blk ((hw11.kept.weaken (fun i _ h => .inl h)).trans hw12.kept (fun i _ h => .inr h))
              push_cast -dsimp
              exact hfin
    · intro xs W hS hI hD
      obtain ⟨v, out, P1, P2, P3, P4, ho, hol, hob, hol2, hbB⟩ := hI
      have hxl : xs.length ≤ body.length + 1 := by rw [hS]; exact splitB_len 32 body
      have hout : ∀ l, PrintOf s l → out = l := fun l hl => by
        have hbb : body = bodyP l := by rw [← hbody]; exact (print_pre hl).2.2
        by_cases hb0 : body = []
        · rw [hob hb0, bodyP_nil (hbb.symm.trans hb0)]
        · have hs2 : xs = l.map rgP := by rw [hS, hbb]; exact split_body hl.1 (by rw [← hbb]; exact hb0)
          rw [hol2 l hl, hs2, List.length_map, List.take_length]
      have hoL : out.length < 10000000 := by omega
      push_cast -dsimp
      refine seqIn (ro := none) (by rfl) ?_
      have c7 : W.cell? ⟨w.heap.size + 3, 0, none⟩ = some v := P4.cell rfl
      have hsh := ho.slice
      obtain ⟨va, vc, rfl⟩ := hsh
      push_cast -dsimp [c7]
      refine callK_of (setRight_c out (by omega) _ _ W ho.sl) ?_
      rintro _ w8 ⟨rfl, hb8⟩
      have hbs := hbB.size
      have l4 := P4.lt
      have E1 := P1.below hb8 (by omega)
      have E2 := P2.below hb8 (by omega)
      have E4 := P4.below hb8 (by omega)
      have ho8 := ho.below hb8
      have hbB8 := hbB.trans (hb8.mono hbs)
      have hD8 := (hb8.block w7.heap.size (Array.getElem?_eq_some_iff.1 hD).1).trans hD
      have c8 : w8.cell? ⟨w.heap.size + 3, 0, none⟩ = some (.slice va out.length vc) := E4.cell rfl
      cases hr : setRight (-2) out with
      | false =>
        have herr : ∀ l, ¬ PrintOf s l := fun l hl => by
          have := hout l hl
          subst this
          rw [hl.1] at hr; cases hr
        push_cast -dsimp
        refine storeK_of E1 (by simp) rfl ?_
        intro wa hwa
        have sza : wa.heap.size = w8.heap.size := hwa.size
        have Ta : Blk wa w.heap.size 24 [.slice none 0 0] := hwa.blk
        have Tb := E2.kept hwa.kept (by omega)
        have hka := hwa.kept
        have hDa := (hka.block w7.heap.size (by have := (Array.getElem?_eq_some_iff.1 hD8).1; omega) (by omega)).trans hD8
        have hba := hbB8.trans (hka.below (B := w.heap.size) (by have := hbB8.size; omega) (fun i h => by omega))
        push_cast -dsimp
        refine storeK_of Tb (by simp) rfl ?_
        intro wb hwb
        have szb : wb.heap.size = wa.heap.size := hwb.size
        have Ub := Ta.kept hwb.kept (by omega)
        have hkb := hwb.kept
        have hDb := (hkb.block w7.heap.size (by have := (Array.getElem?_eq_some_iff.1 hDa).1; omega) (by omega)).trans hDa
        have hbb := hba.trans (hkb.below (B := w.heap.size) (by have := hba.size; omega) (fun i h => by omega))
        push_cast -dsimp
        exact parse_end es7 Ub hwb.blk hDb hbb (.inr ⟨herr, rfl⟩) (by rfl) (by rfl)
      | true =>
        push_cast -dsimp [c8]
        refine callK_of (print_c out (by omega) (wr_right (a := -2) (by omega) hr) _ _ w8 ho8.sl (hd.below hbB8 hd.lt)) ?_
        rintro _ w9 ⟨rfl, hb9⟩
        have l48 := E4.lt
        have E19 := E1.below hb9 (by have := hb8.size; omega)
        have E29 := E2.below hb9 (by have := hb8.size; omega)
        have E49 := E4.below hb9 (by have := hb8.size; omega)
        have ho9 := ho8.below hb9
        have hbB9 := hbB8.trans (hb9.mono hbB8.size)
        have hD9 := (hb9.block w7.heap.size (Array.getElem?_eq_some_iff.1 hD8).1).trans hD8
        have c9 : w9.cell? ⟨w.heap.size + 3, 0, none⟩ = some (.slice va out.length vc) := E49.cell rfl
        push_cast -dsimp
        refine ⟨fun hne => ?_, fun heq => ?_⟩
        · have herr : ∀ l, ¬ PrintOf s l := fun l hl => by
            have := hout l hl
            subst this
            exact hne hl.2
          refine storeK_of E19 (by simp) rfl ?_
          intro wa hwa
          have sza : wa.heap.size = w9.heap.size := hwa.size
          have Ta : Blk wa w.heap.size 24 [.slice none 0 0] := hwa.blk
          have Tb := E29.kept hwa.kept (by omega)
          have hka := hwa.kept
          have hDa := (hka.block w7.heap.size (by have := (Array.getElem?_eq_some_iff.1 hD9).1; omega) (by omega)).trans hD9
          have hba := hbB9.trans (hka.below (B := w.heap.size) (by have := hbB9.size; omega) (fun i h => by omega))
          push_cast -dsimp
          refine storeK_of Tb (by simp) rfl ?_
          intro wb hwb
          have szb : wb.heap.size = wa.heap.size := hwb.size
          have Ub := Ta.kept hwb.kept (by omega)
          have hkb := hwb.kept
          have hDb := (hkb.block w7.heap.size (by have := (Array.getElem?_eq_some_iff.1 hDa).1; omega) (by omega)).trans hDa
          have hbb := hba.trans (hkb.below (B := w.heap.size) (by have := hba.size; omega) (fun i h => by omega))
          push_cast -dsimp
          exact parse_end es7 Ub hwb.blk hDb hbb (.inr ⟨herr, rfl⟩) (by rfl) (by rfl)
        · refine seqIn (ro := none) (by rfl) ?_
          push_cast -dsimp [c9]
          refine storeK_of E19 (by simp) rfl ?_
          intro wa hwa
          have sza : wa.heap.size = w9.heap.size := hwa.size
          have hka := hwa.kept
          have l49 := E49.lt
          have Ta : Blk wa w.heap.size 24 [.slice va out.length vc] := hwa.blk
          have Tb := E29.kept hwa.kept (by omega)
          have hoa := ho9.keptX hwa.kept (fun g hg h => by have := (ho9.block g hg).1; omega)
          have lD := (Array.getElem?_eq_some_iff.1 hD9).1
          have hDa := (hka.block w7.heap.size (by omega) (by omega)).trans hD9
          have hba := hbB9.trans (hka.below (B := w.heap.size) (by omega) (fun i h => by omega))
          push_cast -dsimp
          refine storeK_of Tb (by simp) rfl ?_
          intro wb hwb
          have szb : wb.heap.size = wa.heap.size := hwb.size
          have hkb := hwb.kept
          have Ub := Ta.kept hwb.kept (by omega)
          have hob' := hoa.keptX hwb.kept (fun g hg h => by have := (hoa.block g hg).1; omega)
          have hDb := (hkb.block w7.heap.size (by omega) (by omega)).trans hDa
          have hbb := hba.trans (hkb.below (B := w.heap.size) (by omega) (fun i h => by omega))
          have hoe := hob'.keptX (keptPut (X := fun k => k = w7.heap.size) wb w7.heap.size (.deferred none) rfl) (fun g hg h => by have := (hob'.block g hg).1; omega)
          push_cast -dsimp
          refine wpIn_ret ?_
          exact parse_end es7 Ub hwb.blk hDb hbb (.inl ⟨_, out, rfl, hoe.mono (by omega), hr, Classical.not_not.1 heq⟩) (by rfl) (by rfl)
    · intro c pre W hSp hX hD
      rcases hX with ⟨rfl, h1, h2, herr, hb⟩ | ⟨rfl, hbe, hI⟩
      · refine wpIn_ret ?_
        push_cast -dsimp
        exact parse_end es7 h1 h2 hD hb (.inr ⟨herr, rfl⟩) (by rfl) (by rfl)
      · obtain ⟨v, out, P1, P2, P3, P4, ho, hol, hob, hol2, hbB⟩ := hI
        have hout : ∀ l, PrintOf s l → out = l := fun l hl => by
          have hbb : body = bodyP l := by rw [← hbody]; exact (print_pre hl).2.2
          rw [hob hbe, bodyP_nil (hbb.symm.trans hbe)]
        have hoL : out.length < 10000000 := by rw [hob hbe]; decide
        refine wpIn_exit ?_
        push_cast -dsimp
        refine seqIn (ro := none) (by rfl) ?_
        have c7 : W.cell? ⟨w.heap.size + 3, 0, none⟩ = some v := P4.cell rfl
        have hsh := ho.slice
        obtain ⟨va, vc, rfl⟩ := hsh
        push_cast -dsimp [c7]
        refine callK_of (setRight_c out (by omega) _ _ W ho.sl) ?_
        rintro _ w8 ⟨rfl, hb8⟩
        have hbs := hbB.size
        have l4 := P4.lt
        have E1 := P1.below hb8 (by omega)
        have E2 := P2.below hb8 (by omega)
        have E4 := P4.below hb8 (by omega)
        have ho8 := ho.below hb8
        have hbB8 := hbB.trans (hb8.mono hbs)
        have hD8 := (hb8.block w7.heap.size (Array.getElem?_eq_some_iff.1 hD).1).trans hD
        have c8 : w8.cell? ⟨w.heap.size + 3, 0, none⟩ = some (.slice va out.length vc) := E4.cell rfl
        cases hr : setRight (-2) out with
        | false =>
          have herr : ∀ l, ¬ PrintOf s l := fun l hl => by
            have := hout l hl
            subst this
            rw [hl.1] at hr; cases hr
          push_cast -dsimp
          refine storeK_of E1 (by simp) rfl ?_
          intro wa hwa
          have sza : wa.heap.size = w8.heap.size := hwa.size
          have Ta : Blk wa w.heap.size 24 [.slice none 0 0] := hwa.blk
          have Tb := E2.kept hwa.kept (by omega)
          have hka := hwa.kept
          have hDa := (hka.block w7.heap.size (by have := (Array.getElem?_eq_some_iff.1 hD8).1; omega) (by omega)).trans hD8
          have hba := hbB8.trans (hka.below (B := w.heap.size) (by have := hbB8.size; omega) (fun i h => by omega))
          push_cast -dsimp
          refine storeK_of Tb (by simp) rfl ?_
          intro wb hwb
          have szb : wb.heap.size = wa.heap.size := hwb.size
          have Ub := Ta.kept hwb.kept (by omega)
          have hkb := hwb.kept
          have hDb := (hkb.block w7.heap.size (by have := (Array.getElem?_eq_some_iff.1 hDa).1; omega) (by omega)).trans hDa
          have hbb := hba.trans (hkb.below (B := w.heap.size) (by have := hba.size; omega) (fun i h => by omega))
          push_cast -dsimp
          exact parse_end es7 Ub hwb.blk hDb hbb (.inr ⟨herr, rfl⟩) (by rfl) (by rfl)
        | true =>
          push_cast -dsimp [c8]
          refine callK_of (print_c out (by omega) (wr_right (a := -2) (by omega) hr) _ _ w8 ho8.sl (hd.below hbB8 hd.lt)) ?_
          rintro _ w9 ⟨rfl, hb9⟩
          have l48 := E4.lt
          have E19 := E1.below hb9 (by have := hb8.size; omega)
          have E29 := E2.below hb9 (by have := hb8.size; omega)
          have E49 := E4.below hb9 (by have := hb8.size; omega)
          have ho9 := ho8.below hb9
          have hbB9 := hbB8.trans (hb9.mono hbB8.size)
          have hD9 := (hb9.block w7.heap.size (Array.getElem?_eq_some_iff.1 hD8).1).trans hD8
          have c9 : w9.cell? ⟨w.heap.size + 3, 0, none⟩ = some (.slice va out.length vc) := E49.cell rfl
          push_cast -dsimp
          refine ⟨fun hne => ?_, fun heq => ?_⟩
          · have herr : ∀ l, ¬ PrintOf s l := fun l hl => by
              have := hout l hl
              subst this
              exact hne hl.2
            refine storeK_of E19 (by simp) rfl ?_
            intro wa hwa
            have sza : wa.heap.size = w9.heap.size := hwa.size
            have Ta : Blk wa w.heap.size 24 [.slice none 0 0] := hwa.blk
            have Tb := E29.kept hwa.kept (by omega)
            have hka := hwa.kept
            have hDa := (hka.block w7.heap.size (by have := (Array.getElem?_eq_some_iff.1 hD9).1; omega) (by omega)).trans hD9
            have hba := hbB9.trans (hka.below (B := w.heap.size) (by have := hbB9.size; omega) (fun i h => by omega))
            push_cast -dsimp
            refine storeK_of Tb (by simp) rfl ?_
            intro wb hwb
            have szb : wb.heap.size = wa.heap.size := hwb.size
            have Ub := Ta.kept hwb.kept (by omega)
            have hkb := hwb.kept
            have hDb := (hkb.block w7.heap.size (by have := (Array.getElem?_eq_some_iff.1 hDa).1; omega) (by omega)).trans hDa
            have hbb := hba.trans (hkb.below (B := w.heap.size) (by have := hba.size; omega) (fun i h => by omega))
            push_cast -dsimp
            exact parse_end es7 Ub hwb.blk hDb hbb (.inr ⟨herr, rfl⟩) (by rfl) (by rfl)
          · refine seqIn (ro := none) (by rfl) ?_
            push_cast -dsimp [c9]
            refine storeK_of E19 (by simp) rfl ?_
            intro wa hwa
            have sza : wa.heap.size = w9.heap.size := hwa.size
            have hka := hwa.kept
            have l49 := E49.lt
            have Ta : Blk wa w.heap.size 24 [.slice va out.length vc] := hwa.blk
            have Tb := E29.kept hwa.kept (by omega)
            have hoa := ho9.keptX hwa.kept (fun g hg h => by have := (ho9.block g hg).1; omega)
            have lD := (Array.getElem?_eq_some_iff.1 hD9).1
            have hDa := (hka.block w7.heap.size (by omega) (by omega)).trans hD9
            have hba := hbB9.trans (hka.below (B := w.heap.size) (by omega) (fun i h => by omega))
            push_cast -dsimp
            refine storeK_of Tb (by simp) rfl ?_
            intro wb hwb
            have szb : wb.heap.size = wa.heap.size := hwb.size
            have hkb := hwb.kept
            have Ub := Ta.kept hwb.kept (by omega)
            have hob' := hoa.keptX hwb.kept (fun g hg h => by have := (hoa.block g hg).1; omega)
            have hDb := (hkb.block w7.heap.size (by omega) (by omega)).trans hDa
            have hbb := hba.trans (hkb.below (B := w.heap.size) (by omega) (fun i h => by omega))
            have hoe := hob'.keptX (keptPut (X := fun k => k = w7.heap.size) wb w7.heap.size (.deferred none) rfl) (fun g hg h => by have := (hob'.block g hg).1; omega)
            push_cast -dsimp
            refine wpIn_ret ?_
            exact parse_end es7 Ub hwb.blk hDb hbb (.inl ⟨_, out, rfl, hoe.mono (by omega), hr, Classical.not_not.1 heq⟩) (by rfl) (by rfl)
end Go.Proofs.YtplbgmoeannobaaGreatDoor
