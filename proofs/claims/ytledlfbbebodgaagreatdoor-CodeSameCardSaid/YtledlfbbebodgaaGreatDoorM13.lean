/- Lemmas. -/
import Derived.Test.YtledlfbbebodgaaGreatDoorM12
set_option maxRecDepth 100000
set_option linter.unusedSimpArgs false
set_option linter.unusedVariables false
set_option maxHeartbeats 8000000
section
namespace Go.Proofs.YtledlfbbebodgaaGreatDoor
open Go.Vc Go.Proofs Go.RowKit Cae
attribute [local irreducible] wpL callK valK unitK runK Fun Sl Vc.Own vc vcOps opK pureK
def RightR (B:Nat)(s:List UInt8)(r:Value)(w:World):Prop:=∃(a1:Option Addr) (n1 k1:Nat) (a2:Option Addr) (n2 k2:Nat) (e b:Bool),r=.tuple #[.agg #[.slice a1 n1 k1,.slice a2 n2 k2,.bool e],.bool b] ∧
 (b=true→s.length≤500∧∃f,parseR s=.ok f∧chkS f=none∧FileV (·<B) w (.agg #[.slice a1 n1 k1,.slice a2 n2 k2,.bool e]) f)
theorem rightF_c (s : List UInt8) (w : World) (hd : Db w) (he : SErrs w) (hg : 11 ≤ w.heap.size) :
    Fun Tryz.prog 9 [str s] w fun r w' => RightR w.heap.size s r w' ∧ Below w.heap.size w w' := by
  refine fun_of_vcC Tryz.func9 rfl (by kernel_rfl) [.cell 2 26, .tmp 3] rfl ?_
  push_cast -dsimp (maxSteps := 4000000) [Tryz.ntmps9]
  refine allocK (z := [.slice none 0 0, .slice none 0 0, .bool false]) (by kernel_rfl) ?_
  intro w1 hw1
  have z1 := hw1.size
  push_cast -dsimp
  refine ⟨fun hlt => ?_, fun hge => ?_⟩
  · refine storeAgg (n := 3) (by kernel_rfl) hw1.blk rfl (by simp) (by intro v hv; simp only [List.mem_cons, List.not_mem_nil, or_false] at hv; rcases hv with rfl | rfl | rfl <;> rfl) ?_
    intro w2 hw2
    have z2 := hw2.size
    have hb2 : Below w.heap.size w w2 := hw1.below.trans (hw2.kept.below (by omega) (fun i h => by omega))
    have d2 : cellsAt w2 ⟨w.heap.size, 0, none⟩ 0 3 = some [.slice none 0 0, .slice none 0 0, .bool false] := hw2.blk.cellsAt
    push_cast -dsimp [d2]
    refine ⟨⟨_, _, _, _, _, _, _, _, rfl, fun h => by cases h⟩, hb2⟩
  · refine callK_of (ruleParse_c s (by omega) w1 (hd.below hw1.below hd.lt) (he.below hw1.below) (by omega)) ?_
    rintro r w2 ⟨hP, hb2⟩
    have z2 := hb2.size
    have hbw2 := hw1.below.trans (hb2.mono (by omega))
    rcases hP with ⟨f, v, hpar, rfl, hV⟩ | ⟨e, pos, b, hpar, rfl, heb, hEB⟩
    · have hV0 := hV
      obtain ⟨cv, rv, cs, rs, rfl, S1, S2, A1, A2⟩ := hV
      have hpo := parse_ok (by omega) hpar
      have hpp := parse_pn hpar (by omega)
      obtain ⟨ca, cc, rfl, hcc⟩ := S1.shape
      obtain ⟨ra, rc, rfl, hrc⟩ := S2.shape
      -- .slice ca cs.length cc, .slice ra rs.length rc, .bool f.els: the cells; what Parse answered is laid
      push_cast -dsimp
      refine allocK (z := [.slice none 0 0, .slice none 0 0, .bool false]) (by kernel_rfl) ?_
      intro w3 hw3
      have z3 := hw3.size
      push_cast -dsimp
      refine storeAgg (n := 3) (by kernel_rfl) hw3.blk rfl (by simp) (by intro v hv; simp only [List.mem_cons, List.not_mem_nil, or_false] at hv; rcases hv with rfl | rfl | rfl <;> rfl) ?_
      intro w4 hw4
      have z4 := hw4.size
      have hb24 : Below w2.heap.size w2 w4 := hw3.below.trans (hw4.kept.below (by omega) (fun i h => by omega))
      have hbw4 := hbw2.trans (hb24.mono (by omega))
      have B4 : Blk w4 w2.heap.size 26 [.slice ca cs.length cc, .slice ra rs.length rc, .bool f.els] := hw4.blk
      have R4 := (hw1.blk.below hb2 (by omega)).below hb24 (by omega)
      have B4d := B4.drew
      have hbd4 := below_drew w4
      have d4 : cellsAt w4.drew ⟨w2.heap.size, 0, none⟩ 0 3 = some [.slice ca cs.length cc, .slice ra rs.length rc, .bool f.els] := B4d.cellsAt
      push_cast -dsimp
      refine wpL_drawN (fun w' => Blk w' w2.heap.size 26 [.slice ca cs.length cc, .slice ra rs.length rc, .bool f.els]) mixed (by kernel_rfl) B4d ?_
      push_cast -dsimp [d4]
      have hcl : ∀ w'', Blk w'' w2.heap.size 26 [.slice ca cs.length cc, .slice ra rs.length rc, .bool f.els] → cellsAt w'' ⟨w2.heap.size, 0, none⟩ 0 3 = some [.slice ca cs.length cc, .slice ra rs.length rc, .bool f.els] := fun w'' h => h.cellsAt
      refine ⟨fun w'' h => by rw [hcl w'' h]; exact rfl, fun w'' h => by rw [hcl w'' h]; exact rfl, ?_⟩
      have hVd := (hV0.below hb24).below hbd4
      refine callK_of (check_c f hpo.1 hpp (by omega) (by omega) _ _ w4.drew hVd) ?_
      rintro r w5 ⟨hE, hb5⟩
      have z5 := hb5.size
      have B5 := B4d.below hb5 B4d.lt
      have R5 := (R4.drew).below hb5 R4.drew.lt
      refine ⟨B5, ?_⟩
      have hbw5 := (hbw4.trans (hbd4.mono (by omega))).trans (hb5.mono (by show w.heap.size ≤ w4.heap.size; omega))
      have zd : w4.drew.heap.size = w4.heap.size := rfl
      cases hchk : chkS f with
      | some e =>
        rw [hchk] at hE
        obtain ⟨c, e⟩ := e
        obtain ⟨eb, heb, rfl, hEB⟩ := hE
        push_cast -dsimp
        -- w5: world; R5: result's block in it; B5: file's block in it; .slice ca cs.length cc, .slice ra rs.length rc, .bool f.els: the cells; hbw5: Below w w5; $6: closing
        refine storeAgg (n := 3) (by kernel_rfl) R5 rfl (by simp) (by intro v hv; simp only [List.mem_cons, List.not_mem_nil, or_false] at hv; rcases hv with rfl | rfl | rfl <;> rfl) ?_
        intro w6 hw6
        have z6 := hw6.size
        have hb6 := hw6.kept
        have hbF := hbw5
        have zF := hbF.size
        have B6 := Blk.kept (B5) hw6.kept (fun h => by omega)
        have hbw6 : Below w.heap.size w w6 := hbF.trans (hw6.kept.below (by omega) (fun i h => by omega))
        refine ⟨B6, ?_⟩
        have d6 : cellsAt w6 ⟨w.heap.size, 0, none⟩ 0 3 = some [.slice ca cs.length cc, .slice ra rs.length rc, .bool f.els] := hw6.blk.cellsAt
        push_cast -dsimp [d6]
        exact ⟨⟨_, _, _, _, _, _, _, _, rfl, fun h => by cases h⟩, hbw6⟩
      | none =>
        rw [hchk] at hE
        have hE : r = .nilIface := hE
        subst hE
        push_cast -dsimp
        -- w5: world; R5: result's block in it; B5: file's block in it; .slice ca cs.length cc, .slice ra rs.length rc, .bool f.els: the cells; hbw5: Below w w5; $6: closing
        refine storeAgg (n := 3) (by kernel_rfl) R5 rfl (by simp) (by intro v hv; simp only [List.mem_cons, List.not_mem_nil, or_false] at hv; rcases hv with rfl | rfl | rfl <;> rfl) ?_
        intro w6 hw6
        have z6 := hw6.size
        have hb6 := hw6.kept
        have hbF := hbw5
        have zF := hbF.size
        have B6 := Blk.kept (B5) hw6.kept (fun h => by omega)
        have hbw6 : Below w.heap.size w w6 := hbF.trans (hw6.kept.below (by omega) (fun i h => by omega))
        refine ⟨B6, ?_⟩
        have d6 : cellsAt w6 ⟨w.heap.size, 0, none⟩ 0 3 = some [.slice ca cs.length cc, .slice ra rs.length rc, .bool f.els] := hw6.blk.cellsAt
        push_cast -dsimp [d6]
        have hk26 : Kept (· = w.heap.size) w2 w6 := (Kept.of_below (hb24.trans ((hbd4.mono (by omega)).trans (hb5.mono (by omega)))) (fun i h1 h2 => by omega)).trans hw6.kept (fun _ _ h => h)
        exact ⟨⟨_, _, _, _, _, _, _, _, rfl, fun _ => ⟨by omega, f, hpar, hchk, hV0.mono hk26 (fun i h => by omega) (fun i h => by omega)⟩⟩, hbw6⟩
    · skip
      -- .slice none 0 0, .slice none 0 0, .bool false: the cells; what Parse answered is laid
      push_cast -dsimp
      refine allocK (z := [.slice none 0 0, .slice none 0 0, .bool false]) (by kernel_rfl) ?_
      intro w3 hw3
      have z3 := hw3.size
      push_cast -dsimp
      refine storeAgg (n := 3) (by kernel_rfl) hw3.blk rfl (by simp) (by intro v hv; simp only [List.mem_cons, List.not_mem_nil, or_false] at hv; rcases hv with rfl | rfl | rfl <;> rfl) ?_
      intro w4 hw4
      have z4 := hw4.size
      have hb24 : Below w2.heap.size w2 w4 := hw3.below.trans (hw4.kept.below (by omega) (fun i h => by omega))
      have hbw4 := hbw2.trans (hb24.mono (by omega))
      have B4 : Blk w4 w2.heap.size 26 [.slice none 0 0, .slice none 0 0, .bool false] := hw4.blk
      have R4 := (hw1.blk.below hb2 (by omega)).below hb24 (by omega)
      have B4d := B4.drew
      have hbd4 := below_drew w4
      have d4 : cellsAt w4.drew ⟨w2.heap.size, 0, none⟩ 0 3 = some [.slice none 0 0, .slice none 0 0, .bool false] := B4d.cellsAt
      push_cast -dsimp
      refine wpL_drawN (fun w' => Blk w' w2.heap.size 26 [.slice none 0 0, .slice none 0 0, .bool false]) mixed (by kernel_rfl) B4d ?_
      push_cast -dsimp [d4]
      have hcl : ∀ w'', Blk w'' w2.heap.size 26 [.slice none 0 0, .slice none 0 0, .bool false] → cellsAt w'' ⟨w2.heap.size, 0, none⟩ 0 3 = some [.slice none 0 0, .slice none 0 0, .bool false] := fun w'' h => h.cellsAt
      refine ⟨fun w'' h => by rw [hcl w'' h]; exact rfl, ?_⟩
      have zd : w4.drew.heap.size = w4.heap.size := rfl
      -- w4.drew: world; R4.drew: result's block in it; B4d: file's block in it; .slice none 0 0, .slice none 0 0, .bool false: the cells; (hbw4.trans (hbd4.mono (by omega))): Below w w4.drew; $6: closing
      refine storeAgg (n := 3) (by kernel_rfl) R4.drew rfl (by simp) (by intro v hv; simp only [List.mem_cons, List.not_mem_nil, or_false] at hv; rcases hv with rfl | rfl | rfl <;> rfl) ?_
      intro w6 hw6
      have z6 := hw6.size
      have hb6 := hw6.kept
      have hbF := (hbw4.trans (hbd4.mono (by omega)))
      have zF := hbF.size
      have B6 := Blk.kept (B4d) hw6.kept (fun h => by omega)
      have hbw6 : Below w.heap.size w w6 := hbF.trans (hw6.kept.below (by omega) (fun i h => by omega))
      refine ⟨B6, ?_⟩
      have d6 : cellsAt w6 ⟨w.heap.size, 0, none⟩ 0 3 = some [.slice none 0 0, .slice none 0 0, .bool false] := hw6.blk.cellsAt
      push_cast -dsimp [d6]
      exact ⟨⟨_, _, _, _, _, _, _, _, rfl, fun h => by cases h⟩, hbw6⟩
end Go.Proofs.YtledlfbbebodgaaGreatDoor
end
section
namespace Go.Vc
section
variable {P:Program}
def cutQ (id:Nat)(Q:EP)(M:List Nat)(t:Fr)(J:(Nat→Value)→World→Prop)(_:Ph (Q,t,J)):EP
 | .exit i,t',w'=>i=id∧t'=ov t M (at_ t')∧J (at_ t') w'
 | .panic c,t',w'=>Q (.panic c) t' w'
 | _,_,_=>False
theorem wpL_cutB {c:Code}{id:Nat}{t:Fr}{w:World}{Q:EP}{p q}(M:List Nat)(J:(Nat→Value)→World→Prop)(h1:wpL P c (cutQ id Q M t J .mk) t w .mk)
  (h2:∀z w',J z w'→Q .normal (ov t M z) w'):wpL P c (blockQ id Q p) t w q:=by
 refine wpL_mono ?_ h1;intro e t' w' h;cases e<;>simp only[cutQ]at h
 case exit i =>
  obtain⟨rfl,ht,hJ⟩:=h;rw[blockQ_same,ht];exact h2 _ _ hJ
 case panic c=>exact h
theorem cutQ_exit {id:Nat}{Q:EP}{M:List Nat}{t t':Fr}{w':World}{J:(Nat→Value)→World→Prop}(p):cutQ id Q M t J p (.exit id) t' w'=(t'=ov t M (at_ t')∧J (at_ t') w'):=by simp[cutQ]
theorem cutQ_panic {id:Nat}{Q:EP}{M:List Nat}{t t':Fr}{w':World}{J:(Nat→Value)→World→Prop}(c)(p):cutQ id Q M t J p (.panic c) t' w'=Q (.panic c) t' w':=(rfl)
attribute [push_cast] cutQ_exit cutQ_panic
end
end Go.Vc
namespace Cae
theorem iter_stay {S:Nat→Nat→Prop}{b:Nat}(hb:S b b):∀{n m a:Nat},n≤m→iterM S n a b→iterM S m a b
 | n,m,a,hnm,h=>by
  obtain⟨d,rfl⟩:=Nat.le.dest hnm;clear hnm;induction d with
  | zero=>exact h
  | succ d ih=>exact iterM_snoc.2 ⟨b,ih,hb⟩
end Cae
namespace Go.Proofs.YtledlfbbebodgaaGreatDoor
open Go.Vc Go.Proofs Go.RowKit Cae
attribute [local irreducible] wpL callK valK unitK runK Fun Sl Vc.Own vc vcOps opK pureK
theorem cd_manyF (x : PatP) (lo hi : Int) (hx : PatCd x) (hok : PatOk (.many x lo hi)) (hpn : wd x ≤ 100000) (nm : NamesP) (hpat : patS nm x = none) (hr : RightN nm) (B mb nb : Nat) (back : Bool) (X Z : Nat → Prop) (w : World) (c : CodeP) (v : Value) (h : Mk B mb nb back X w c) (hX : ∀ b, X b → (Z b ∨ b = mb ∨ B ≤ b) ∧ b < w.heap.size) (hnb : nb < mb) (hN : NamV (fun b => Z b ∨ b = mb ∨ B ≤ b) w nb nm) (hV : PatV (fun b => Z b ∨ b = mb ∨ B ≤ b) w v (.many x lo hi)) (hsum : c.sets.length ≤ c.ins.length) :
    Fun2 Tryz.prog 79 [.pointer (some ⟨mb, 0, none⟩), v] w
    (fun r w' => (∃ c', Mk B mb nb back X w' c' ∧ Ext c c' ∧ c'.ins.length = c.ins.length + clen (.many x lo hi) ∧ Seg (hasN nm) c' back (.many x lo hi) c.ins.length c'.ins.length) ∧ Mst mb w w')
    (fun ce w' => 2000 < c.ins.length + clen (.many x lo hi) ∧ ThrC 4 ce ∧ Mst mb w w') := by
  have hlt := h.lt
  have hle := h.le
  simp only [PatOk] at hok
  obtain ⟨hokx, hlo0, hlo1, hhi1, hlh⟩ := hok
  simp only [PatV] at hV
  obtain ⟨xb, psv, u, rfl, hxb, hB, hs, hVx⟩ := hV
  obtain ⟨pa, pc, rfl, hpcc⟩ := hs.shape
  obtain ⟨b1, o, rfl, _, hcell⟩ := hs.get (i := 0) (x := u) rfl
  have hlo : ∃ n : Nat, lo = n := ⟨lo.toNat, by omega⟩
  obtain ⟨n, rfl⟩ := hlo
  have c0 : w.cell? ⟨b1, o, none⟩ = some (.pointer (some ⟨u, 0, none⟩)) := by simpa [encP, ptrP] using hcell 0 _ rfl
  have hb1X : b1 ≠ mb ∧ ¬ B ≤ b1 := by
    have h1 := hs.get (i := 0) (x := u) rfl
    obtain ⟨b', o', e, hne, _⟩ := h1
    cases e
    exact ⟨fun e => hne (.inr (.inl e)), fun e => hne (.inr (.inr e))⟩
  have hkeep : ∀ w1, Kept (fun b => b = mb ∨ B ≤ b) w w1 → Blk w1 xb 39 [.int .i64 6, .pointer none, .slice (some ⟨b1, o, none⟩) 1 pc, .int .i64 n, .int .i64 hi] ∧ w1.cell? ⟨b1, o, none⟩ = some (.pointer (some ⟨u, 0, none⟩)) ∧ NamV (fun b => Z b ∨ b = mb ∨ B ≤ b) w1 nb nm ∧ PatV (fun b => Z b ∨ b = mb ∨ B ≤ b) w1 (ptrP u) x := fun w1 k1 =>
    ⟨hB.kept k1 (fun hh => hxb (.inr hh)), k1.cell c0 (fun hh => hh.elim hb1X.1 hb1X.2), NamV.kept hN k1 (fun _ h => .inr h) (fun h => by rcases h with h | h <;> omega) (fun _ h => h), PatV.mono k1 (fun _ h => .inr h) (fun _ h => h) hVx⟩
  have hlen := fun (ci : CodeP) (a b : Nat) => seg_len (has := hasN nm) (c := ci) (back := back) x a b
  have d3 : w.cell? ⟨xb, 3, none⟩ = some (.int .i64 (n : Int)) := hB.cell rfl
  refine fun2_of_vc Tryz.func79 rfl (by kernel_rfl) [] rfl ?_
  simp -dsimp (maxSteps := 4000000) only [push_cast, fr0, Tryz.ntmps79, List.length_cons, List.length_nil, Nat.reduceAdd, Nat.reduceSub, Nat.reduceBEq, List.replicate_succ, List.replicate_zero]
  simp -dsimp only [push_cast, Nat.reduceAdd, Nat.reduceLeDiff, Nat.reduceBEq, Int.reduceNe, Int.reduceEq, Int.reduceLT, Int.reduceLE, d3]
  refine wpL_cutB [4, 15, 16, 17, 18, 19, 20, 21, 22, 23, 24, 25, 26, 27, 28, 29, 30, 31] (fun z wx => ∃ (ci : CodeP), Mk B mb nb back X wx ci ∧ Ext c ci ∧ ci.ins.length = c.ins.length + n * clen x ∧ iterM (Seg (hasN nm) ci back x) n c.ins.length ci.ins.length ∧ Mst mb w wx) ?_ ?_
  · refine wpL_loop [4, 15, 16, 17, 18, 19, 20, 21, 22, 23, 24, 25, 26, 27, 28, 29, 30, 31] (fun z wx => ∃ (t : Nat) (ci : CodeP), z 15 = .int .i64 t ∧ t ≤ n ∧ Mk B mb nb back X wx ci ∧ Ext c ci ∧ ci.ins.length = c.ins.length + t * clen x ∧ iterM (Seg (hasN nm) ci back x) t c.ins.length ci.ins.length ∧ Mst mb w wx) (fun z _ => n - (intOf (z 15)).toNat) ?_ ?_
    · exact ⟨0, c, rfl, Nat.zero_le _, h, Ext.refl c, by simp, rfl, Mst.refl (by omega)⟩
    · intro z wx hI
      obtain ⟨t, ci, h15, ht, hMx, hEx, hlx, hix, kx⟩ := hI
      have kxo := kx.out h
      have zx := kx.kept.size
      obtain ⟨hBx, cx, hNx, hPx⟩ := hkeep wx kxo
      simp -dsimp only [push_cast, Nat.reduceAdd, Nat.reduceLeDiff, Nat.reduceBEq, Int.reduceNe, Int.reduceEq, Int.reduceLT, Int.reduceLE, h15]
      have hsx : ci.sets.length ≤ ci.ins.length := by have := hEx.sum; omega
      have hXx : ∀ b, X b → (Z b ∨ b = mb ∨ B ≤ b) ∧ b < wx.heap.size := fun b hb => by have := hX b hb; exact ⟨this.1, by omega⟩
      refine ⟨fun hlt2 => ?_, fun hge => ?_⟩
      · have hmul : (t + 1) * clen x ≤ n * clen x := Nat.mul_le_mul_right _ (by omega)
        have hsm : (t + 1) * clen x = t * clen x + clen x := Nat.succ_mul _ _
        refine callK_of (here_c hMx) ?_
        rintro _ w0 ⟨rfl, hw0⟩
        have hw0 := hw0.symm
        subst hw0
        have e2 : wx.cell? ⟨xb, 2, none⟩ = some (.slice (some ⟨b1, o, none⟩) 1 pc) := hBx.cell rfl
        simp -dsimp only [push_cast, Nat.reduceAdd, Nat.reduceLeDiff, Nat.reduceBEq, Int.reduceNe, Int.reduceEq, Int.reduceLT, Int.reduceLE, e2, cx]
        refine ⟨by omega, ?_⟩
        refine callP_of (hx hokx hpn nm hpat hr B mb nb back X Z _ ci _ hMx hXx hnb hNx hPx hsx) ?_ ?_
        · rintro _ wy ⟨⟨cy, hMy, hEy, hly, hsy⟩, ky⟩
          have hiy : iterM (Seg (hasN nm) cy back x) (t + 1) c.ins.length cy.ins.length := iterM_snoc.2 ⟨ci.ins.length, iter_same (A := c.ins.length) (B := ci.ins.length) (fun a b => hlen ci a b) (fun p q hp hq => seg_same x p q ((hEy.same (Nat.le_refl _)).sub hp hq)) _ _ _ (Nat.le_refl _) (Nat.le_refl _) hix, hsy⟩
          simp -dsimp only [push_cast, Nat.reduceAdd, Nat.reduceLeDiff, Nat.reduceBEq, Int.reduceNe, Int.reduceEq, Int.reduceLT, Int.reduceLE]
          refine callK_of (here_c hMy) ?_
          rintro _ w0 ⟨rfl, hw0⟩
          have hw0 := hw0.symm
          subst hw0
          simp -dsimp only [push_cast, Nat.reduceAdd, Nat.reduceLeDiff, Nat.reduceBEq, Int.reduceNe, Int.reduceEq, Int.reduceLT, Int.reduceLE]
          refine ⟨fun heq => ?_, fun hne => ?_⟩
          · have h0 : clen x = 0 := by omega
            have hst : Seg (hasN nm) cy back x cy.ins.length cy.ins.length := by
              have h1 := hsy
              have h2 : ci.ins.length = cy.ins.length := by omega
              rw [h2] at h1
              exact h1
            exact ⟨cy, hMy, hEx.trans hEy, by rw [hly, hlx, h0]; simp, iter_stay hst (by omega) hiy, kx.trans ky⟩
          · exact ⟨⟨by omega, by omega⟩, ⟨t + 1, cy, rfl, by omega, hMy, hEx.trans hEy, by rw [hly, hlx, hsm]; omega, hiy, kx.trans ky⟩, by rw [h15]; simp only [intOf]; omega⟩
        · rintro ce wy ⟨hl2, ht2, ky⟩
          simp -dsimp only [push_cast, Nat.reduceAdd, Nat.reduceLeDiff, Nat.reduceBEq, Int.reduceNe, Int.reduceEq, Int.reduceLT, Int.reduceLE]
          exact ⟨by simp only [clen, Int.toNat_natCast]; omega, ht2, kx.trans ky⟩
      · have htn : t = n := by omega
        subst htn
        exact ⟨ci, hMx, hEx, hlx, hix, kx⟩
  · intro z w1 hJ
    obtain ⟨c1, hM1, hE1, hl1, hi1, k1⟩ := hJ
    have k1o := k1.out h
    have z1 := k1.kept.size
    obtain ⟨hB1, cx1, hN1, hP1⟩ := hkeep w1 k1o
    have d4 : w1.cell? ⟨xb, 4, none⟩ = some (.int .i64 hi) := hB1.cell rfl
    have hs1 : c1.sets.length ≤ c1.ins.length := by have := hE1.sum; omega
    have hX1 : ∀ b, X b → (Z b ∨ b = mb ∨ B ≤ b) ∧ b < w1.heap.size := fun b hb => by have := hX b hb; exact ⟨this.1, by omega⟩
    have hcl : clen (.many x (n : Int) hi) = n * clen x + if hi < 0 then clen x + 2 else (hi - n).toNat * (clen x + 1) := by simp only [clen, Int.toNat_natCast]
    simp -dsimp only [push_cast, Nat.reduceAdd, Nat.reduceLeDiff, Nat.reduceBEq, Int.reduceNe, Int.reduceEq, Int.reduceLT, Int.reduceLE, d4]
    refine ⟨fun hneg => ?_, fun hpos => ?_⟩
    · rw [if_pos hneg] at hcl
      refine callP_of (add_c hM1 (by omega) ⟨2, 0, 0⟩) ?_ ?_
      · rintro _ w2 ⟨hl2, rfl, hM2, k2⟩
        have z2 := k2.kept.size
        have hx2 := push_at c1 ⟨2, 0, 0⟩
        have hn2 := push_len c1 ⟨2, 0, 0⟩
        simp -dsimp only [push_cast, Nat.reduceAdd, Nat.reduceLeDiff, Nat.reduceBEq, Int.reduceNe, Int.reduceEq, Int.reduceLT, Int.reduceLE]
        -- w2: the world; hM2: Mk at it; (CodeP.push c1 ⟨2, 0, 0⟩): the code; c1.ins.length: the index; hx2: what stands there ((CodeP.push c1 ⟨2, 0, 0⟩).ins[c1.ins.length]? = some x); (⟨2, 0, 0⟩ : I3): x; 1: the field; (⟨2, ((CodeP.push c1 ⟨2, 0, 0⟩).ins.length : Int), 0⟩ : I3): what it becomes
        have hstP := (hM2).st
        obtain ⟨svP, ivP, usP, hMP⟩ := hstP
        have hOP0 := hMP.2.2.1
        obtain ⟨iaP, icP, rfl⟩ := hOP0.slice
        have hgP := hOP0.sl.get hx2
        obtain ⟨gP, oP, eP, _, _⟩ := hgP
        subst eP
        have ho0P : oP = 0 := Vc.Own.at0 hOP0
        subst ho0P
        have hltP := (List.getElem?_eq_some_iff.1 hx2).1
        have hnumP := (hM2).num
        have f1P : (w2).drew.cell? ⟨mb, 1, none⟩ = some (.slice (some ⟨gP, 0, none⟩) ((CodeP.push c1 ⟨2, 0, 0⟩)).ins.length icP) := hMP.1.drew.cell rfl
        refine wpL_lastN (fun w' => Blk w' mb 115 [svP, .slice (some ⟨gP, 0, none⟩) ((CodeP.push c1 ⟨2, 0, 0⟩)).ins.length icP, .map (some nb), .bool back]) mixed (by kernel_rfl) (by simp) hMP.1.drew ?_
        simp -dsimp only [push_cast, Nat.reduceAdd, Nat.reduceLeDiff, Nat.reduceBEq, Int.reduceNe, Int.reduceEq, Int.reduceLT, Int.reduceLE, f1P]
        refine ⟨fun w'' h => by rw [h.cell (o := 1) rfl]; exact rfl, ?_⟩
        have hbdP := below_drew (w2)
        refine callK_of (here_c ((hM2).below hbdP)) ?_
        rintro _ _ ⟨rfl, rfl⟩
        refine ⟨hMP.1.drew, ?_⟩
        simp -dsimp only [push_cast, Nat.reduceAdd, Nat.reduceLeDiff, Nat.reduceBEq, Int.reduceNe, Int.reduceEq, Int.reduceLT, Int.reduceLE]
        refine ⟨⟨by omega, by omega⟩, ?_⟩
        have hOdP : Vc.Own B 109 3 encIn (w2).drew (.slice (some ⟨gP, 0, none⟩) ((CodeP.push c1 ⟨2, 0, 0⟩)).ins.length icP) ((CodeP.push c1 ⟨2, 0, 0⟩)).ins := hOP0.keptX ((Kept.refl (fun _ => False) (w2)).drew) (fun _ _ h => h)
        refine storeOwnF (i := c1.ins.length) (f := 1) (x := (⟨2, 0, 0⟩ : I3)) (y := (⟨2, ((CodeP.push c1 ⟨2, 0, 0⟩).ins.length : Int), 0⟩ : I3)) hOdP rfl hx2 (by decide) rfl rfl ?_
        intro wP hOP hkP zP
        have hpP := Mk.patch ((hM2).below hbdP) (hMP.below hbdP) rfl hOP hkP
        obtain ⟨hMkP, hstepP⟩ := hpP
        have hstP : Mst mb (w2) wP := (Mst.below hbdP (by have := (hM2).lt; have := (hM2).le; omega)).trans hstepP
        refine ⟨trivial, ?_⟩
        simp -dsimp only [push_cast, Nat.reduceAdd, Nat.reduceLeDiff, Nat.reduceBEq, Int.reduceNe, Int.reduceEq, Int.reduceLT, Int.reduceLE]
        -- behind the patch of a Split at the end of code c1 (at w1; added at w2 by k2); k1o: Kept to w1; hM1: Mk at w1; hX1: X at w1
        have hc2 : ∃ c2 : CodeP, c2 = ⟨(CodeP.push c1 ⟨2, 0, 0⟩).sets, (CodeP.push c1 ⟨2, 0, 0⟩).ins.set c1.ins.length ⟨2, ((CodeP.push c1 ⟨2, 0, 0⟩).ins.length : Int), 0⟩⟩ := ⟨_, rfl⟩
        obtain ⟨c2, hc2⟩ := hc2
        rw [← hc2] at hMkP
        have hn2' : c2.ins.length = c1.ins.length + 1 := by rw [hc2]; simp [CodeP.push]
        have hk2 : c2.ins[c1.ins.length]? = some ⟨2, ((c1.ins.length + 1 : Nat) : Int), 0⟩ := by
          rw [hc2]
          show ((CodeP.push c1 ⟨2, 0, 0⟩).ins.set c1.ins.length _)[c1.ins.length]? = _
          rw [List.getElem?_set, if_pos rfl, if_pos (by omega), hn2]
        have hE2 : Ext c1 c2 := by rw [hc2]; exact (Ext.push c1 _).set (Nat.le_refl _)
        have hsets2 : c2.sets = c1.sets := by rw [hc2]; rfl
        have kP : Mst mb w1 wP := k2.trans hstP
        have zP' := kP.kept.size
        obtain ⟨hBP, cxP, hNP, hPP⟩ := hkeep wP (k1o.trans (kP.out hM1) (fun _ _ h => h))
        have hXP := fun b hb => (show (Z b ∨ b = mb ∨ B ≤ b) ∧ b < wP.heap.size from by have := hX1 b hb; exact ⟨this.1, by omega⟩)
        have e2 : wP.cell? ⟨xb, 2, none⟩ = some (.slice (some ⟨b1, o, none⟩) 1 pc) := hBP.cell rfl
        simp -dsimp only [push_cast, Nat.reduceAdd, Nat.reduceLeDiff, Nat.reduceBEq, Int.reduceNe, Int.reduceEq, Int.reduceLT, Int.reduceLE, e2, cxP]
        refine ⟨by omega, ?_⟩
        refine callP_of (hx hokx hpn nm hpat hr B mb nb back X Z _ c2 _ hMkP hXP hnb hNP hPP (by rw [hsets2]; omega)) ?_ ?_
        · rintro _ w4 ⟨⟨c3, hM3, hE3, hl3, hs3⟩, k3⟩
          have k13 := kP.trans k3
          have hsum3 : c3.sets.length ≤ c3.ins.length := by have := hE3.sum; rw [hsets2] at this; omega
          simp -dsimp only [push_cast, Nat.reduceAdd, Nat.reduceLeDiff, Nat.reduceBEq, Int.reduceNe, Int.reduceEq, Int.reduceLT, Int.reduceLE]
          refine callP_of (add_c hM3 (by omega) ⟨3, (c1.ins.length : Int), 0⟩) ?_ ?_
          · rintro _ w5 ⟨hl5, rfl, hM5, k5⟩
            have hk5 : (CodeP.push c3 ⟨3, (c1.ins.length : Int), 0⟩).ins[c1.ins.length]? = some ⟨2, ((c1.ins.length + 1 : Nat) : Int), 0⟩ := (Ext.push c3 _).ins _ _ (hE3.ins _ _ hk2)
            have hn5 := push_len c3 ⟨3, (c1.ins.length : Int), 0⟩
            simp -dsimp only [push_cast, Nat.reduceAdd, Nat.reduceLeDiff, Nat.reduceBEq, Int.reduceNe, Int.reduceEq, Int.reduceLT, Int.reduceLE]
            -- w5: the world; hM5: Mk at it; (CodeP.push c3 ⟨3, (c1.ins.length : Int), 0⟩): the code; c1.ins.length: the index; hk5: what stands there ((CodeP.push c3 ⟨3, (c1.ins.length : Int), 0⟩).ins[c1.ins.length]? = some x); (⟨2, ((c1.ins.length + 1 : Nat) : Int), 0⟩ : I3): x; 2: the field; (⟨2, ((c1.ins.length + 1 : Nat) : Int), ((CodeP.push c3 ⟨3, (c1.ins.length : Int), 0⟩).ins.length : Int)⟩ : I3): what it becomes
            have hstP := (hM5).st
            obtain ⟨svP, ivP, usP, hMP⟩ := hstP
            have hOP0 := hMP.2.2.1
            obtain ⟨iaP, icP, rfl⟩ := hOP0.slice
            have hgP := hOP0.sl.get hk5
            obtain ⟨gP, oP, eP, _, _⟩ := hgP
            subst eP
            have ho0P : oP = 0 := Vc.Own.at0 hOP0
            subst ho0P
            have hltP := (List.getElem?_eq_some_iff.1 hk5).1
            have hnumP := (hM5).num
            have f1P : (w5).drew.cell? ⟨mb, 1, none⟩ = some (.slice (some ⟨gP, 0, none⟩) ((CodeP.push c3 ⟨3, (c1.ins.length : Int), 0⟩)).ins.length icP) := hMP.1.drew.cell rfl
            refine wpL_lastN (fun w' => Blk w' mb 115 [svP, .slice (some ⟨gP, 0, none⟩) ((CodeP.push c3 ⟨3, (c1.ins.length : Int), 0⟩)).ins.length icP, .map (some nb), .bool back]) mixed (by kernel_rfl) (by simp) hMP.1.drew ?_
            simp -dsimp only [push_cast, Nat.reduceAdd, Nat.reduceLeDiff, Nat.reduceBEq, Int.reduceNe, Int.reduceEq, Int.reduceLT, Int.reduceLE, f1P]
            refine ⟨fun w'' h => by rw [h.cell (o := 1) rfl]; exact rfl, ?_⟩
            have hbdP := below_drew (w5)
            refine callK_of (here_c ((hM5).below hbdP)) ?_
            rintro _ _ ⟨rfl, rfl⟩
            refine ⟨hMP.1.drew, ?_⟩
            simp -dsimp only [push_cast, Nat.reduceAdd, Nat.reduceLeDiff, Nat.reduceBEq, Int.reduceNe, Int.reduceEq, Int.reduceLT, Int.reduceLE]
            refine ⟨⟨by omega, by omega⟩, ?_⟩
            have hOdP : Vc.Own B 109 3 encIn (w5).drew (.slice (some ⟨gP, 0, none⟩) ((CodeP.push c3 ⟨3, (c1.ins.length : Int), 0⟩)).ins.length icP) ((CodeP.push c3 ⟨3, (c1.ins.length : Int), 0⟩)).ins := hOP0.keptX ((Kept.refl (fun _ => False) (w5)).drew) (fun _ _ h => h)
            refine storeOwnF (i := c1.ins.length) (f := 2) (x := (⟨2, ((c1.ins.length + 1 : Nat) : Int), 0⟩ : I3)) (y := (⟨2, ((c1.ins.length + 1 : Nat) : Int), ((CodeP.push c3 ⟨3, (c1.ins.length : Int), 0⟩).ins.length : Int)⟩ : I3)) hOdP rfl hk5 (by decide) rfl rfl ?_
            intro wP hOP hkP zP
            have hpP := Mk.patch ((hM5).below hbdP) (hMP.below hbdP) rfl hOP hkP
            obtain ⟨hMkP, hstepP⟩ := hpP
            have hstP : Mst mb (w5) wP := (Mst.below hbdP (by have := (hM5).lt; have := (hM5).le; omega)).trans hstepP
            refine ⟨trivial, ?_⟩
            simp -dsimp only [push_cast, Nat.reduceAdd, Nat.reduceLeDiff, Nat.reduceBEq, Int.reduceNe, Int.reduceEq, Int.reduceLT, Int.reduceLE]
            have hc5 : ∃ c5 : CodeP, c5 = ⟨(CodeP.push c3 ⟨3, (c1.ins.length : Int), 0⟩).sets, (CodeP.push c3 ⟨3, (c1.ins.length : Int), 0⟩).ins.set c1.ins.length ⟨2, ((c1.ins.length + 1 : Nat) : Int), ((CodeP.push c3 ⟨3, (c1.ins.length : Int), 0⟩).ins.length : Int)⟩⟩ := ⟨_, rfl⟩
            obtain ⟨c5, hc5⟩ := hc5
            rw [← hc5] at hMkP
            have hn5' : c5.ins.length = c3.ins.length + 1 := by rw [hc5]; simp [CodeP.push]
            have hE5 : Ext c1 c5 := by rw [hc5]; exact ((hE2.trans hE3).trans (Ext.push c3 _)).set (Nat.le_refl _)
            have hk5' : c5.ins[c1.ins.length]? = some ⟨2, ((c1.ins.length + 1 : Nat) : Int), ((c5.ins.length : Nat) : Int)⟩ := by
              rw [hn5', hc5]
              show ((CodeP.push c3 ⟨3, (c1.ins.length : Int), 0⟩).ins.set c1.ins.length _)[c1.ins.length]? = _
              rw [List.getElem?_set, if_pos rfl, if_pos (by omega), hn5]
            have hj5 : c5.ins[c3.ins.length]? = some ⟨3, (c1.ins.length : Int), 0⟩ := by
              rw [hc5]
              show ((CodeP.push c3 ⟨3, (c1.ins.length : Int), 0⟩).ins.set c1.ins.length _)[c3.ins.length]? = _
              rw [List.getElem?_set, if_neg (by omega)]
              exact push_at c3 _
            have hs5 : SameIn c3 c5 (c1.ins.length + 1) c3.ins.length := by
              rw [hc5]
              exact SameIn.set (SameIn.push ((Ext.refl c3).same (Nat.le_refl _)) (Nat.le_refl _)) (.inl (by omega))
            rw [hn2'] at hs3
            refine ⟨⟨c5, hMkP, hE1.trans hE5, by rw [hcl]; omega, ?_⟩, k1.trans (k13.trans (k5.trans hstP))⟩
            simp only [Seg, Int.toNat_natCast]
            refine ⟨c1.ins.length, iter_same (A := c.ins.length) (B := c1.ins.length) (fun a b => hlen c1 a b) (fun p q hp hq => seg_same x p q ((hE5.same (Nat.le_refl _)).sub hp hq)) _ _ _ (Nat.le_refl _) (Nat.le_refl _) hi1, ?_⟩
            rw [if_pos hneg]
            exact ⟨hk5', c3.ins.length, seg_same x _ _ hs5 hs3, hj5, hn5'⟩
          · rintro ce w5 ⟨hl5, ht, k5⟩
            simp -dsimp only [push_cast, Nat.reduceAdd, Nat.reduceLeDiff, Nat.reduceBEq, Int.reduceNe, Int.reduceEq, Int.reduceLT, Int.reduceLE]
            exact ⟨by rw [hcl]; omega, ht, k1.trans (k13.trans k5)⟩
        · rintro ce w4 ⟨hl4, ht, k4⟩
          simp -dsimp only [push_cast, Nat.reduceAdd, Nat.reduceLeDiff, Nat.reduceBEq, Int.reduceNe, Int.reduceEq, Int.reduceLT, Int.reduceLE]
          exact ⟨by rw [hcl]; omega, ht, k1.trans (kP.trans k4)⟩
      · rintro ce w2 ⟨hl2, ht, k2⟩
        simp -dsimp only [push_cast, Nat.reduceAdd, Nat.reduceLeDiff, Nat.reduceBEq, Int.reduceNe, Int.reduceEq, Int.reduceLT, Int.reduceLE]
        exact ⟨by rw [hcl]; omega, ht, k1.trans k2⟩
    · rw [if_neg hpos] at hcl
      have hN0 : ∃ N : Nat, hi = n + N := ⟨(hi - n).toNat, by omega⟩
      obtain ⟨N, rfl⟩ := hN0
      have hNt : ((n : Int) + (N : Int) - (n : Int)).toNat = N := by omega
      rw [hNt] at hcl
      have hl1' := hlen
      have d3' : w1.cell? ⟨xb, 3, none⟩ = some (.int .i64 (n : Int)) := hB1.cell rfl
      simp -dsimp only [push_cast, Nat.reduceAdd, Nat.reduceLeDiff, Nat.reduceBEq, Int.reduceNe, Int.reduceEq, Int.reduceLT, Int.reduceLE, d3']
      refine wpL_cutB [6, 7, 8, 76, 77, 78, 79, 80, 81, 82, 83, 84, 85, 86, 87, 88, 89, 90, 91, 92, 93, 94, 95, 96, 97, 98, 99, 100, 101, 102, 103, 104, 105, 106, 107, 108] (fun z wx => ∃ (ci : CodeP) (ks : List Nat) (ov : Value), z 6 = ov ∧ Mk B mb nb back (fun b => X b ∨ ov.ownBlock = some b) wx ci ∧ Ext c1 ci ∧ ci.ins.length = c1.ins.length + N * (clen x + 1) ∧ SegS ci (Seg (hasN nm) ci back x) N c1.ins.length ks ci.ins.length ∧ Vc.Own w.heap.size 3 1 encN wx ov ks ∧ ks.length ≤ 2000 ∧ Mst mb w wx) ?_ ?_
      · refine wpL_loop [6, 7, 8, 76, 77, 78, 79, 80, 81, 82, 83, 84, 85, 86, 87, 88, 89, 90, 91, 92, 93, 94, 95, 96, 97, 98, 99, 100, 101, 102, 103, 104, 105, 106, 107, 108] (fun z wx => ∃ (s : Nat) (ci : CodeP) (ks : List Nat) (ov : Value), z 7 = .int .i64 ((n + s : Nat) : Int) ∧ z 6 = ov ∧ s ≤ N ∧ Mk B mb nb back (fun b => X b ∨ ov.ownBlock = some b) wx ci ∧ Ext c1 ci ∧ ci.ins.length = c1.ins.length + s * (clen x + 1) ∧ SegS ci (Seg (hasN nm) ci back x) s c1.ins.length ks ci.ins.length ∧ Vc.Own w.heap.size 3 1 encN wx ov ks ∧ ks.length = s ∧ Mst mb w wx) (fun z _ => N + n - (intOf (z 7)).toNat) ?_ ?_
        · exact ⟨0, c1, [], _, rfl, rfl, Nat.zero_le _, hM1.weak (fun b hb => hb.elim id (fun h => by cases h)), Ext.refl c1, by simp, by simp [SegS], Vc.Own.nil (enc := encN) _ _ (fun _ => rfl) _, rfl, k1⟩
        · intro z wx hI
          obtain ⟨s, ci, ks, ov, h7, h6, hs', hMx, hEx, hlx, hSx, hOx, hkl, kx⟩ := hI
          have kxo := kx.out h
          have zx := kx.kept.size
          obtain ⟨hBx, cx, hNx, hPx⟩ := hkeep wx kxo
          have dx4 : wx.cell? ⟨xb, 4, none⟩ = some (.int .i64 ((n : Int) + (N : Int))) := hBx.cell rfl
          simp -dsimp only [push_cast, Nat.reduceAdd, Nat.reduceLeDiff, Nat.reduceBEq, Int.reduceNe, Int.reduceEq, Int.reduceLT, Int.reduceLE, h7, h6, dx4]
          have hsx : ci.sets.length ≤ ci.ins.length := by have := hEx.sum; omega
          have hob := hOx.block
          have hoff := hMx.off hOx (by decide) (by decide) (by omega)
          have hXx : ∀ b, (X b ∨ ov.ownBlock = some b) → (Z b ∨ b = mb ∨ B ≤ b) ∧ b < wx.heap.size := fun b hb => by
            rcases hb with hb | hb
            · have := hX b hb; exact ⟨this.1, by omega⟩
            · have := hob b hb; exact ⟨.inr (.inr (by omega)), this.2⟩
          refine ⟨fun hlt2 => ?_, fun hge => ?_⟩
          · have hmul : (s + 1) * (clen x + 1) ≤ N * (clen x + 1) := Nat.mul_le_mul_right _ (by omega)
            have hsm : (s + 1) * (clen x + 1) = s * (clen x + 1) + (clen x + 1) := Nat.succ_mul _ _
            refine callP_of (add_c hMx (by omega) ⟨2, 0, 0⟩) ?_ ?_
            · rintro _ w2 ⟨hl2, rfl, hM2, k2⟩
              have z2 := k2.kept.size
              have hx2 := push_at ci ⟨2, 0, 0⟩
              have hn2 := push_len ci ⟨2, 0, 0⟩
              simp -dsimp only [push_cast, Nat.reduceAdd, Nat.reduceLeDiff, Nat.reduceBEq, Int.reduceNe, Int.reduceEq, Int.reduceLT, Int.reduceLE]
              -- w2: the world; hM2: Mk at it; (CodeP.push ci ⟨2, 0, 0⟩): the code; ci.ins.length: the index; hx2: what stands there ((CodeP.push ci ⟨2, 0, 0⟩).ins[ci.ins.length]? = some x); (⟨2, 0, 0⟩ : I3): x; 1: the field; (⟨2, ((CodeP.push ci ⟨2, 0, 0⟩).ins.length : Int), 0⟩ : I3): what it becomes
              have hstP := (hM2).st
              obtain ⟨svP, ivP, usP, hMP⟩ := hstP
              have hOP0 := hMP.2.2.1
              obtain ⟨iaP, icP, rfl⟩ := hOP0.slice
              have hgP := hOP0.sl.get hx2
              obtain ⟨gP, oP, eP, _, _⟩ := hgP
              subst eP
              have ho0P : oP = 0 := Vc.Own.at0 hOP0
              subst ho0P
              have hltP := (List.getElem?_eq_some_iff.1 hx2).1
              have hnumP := (hM2).num
              have f1P : (w2).drew.cell? ⟨mb, 1, none⟩ = some (.slice (some ⟨gP, 0, none⟩) ((CodeP.push ci ⟨2, 0, 0⟩)).ins.length icP) := hMP.1.drew.cell rfl
              refine wpL_lastN (fun w' => Blk w' mb 115 [svP, .slice (some ⟨gP, 0, none⟩) ((CodeP.push ci ⟨2, 0, 0⟩)).ins.length icP, .map (some nb), .bool back]) mixed (by kernel_rfl) (by simp) hMP.1.drew ?_
              simp -dsimp only [push_cast, Nat.reduceAdd, Nat.reduceLeDiff, Nat.reduceBEq, Int.reduceNe, Int.reduceEq, Int.reduceLT, Int.reduceLE, f1P]
              refine ⟨fun w'' h => by rw [h.cell (o := 1) rfl]; exact rfl, ?_⟩
              have hbdP := below_drew (w2)
              refine callK_of (here_c ((hM2).below hbdP)) ?_
              rintro _ _ ⟨rfl, rfl⟩
              refine ⟨hMP.1.drew, ?_⟩
              simp -dsimp only [push_cast, Nat.reduceAdd, Nat.reduceLeDiff, Nat.reduceBEq, Int.reduceNe, Int.reduceEq, Int.reduceLT, Int.reduceLE]
              refine ⟨⟨by omega, by omega⟩, ?_⟩
              have hOdP : Vc.Own B 109 3 encIn (w2).drew (.slice (some ⟨gP, 0, none⟩) ((CodeP.push ci ⟨2, 0, 0⟩)).ins.length icP) ((CodeP.push ci ⟨2, 0, 0⟩)).ins := hOP0.keptX ((Kept.refl (fun _ => False) (w2)).drew) (fun _ _ h => h)
              refine storeOwnF (i := ci.ins.length) (f := 1) (x := (⟨2, 0, 0⟩ : I3)) (y := (⟨2, ((CodeP.push ci ⟨2, 0, 0⟩).ins.length : Int), 0⟩ : I3)) hOdP rfl hx2 (by decide) rfl rfl ?_
              intro wP hOP hkP zP
              have hpP := Mk.patch ((hM2).below hbdP) (hMP.below hbdP) rfl hOP hkP
              obtain ⟨hMkP, hstepP⟩ := hpP
              have hstP : Mst mb (w2) wP := (Mst.below hbdP (by have := (hM2).lt; have := (hM2).le; omega)).trans hstepP
              refine ⟨trivial, ?_⟩
              simp -dsimp only [push_cast, Nat.reduceAdd, Nat.reduceLeDiff, Nat.reduceBEq, Int.reduceNe, Int.reduceEq, Int.reduceLT, Int.reduceLE]
              -- behind the patch of a Split at the end of code ci (at wx; added at w2 by k2); kxo: Kept to wx; hMx: Mk at wx; hXx: X at wx
              have hc2 : ∃ c2 : CodeP, c2 = ⟨(CodeP.push ci ⟨2, 0, 0⟩).sets, (CodeP.push ci ⟨2, 0, 0⟩).ins.set ci.ins.length ⟨2, ((CodeP.push ci ⟨2, 0, 0⟩).ins.length : Int), 0⟩⟩ := ⟨_, rfl⟩
              obtain ⟨c2, hc2⟩ := hc2
              rw [← hc2] at hMkP
              have hn2' : c2.ins.length = ci.ins.length + 1 := by rw [hc2]; simp [CodeP.push]
              have hk2 : c2.ins[ci.ins.length]? = some ⟨2, ((ci.ins.length + 1 : Nat) : Int), 0⟩ := by
                rw [hc2]
                show ((CodeP.push ci ⟨2, 0, 0⟩).ins.set ci.ins.length _)[ci.ins.length]? = _
                rw [List.getElem?_set, if_pos rfl, if_pos (by omega), hn2]
              have hE2 : Ext ci c2 := by rw [hc2]; exact (Ext.push ci _).set (Nat.le_refl _)
              have hsets2 : c2.sets = ci.sets := by rw [hc2]; rfl
              have kP : Mst mb wx wP := k2.trans hstP
              have zP' := kP.kept.size
              obtain ⟨hBP, cxP, hNP, hPP⟩ := hkeep wP (kxo.trans (kP.out hMx) (fun _ _ h => h))
              have hXP := fun b hb => (show (Z b ∨ b = mb ∨ B ≤ b) ∧ b < wP.heap.size from by have := hXx b hb; exact ⟨this.1, by omega⟩)
              have e2 : wP.cell? ⟨xb, 2, none⟩ = some (.slice (some ⟨b1, o, none⟩) 1 pc) := hBP.cell rfl
              simp -dsimp only [push_cast, Nat.reduceAdd, Nat.reduceLeDiff, Nat.reduceBEq, Int.reduceNe, Int.reduceEq, Int.reduceLT, Int.reduceLE, e2, cxP]
              refine ⟨by omega, ?_⟩
              refine callP_of (hx hokx hpn nm hpat hr B mb nb back _ Z _ c2 _ hMkP hXP hnb hNP hPP (by rw [hsets2]; omega)) ?_ ?_
              · rintro _ w4 ⟨⟨c3, hM3, hE3, hl3, hs3⟩, k3⟩
                have k13 := kP.trans k3
                have z4 := k13.kept.size
                have hO4 := hOx.keptX k13.kept (fun g hg hm => hoff g hg hm)
                simp -dsimp only [push_cast, Nat.reduceAdd, Nat.reduceLeDiff, Nat.reduceBEq, Int.reduceNe, Int.reduceEq, Int.reduceLT, Int.reduceLE]
                refine rowK elI_53 rfl rfl (by omega) ?_
                intro w5 hw5
                have z5 := hw5.size
                have hM5 := hM3.below hw5.below
                have hO5 := hO4.new hw5
                have hoff5 := hM5.off hO5 (by decide) (by decide) (by omega)
                simp -dsimp only [push_cast, Nat.reduceAdd, Nat.reduceLeDiff, Nat.reduceBEq, Int.reduceNe, Int.reduceEq, Int.reduceLT, Int.reduceLE]
                refine appendK2 (base := w.heap.size) [ci.ins.length] (enc := encN) elI_53 hO5 (by rfl) (fun j u hu => by rw [Nat.zero_add]; exact hw5.cell hu) (by simp [encN, Value.oneCell']) (by have := hM3.num; simp only [List.length_cons, List.length_nil]; omega) (by omega) ?_
                intro v6 w6 hO6 hg6 hn6
                have hk56 : Kept (fun j => ov.ownBlock = some j) w5 w6 := Kept.grown hg6 (fun _ h => h)
                have z6 := hk56.size
                have hM6 := hM5.thru hoff5 hk56 hn6
                have kx6 : Mst mb w w6 := (kx.trans (k13.trans (Mst.below hw5.below (by have := hM3.lt; have := hM3.le; omega)))).thru (hk56.weaken (fun j _ h => (hob j h).1)) (by omega)
                have hE13 := hE2.trans hE3
                have hS3 : SegS c3 (Seg (hasN nm) c3 back x) s c1.ins.length ks ci.ins.length := segS_same (A := c1.ins.length) (fun a b => hlen ci a b) (fun p q hp hq => seg_same x p q ((hE13.same (Nat.le_refl _)).sub hp hq)) (hE13.same (Nat.le_refl _)) _ _ _ (Nat.le_refl _) hSx
                rw [hn2'] at hs3 hl3
                have hS6 : SegS c3 (Seg (hasN nm) c3 back x) (s + 1) c1.ins.length (ks ++ [ci.ins.length]) c3.ins.length := segS_snoc (hE3.ins _ _ hk2) hs3 _ _ _ hS3
                simp -dsimp only [push_cast, Nat.reduceAdd, Nat.reduceLeDiff, Nat.reduceBEq, Int.reduceNe, Int.reduceEq, Int.reduceLT, Int.reduceLE]
                exact ⟨⟨by omega, by omega⟩, ⟨s + 1, c3, _, _, by first | (push_cast; done) | (push_cast; congr 1; done) | (push_cast; congr 1; omega), rfl, by omega, hM6, hEx.trans hE13, by rw [hl3, hlx, hsm]; omega, hS6, hO6, by simp [hkl], kx6⟩, by rw [h7]; simp only [intOf]; omega⟩
              · rintro ce w4 ⟨hl4, ht, k4⟩
                simp -dsimp only [push_cast, Nat.reduceAdd, Nat.reduceLeDiff, Nat.reduceBEq, Int.reduceNe, Int.reduceEq, Int.reduceLT, Int.reduceLE]
                exact ⟨by rw [hcl]; omega, ht, kx.trans (kP.trans k4)⟩
            · rintro ce w2 ⟨hl2, ht, k2⟩
              simp -dsimp only [push_cast, Nat.reduceAdd, Nat.reduceLeDiff, Nat.reduceBEq, Int.reduceNe, Int.reduceEq, Int.reduceLT, Int.reduceLE]
              exact ⟨by rw [hcl]; omega, ht, kx.trans k2⟩
          · have hsN : s = N := by omega
            subst hsN
            have := hMx.num
            have hge2 : s ≤ s * (clen x + 1) := Nat.le_mul_of_pos_right _ (by omega)
            exact ⟨ci, ks, _, rfl, hMx, hEx, hlx, hSx, hOx, by omega, kx⟩
      · intro z w7 hJ
        obtain ⟨cs, ks, ov, h6, hM7, hE7, hl7, hS7, hO7, hkl, k7⟩ := hJ
        have z7 := k7.kept.size
        have hge7 := segS_ge (fun a b => hlen cs a b) _ _ _ hS7
        have e : ∃ e, e = cs.ins.length := ⟨_, rfl⟩
        obtain ⟨e, he⟩ := e
        rw [← he] at hS7 hge7
        obtain ⟨oa, oc, rfl⟩ := hO7.slice
        simp -dsimp only [push_cast, Nat.reduceAdd, Nat.reduceLeDiff, Nat.reduceBEq, Int.reduceNe, Int.reduceEq, Int.reduceLT, Int.reduceLE, h6]
        refine wpL_loop [10, 111, 112, 113, 114, 115, 116, 117, 118, 119, 120, 121, 122, 123, 124, 125] (fun z wz => ∃ (t : Nat) (ct : CodeP), z 111 = .int .i64 t ∧ t ≤ ks.length ∧ Mk B mb nb back (fun b => X b ∨ (Value.slice oa ks.length oc).ownBlock = some b) wz ct ∧ ToldC cs ct (ks.take t) (fun x => ⟨x.op, x.a, (e : Int)⟩) ∧ Vc.Own w.heap.size 3 1 encN wz (.slice oa ks.length oc) ks ∧ Mst mb w wz) (fun z _ => ks.length - (intOf (z 111)).toNat) ?_ ?_
        · exact ⟨0, cs, rfl, Nat.zero_le _, hM7, ToldC.nil cs _, hO7, k7⟩
        · intro z wz hI
          obtain ⟨t, ct, h111, ht, hMz, hTz, hOz, kz⟩ := hI
          have zz := kz.kept.size
          have hoffz := hMz.off hOz (by decide) (by decide) (by omega)
          have hlz := hTz.len
          simp -dsimp only [push_cast, Nat.reduceAdd, Nat.reduceLeDiff, Nat.reduceBEq, Int.reduceNe, Int.reduceEq, Int.reduceLT, Int.reduceLE, h111]
          refine ⟨fun hlt2 => ?_, fun hge => ?_⟩
          · obtain ⟨k, hk, hkm, _, hkt⟩ := lt_get (l := ks) (i := t) (by omega)
            obtain ⟨bj, oj, hej, _, hcj⟩ := hOz.sl.get hk
            cases hej
            have cj : wz.cell? ⟨bj, oj + t, none⟩ = some (.int .i64 (k : Int)) := by simpa [encN] using hcj 0 _ rfl
            have hkl2 : k < ct.ins.length := by have := hge7.2 k hkm; omega
            obtain ⟨xk, hxk, _⟩ := lt_get (l := ct.ins) (i := k) hkl2
            simp -dsimp only [push_cast, Nat.reduceAdd, Nat.reduceLeDiff, Nat.reduceBEq, Int.reduceNe, Int.reduceEq, Int.reduceLT, Int.reduceLE, cj]
            refine ⟨⟨by omega, by omega⟩, ?_⟩
            -- wz: the world; hMz: Mk at it; ct: the code; k: the index; hxk: what stands there (ct.ins[k]? = some x); xk: x; 2: the field; (⟨xk.op, xk.a, (ct.ins.length : Int)⟩ : I3): what it becomes
            have hstP := (hMz).st
            obtain ⟨svP, ivP, usP, hMP⟩ := hstP
            have hOP0 := hMP.2.2.1
            obtain ⟨iaP, icP, rfl⟩ := hOP0.slice
            have hgP := hOP0.sl.get hxk
            obtain ⟨gP, oP, eP, _, _⟩ := hgP
            subst eP
            have ho0P : oP = 0 := Vc.Own.at0 hOP0
            subst ho0P
            have hltP := (List.getElem?_eq_some_iff.1 hxk).1
            have hnumP := (hMz).num
            have f1P : (wz).drew.cell? ⟨mb, 1, none⟩ = some (.slice (some ⟨gP, 0, none⟩) (ct).ins.length icP) := hMP.1.drew.cell rfl
            refine wpL_lastN (fun w' => Blk w' mb 115 [svP, .slice (some ⟨gP, 0, none⟩) (ct).ins.length icP, .map (some nb), .bool back]) mixed (by kernel_rfl) (by simp) hMP.1.drew ?_
            simp -dsimp only [push_cast, Nat.reduceAdd, Nat.reduceLeDiff, Nat.reduceBEq, Int.reduceNe, Int.reduceEq, Int.reduceLT, Int.reduceLE, f1P]
            refine ⟨fun w'' h => by rw [h.cell (o := 1) rfl]; exact rfl, ?_⟩
            have hbdP := below_drew (wz)
            refine callK_of (here_c ((hMz).below hbdP)) ?_
            rintro _ _ ⟨rfl, rfl⟩
            refine ⟨hMP.1.drew, ?_⟩
            simp -dsimp only [push_cast, Nat.reduceAdd, Nat.reduceLeDiff, Nat.reduceBEq, Int.reduceNe, Int.reduceEq, Int.reduceLT, Int.reduceLE]
            refine ⟨⟨by omega, by omega⟩, ?_⟩
            have hOdP : Vc.Own B 109 3 encIn (wz).drew (.slice (some ⟨gP, 0, none⟩) (ct).ins.length icP) (ct).ins := hOP0.keptX ((Kept.refl (fun _ => False) (wz)).drew) (fun _ _ h => h)
            refine storeOwnF (i := k) (f := 2) (x := xk) (y := (⟨xk.op, xk.a, (ct.ins.length : Int)⟩ : I3)) hOdP rfl hxk (by decide) rfl rfl ?_
            intro wP hOP hkP zP
            have hpP := Mk.patch ((hMz).below hbdP) (hMP.below hbdP) rfl hOP hkP
            obtain ⟨hMkP, hstepP⟩ := hpP
            have hstP : Mst mb (wz) wP := (Mst.below hbdP (by have := (hMz).lt; have := (hMz).le; omega)).trans hstepP
            refine ⟨trivial, ?_⟩
            simp -dsimp only [push_cast, Nat.reduceAdd, Nat.reduceLeDiff, Nat.reduceBEq, Int.reduceNe, Int.reduceEq, Int.reduceLT, Int.reduceLE]
            have hTn := ToldC.step (g := fun x => ⟨x.op, x.a, (e : Int)⟩) (fun x => rfl) hTz hxk
            rw [← hkt] at hTn
            have hec : (e : Int) = (ct.ins.length : Int) := by rw [he, hlz]
            rw [hec] at hTn hTz
            exact ⟨⟨by omega, by omega⟩, ⟨t + 1, _, rfl, by omega, hMkP, by rw [hec]; exact hTn, hOz.keptX hstP.kept (fun g hg hm => hoffz g hg hm), kz.trans hstP⟩, by rw [h111]; simp only [intOf]; omega⟩
          · have htl : t = ks.length := by omega
            rw [htl, List.take_length] at hTz
            have hcl2 : ∀ k ∈ ks, c1.ins.length ≤ k := fun k hk => (hge7.2 k hk).1
            have hE := hE1.trans hE7
            have hIn : SameIn c1 ct c.ins.length c1.ins.length := ⟨fun k h1 h2 => by
              rw [hTz.ins k, if_neg (fun hm => by have := hcl2 k hm; omega)]
              exact (hE7.same (Nat.le_refl _)).1 k h1 h2, fun i s hs => by rw [hTz.sets]; exact hE7.sets i s hs⟩
            have hH : segHi ct (Seg (hasN nm) ct back x) e N c1.ins.length := segS_hi (fun a b => hlen cs a b) hTz (fun a b hab hj => seg_same x a b (hTz.same hj) hab) _ _ _ (fun j hj => hj) (fun j hj => .inl hj) hS7
            refine ⟨⟨ct, hMz.weak (fun b hb => .inl hb), ⟨fun k y hy => ?_, fun k s hs => ?_, ?_⟩, by rw [hlz, hcl, hl7]; omega, ?_⟩, kz⟩
            · have hk := (List.getElem?_eq_some_iff.1 hy).1
              have := hE1.sum
              rw [hTz.ins k, if_neg (fun hm => by have := hcl2 k hm; omega)]
              exact hE.ins k y hy
            · rw [hTz.sets]; exact hE.sets k s hs
            · have := hE.sum
              rw [hTz.sets, hlz]; exact this
            · simp only [Seg, Int.toNat_natCast]
              refine ⟨c1.ins.length, iter_same (A := c.ins.length) (B := c1.ins.length) (fun a b => hlen c1 a b) (fun p q hp hq => seg_same x p q (hIn.sub hp hq)) _ _ _ (Nat.le_refl _) (Nat.le_refl _) hi1, ?_⟩
              rw [if_neg hpos, hNt, hlz, ← he]
              exact hH
theorem cd_many (x:PatP)(lo hi:Int)(hx:PatCd x):PatCd (.many x lo hi):=by
 intro hok hpn nm hpat hr B mb nb back X Z w c v h hX hnb hN hV hsum;simp only[patS]at hpat;have hV0:=hV;simp only[PatV]at hV;obtain⟨xb,psv,u,rfl,hxb,hB,_,_⟩:=hV;have hpm:=wd_in_many (x:=x) (lo:=lo) (hi:=hi);have d0:w.cell? ⟨xb,0,none⟩=some (.int .i64 6):=hB.cell rfl;refine fun2_of_vc Tryz.func48 rfl (by kernel_rfl) [] rfl ?_
 simp -dsimp (maxSteps:=4000000) only[push_cast,fr0,Tryz.ntmps48,List.length_cons,List.length_nil,Nat.reduceAdd,Nat.reduceSub,Nat.reduceBEq,List.replicate_succ,List.replicate_zero];simp -dsimp only[push_cast,Nat.reduceAdd,Nat.reduceLeDiff,Nat.reduceBEq,Int.reduceNe,Int.reduceEq,Int.reduceLT,Int.reduceLE,d0]
 refine callP_of (cd_manyF x lo hi hx hok (by omega) nm hpat hr B mb nb back X Z w c _ h hX hnb hN hV0 hsum) ?_ ?_
 ·rintro _ w1 h1;simp -dsimp only[push_cast,Nat.reduceAdd,Nat.reduceLeDiff,Nat.reduceBEq,Int.reduceNe,Int.reduceEq,Int.reduceLT,Int.reduceLE];exact h1
 ·rintro ce w1 h1;simp -dsimp only[push_cast,Nat.reduceAdd,Nat.reduceLeDiff,Nat.reduceBEq,Int.reduceNe,Int.reduceEq,Int.reduceLT,Int.reduceLE];exact h1
theorem cd_altP (l:List PatP)(hne:l≠[])(hall:∀y∈l,PatCd y):PatCd (.alt l):=by
 intro hok hpn nm hpat hr B mb nb back X Z w c v h hX hnb hN hV hsum;simp only[PatOk]at hok;simp only[patS]at hpat;have hpl:=patsS_none.1 hpat;simp only[PatV]at hV;obtain⟨xb,psv,vs,rfl,hxb,hB,hs,hVl⟩:=hV;have hpc:=wd_in_alt (l:=l);have hpc2:=hpc.2.1;obtain⟨pa,pc,rfl,hpcc⟩:=hs.shape;have d0:w.cell? ⟨xb,0,none⟩=some (.int .i64 5):=hB.cell rfl
 have d2:w.cell? ⟨xb,2,none⟩=some (.slice pa vs.length pc):=hB.cell rfl;refine fun2_of_vc Tryz.func48 rfl (by kernel_rfl) [] rfl ?_;simp -dsimp (maxSteps:=4000000) only[push_cast,fr0,Tryz.ntmps48,List.length_cons,List.length_nil,Nat.reduceAdd,Nat.reduceSub,Nat.reduceBEq,List.replicate_succ,List.replicate_zero]
 simp -dsimp only[push_cast,Nat.reduceAdd,Nat.reduceLeDiff,Nat.reduceBEq,Int.reduceNe,Int.reduceEq,Int.reduceLT,Int.reduceLE,d0,d2];refine callP_of (cd_alt l hne hall hok (fun y hy=>by have:=hpc.2.2 y hy;omega) (by omega) nm hpl hr B mb nb back X Z w c _ vs h hX hnb hN hs hVl hsum) ?_ ?_
 ·rintro _ w1 h1;simp -dsimp only[push_cast,Nat.reduceAdd,Nat.reduceLeDiff,Nat.reduceBEq,Int.reduceNe,Int.reduceEq,Int.reduceLT,Int.reduceLE];simp only[clen,Seg];exact h1
 ·rintro ce w1 h1;simp -dsimp only[push_cast,Nat.reduceAdd,Nat.reduceLeDiff,Nat.reduceBEq,Int.reduceNe,Int.reduceEq,Int.reduceLT,Int.reduceLE];simp only[clen];exact h1
mutual
theorem pat_cd:∀x,PatNe x→PatCd x
 | .one k,_=>cd_one k
 | .any,_=>cd_any
 | .edge,_=>cd_edge
 | .cat l,h=>cd_cat l (pats_cd l (by simpa only[PatNe] using h))
 | .alt l,h=>by
  simp only[PatNe]at h;exact cd_altP l h.1 (pats_cd l h.2)
 | .many x lo hi,h=>cd_many x lo hi (pat_cd x (by simpa only[PatNe] using h))
theorem pats_cd:∀(l:List PatP),PatsNe l→∀(x:PatP),x∈l→PatCd x
 | [],_,x,h=>by cases h
 | y::l,hn,x,h=>by
  simp only[PatsNe]at hn;have hy:=pat_cd y hn.1;rcases List.mem_cons.1 h with h|h
  ·rw[h];exact hy
  ·exact pats_cd l hn.2 x h
end
end Go.Proofs.YtledlfbbebodgaaGreatDoor
end
section
namespace Cae
section
variable {has:KindP→Int→Prop} {c:CodeP} {back:Bool}
structure CodeOf (has:KindP→Int→Prop)(back:Bool)(x:PatP)(c:CodeP):Prop where
 seg:Seg has c back x 0 (clen x)
 len:c.ins.length=clen x+1
 yes:c.ins[clen x]?=some ⟨5,0,0⟩
 most:c.ins.length≤2000
 sets:c.sets.length≤c.ins.length
 right:∀s∈c.sets,setRight (-2) s=true
theorem CodeOf.ok {x:PatP}(h:CodeOf has back x c):codeRight c=true:=by
 have hl:=h.len;have hm:=h.most;have hs:=h.sets;have hr:=seg_right x 0 (clen x) (clen x+1) (by omega) h.seg;unfold codeRight;simp only[Bool.and_eq_true,decide_eq_true_eq,List.all_eq_true];refine⟨⟨⟨⟨by omega,by omega,by omega⟩,?_⟩,fun y hy=>?_⟩,h.right⟩
 ·rw[show c.ins.length-1=clen x by omega,h.yes];rfl
 ·obtain⟨k,hk⟩:=List.getElem?_of_mem hy;have hlt:=(List.getElem?_eq_some_iff.1 hk).1;rw[hl];by_cases hc:k<clen x
  ·obtain⟨z,h1,h2⟩:=hr k (Nat.zero_le _) hc;rw[h1]at hk;cases hk;exact h2
  ·have e:k=clen x:=by omega
   rw[e,h.yes]at hk;cases hk;exact right_yes
theorem CodeOf.match_ {x:PatP}{pts:List Int}{i:Nat}(h:CodeOf has back x c)(hpt:∀p∈pts,0≤p∧p≤1114111)(hok:PatOk x)(hi:i≤pts.length):(vmatch c (rdC pts back i)).1=true↔standsM has pts x i back :=
 (vmatch_acc (CR.of h.ok) _).trans (seg_stands hpt hok h.seg h.yes hi)
end
def ProgOf (has:KindP→Int→Prop)(f:FileP)(p:ProgP):Prop:=p.els=f.els∧All2 (fun(r:PairP) (q:RuleP)=>r.brk=q.brk∧CodeOf has true q.before r.before∧CodeOf has false q.after r.after) p.rules f.rules
section
variable {has:KindP→Int→Prop} {pts:List Int}
theorem ProgOf.right {f:FileP}{p:ProgP}(h:ProgOf has f p)(hl:f.rules.length≤20):progRight p=true:=by
 have hlen:=All2.len h.2;unfold progRight;rw[Bool.and_eq_true,decide_eq_true_iff,List.all_eq_true];refine⟨by omega,fun r hr=>?_⟩;have key:∀{l:List PairP} {m:List RuleP},All2 (fun(r:PairP) (q:RuleP)=>r.brk=q.brk∧CodeOf has true q.before r.before∧CodeOf has false q.after r.after) l m→∀r∈l,codeRight r.before=true∧codeRight r.after=true:=by
  intro l m h;induction h with
  | nil=>intro r hr;cases hr
  | cons h1 _ ih =>
   intro r hr;rcases List.mem_cons.1 hr with rfl|hr
   ·exact⟨h1.2.1.ok,h1.2.2.ok⟩
   ·exact ih r hr
 have:=key h.2 r hr;rw[this.1,this.2];rfl
end
end Cae
end
section
namespace Go.Proofs.YtledlfbbebodgaaGreatDoor
open Go.Vc Go.Proofs Go.RowKit Cae
attribute [local irreducible] wpL callK valK unitK runK Fun Sl Vc.Own vc vcOps opK pureK
theorem catchC_c (rb eb:Nat)(e:Int)(f0:List Value)(e0:Value)(hf:f0.length=2)(w:World)(hr:Blk w rb 70 f0)(he:Blk w eb 31 [e0])(hne:rb≠eb) :
  CallsD Tryz.prog 47 #[.pointer (some ⟨rb,0,none⟩),.pointer (some ⟨eb,0,none⟩)] (.panicking [{ v:=.iface 111 (.agg #[.int .i64 e]),recovered:=false }]) w fun ex u' w' =>
   ex=.returned (.tuple #[])∧u'=.panicking [{ v:=.iface 111 (.agg #[.int .i64 e]),recovered:=true }]∧Blk w' rb 70 [.slice none 0 0,.slice none 0 0]∧Blk w' eb 31 [.iface 83 (.int .i64 e)]∧Kept (fun i=>i=rb∨i=eb) w w':=by
 refine callsD_of_wpS Tryz.func47 rfl fun c₀ cs hu=>?_;apply wpS_seq;apply wpS_region;simp[wpOpsS,go_sem,recoverD,hu,Tryz.ntmps47,Exit.thenS];refine wpS_plain (t:=[.pointer (some ⟨rb,0,none⟩),.pointer (some ⟨eb,0,none⟩),.iface 111 (.agg #[.int .i64 e]),undef,undef,.iface 111 (.agg #[.int .i64 e]),undef,undef,undef,undef,undef,undef,undef,undef,undef,undef,undef,undef,undef,undef]) ?_
 push_cast -dsimp;refine assert_same Tryz.underlying111 ?_;push_cast -dsimp;refine allocK (z:=[.int .i64 0]) (by kernel_rfl) ?_;intro w1 hw1;have C1:=hw1.blk;have R1:=hr.below hw1.below hr.lt;have E1:=he.below hw1.below he.lt;have z1:=hw1.size;push_cast -dsimp;refine storeAgg (xt:=111) (n:=1) (by kernel_rfl) C1 rfl (by decide) (by simp[Value.oneCell']) ?_;intro w2 hw2
 have C2:Blk w2 w.heap.size 111 [.int .i64 e]:=hw2.blk;have hrl:=hr.lt;have hel:=he.lt;have R2:=R1.kept hw2.kept (by omega);have E2:=E1.kept hw2.kept (by omega);push_cast -dsimp;refine wpL_draw (fun w'=>Blk w' w.heap.size 111 [.int .i64 e]) mixed (by kernel_rfl) C2.drew ?_;have d2:w2.drew.cell? ⟨w.heap.size,0,none⟩=some (.int .i64 e):=C2.drew.cell rfl;push_cast -dsimp[d2]
 refine⟨fun w'' h=>by rw[Blk.cell h (o:=0) rfl];exact rfl,?_⟩;refine storeAgg (xt:=70) (n:=2) (by kernel_rfl) R2.drew rfl (by rw[hf];exact Nat.le_refl _) (by simp[Value.oneCell']) ?_;intro w3 hw3;have R3:Blk w3 rb 70 [.slice none 0 0,.slice none 0 0]:=by
  have:=hw3.blk;rw[List.take_zero,List.nil_append,Nat.zero_add,List.drop_of_length_le (by rw[hf];exact Nat.le_refl _),List.append_nil]at this;exact this
 have C3:Blk w3 w.heap.size 111 [.int .i64 e]:=C2.drew.kept hw3.kept (by omega);have E3:=E2.drew.kept hw3.kept (by omega);refine⟨C3,?_⟩;push_cast -dsimp;refine storeK_of E3 (by simp) rfl ?_;intro w4 hw4;have E4:Blk w4 eb 31 [.iface 83 (.int .i64 e)]:=hw4.blk;have R4:=R3.kept hw4.kept (by omega);have C4:Blk w4 w.heap.size 111 [.int .i64 e]:=C3.kept hw4.kept (by omega)
 have k4:Kept (fun i=>i=rb∨i=eb) w w4:=(((Kept.new (X:=fun i=>i=rb∨i=eb) hw1).trans hw2.kept (fun i h1 h2=>by omega)).drew.trans hw3.kept (fun i _ h=>.inl h)).trans hw4.kept (fun i _ h=>.inr h);refine⟨C4,?_⟩;push_cast -dsimp;exact⟨rfl,_,rfl,.tuple #[],noRes (by rfl) _ _,rfl,rfl,R4,E4,k4⟩
theorem idleC_c (rb eb:Nat)(w:World) :
  CallsD Tryz.prog 47 #[.pointer (some ⟨rb,0,none⟩),.pointer (some ⟨eb,0,none⟩)] .returning w fun e u' w'=>e=.returned (.tuple #[])∧u'=.returning∧w'=w:=by
 refine callsD_of_wpS Tryz.func47 rfl fun c₀ cs hu=>?_;apply wpS_seq;apply wpS_region;simp[wpOpsS,go_sem,recoverD,hu,Tryz.ntmps47,Exit.thenS];refine wpS_plain (t:=[.pointer (some ⟨rb,0,none⟩),.pointer (some ⟨eb,0,none⟩),.nilIface,undef,undef,.nilIface,undef,undef,undef,undef,undef,undef,undef,undef,undef,undef,undef,undef,undef,undef]) ?_;push_cast -dsimp
 refine⟨rfl,.returning,?_,.tuple #[],noRes (by rfl) _ _,rfl,rfl,rfl⟩;rw[←hu]
theorem NamV.top {X:Nat→Prop}{w:World}{b:Nat}{nm:NamesP}(h:NamV X w b nm):NamV (fun b=>X b∨w.heap.size≤b) w b nm:=by
 obtain⟨kvs,h2,h3⟩:=h;exact⟨kvs,h2,h3.imp fun a b h=>⟨h.1,Sl.top (by decide) h.2.1,h.2.2⟩⟩
def CodR (X:Nat→Prop)(nm:NamesP)(back:Bool)(x:PatP)(w:World)(r:Value)(w':World):Prop :=
 (∃c cv,r=.tuple #[cv,.nilIface]∧CodeV (fun b=>X b∧b<w.heap.size) w' cv c∧CodeOf (hasN nm) back x c) ∨
 (2000<clen x+1∧r=.tuple #[.agg #[.slice none 0 0,.slice none 0 0],.iface 83 (.int .i64 4)])
def CodE (X:Nat→Prop)(nm:NamesP)(back:Bool)(x:PatP)(w:World)(e:Ending)(w':World):Prop:=∃v,e=.returned v∧CodR X nm back x w v w'∧Below w.heap.size w w'
theorem leaveC_ok {X:Nat→Prop}{nm:NamesP}{back:Bool}{p:PatP}{w W:World}{fv:List Value}{t:Fr}(h6:t.getD 6 undef=.pointer (some ⟨w.heap.size,0,none⟩))(h7:t.getD 7 undef=.pointer (some ⟨w.heap.size+1,0,none⟩)){x:Value}
  (B1:Blk W w.heap.size 70 fv) (B2:Blk W (w.heap.size+1) 31 [x]) (hl:fv.length=2) (hR:CodR X nm back p w (.tuple #[.agg fv.toArray,x]) W) (hb:Below w.heap.size w W) :
  bodyPostD Tryz.prog Tryz.f26 (CodE X nm back p w) .ret ⟨t.toArray,[{ target:=.fn (.func 47) #[.pointer (some ⟨w.heap.size,0,none⟩),.pointer (some ⟨w.heap.size+1,0,none⟩)],args:=#[] }]⟩ W:=by
 show Leaves _ _ _ _ _ _ _
 refine leaves_cons (f:=47) (args:=#[.pointer (some ⟨w.heap.size,0,none⟩),.pointer (some ⟨w.heap.size+1,0,none⟩)]) (by simp) ?_ ?_
 ·simp only[invoke,Array.empty_append];exact callFunc_enter Tryz.func47 (by kernel_rfl) (by kernel_rfl)
 refine(idleC_c w.heap.size (w.heap.size+1) W).mono ?_;rintro e u' w' ⟨rfl,rfl,rfl⟩;obtain⟨vs,hv,hk⟩:=resultsC_run (P:=Tryz.prog) (w:=w') Tryz.f26 [.cell 6 70,.cell 7 31] (by rfl) t (fun vs=>vs=[.agg fv.toArray,x]) (by
  have d1:cellsAt w' ⟨w.heap.size,0,none⟩ 0 2=some fv:=by rw[←hl];exact B1.cellsAt
  have d2:w'.cell? ⟨w.heap.size+1,0,none⟩=some x:=B2.cell rfl;push_cast -dsimp[h6,h7,d1,d2])
 refine⟨_,hv,_,rfl,?_,hb⟩;rw[hk];exact hR
theorem leaveC_panic {X:Nat→Prop}{nm:NamesP}{back:Bool}{p:PatP}{w W:World}{fv:List Value}{ce:List PanicEntry}{t:Fr}(h6:t.getD 6 undef=.pointer (some ⟨w.heap.size,0,none⟩))(h7:t.getD 7 undef=.pointer (some ⟨w.heap.size+1,0,none⟩)){x:Value}
  (B1:Blk W w.heap.size 70 fv) (B2:Blk W (w.heap.size+1) 31 [x]) (hl:fv.length=2) (hT:ThrC 4 ce) (hp:2000<clen p+1) (hb:Below w.heap.size w W) :
  bodyPostD Tryz.prog Tryz.f26 (CodE X nm back p w) (.panic ce) ⟨t.toArray,[{ target:=.fn (.func 47) #[.pointer (some ⟨w.heap.size,0,none⟩),.pointer (some ⟨w.heap.size+1,0,none⟩)],args:=#[] }]⟩ W:=by
 unfold ThrC at hT;subst hT
 show Leaves _ _ _ _ _ _ _
 refine leaves_cons (f:=47) (args:=#[.pointer (some ⟨w.heap.size,0,none⟩),.pointer (some ⟨w.heap.size+1,0,none⟩)]) (by simp) ?_ ?_
 ·simp only[invoke,Array.empty_append];exact callFunc_enter Tryz.func47 (by kernel_rfl) (by kernel_rfl)
 refine(catchC_c w.heap.size (w.heap.size+1) 4 fv x hl W B1 B2 (by omega)).mono ?_;rintro e' u' w' ⟨rfl,rfl,R1,R2,hk⟩;have hb':=hb.trans (hk.below (B:=w.heap.size) hb.size (fun i h=>by omega));obtain⟨vs,hv,hk⟩:=resultsC_run (P:=Tryz.prog) (w:=w') Tryz.f26 [.cell 6 70,.cell 7 31] (by rfl) t (fun vs=>vs=[.agg #[.slice none 0 0,.slice none 0 0],.iface 83 (.int .i64 4)]) (by
  have d1:cellsAt w' ⟨w.heap.size,0,none⟩ 0 2=some [.slice none 0 0,.slice none 0 0]:=R1.cellsAt;have d2:w'.cell? ⟨w.heap.size+1,0,none⟩=some (.iface 83 (.int .i64 4)):=R2.cell rfl;push_cast -dsimp[h6,h7,d1,d2])
 show Leaves _ _ _ _ [] (settle _) _
 refine⟨_,hv,_,rfl,?_,hb'⟩;rw[hk];exact .inr ⟨hp,rfl⟩
theorem codePat_c (x:PatP)(hne:PatNe x)(hok:PatOk x)(hpn:wd x≤100000)(nm:NamesP)(hpat:patS nm x=none)(hr:RightN nm)(X:Nat→Prop)(v:Value)(nb:Nat)(back:Bool)(w:World)(hV:PatV X w v x)(hN:NamV X w nb nm) :
  Fun Tryz.prog 26 [v,.map (some nb),.bool back] w fun r w'=>CodR X nm back x w r w'∧Below w.heap.size w w':=by
 unfold Fun;refine⟨callFunc_enter Tryz.func26 (by kernel_rfl) (by kernel_rfl),?_⟩;refine calls_of_wp_defers Tryz.func26 rfl ?_;have e:(([v,.map (some nb),.bool back]:List Value).toArray++Array.replicate (Tryz.f26.ntmps-([v,.map (some nb),.bool back]:List Value).toArray.size) undef)=(fr0 [v,.map (some nb),.bool back] Tryz.f26.ntmps).toArray:=by simp[fr0]
 rw[e];have hptr:=hV.ptr;obtain⟨xb,rfl,hxl,hxX⟩:=hptr;have hnl:=hN.lt;simp -dsimp (maxSteps:=4000000) only[push_cast,fr0,Tryz.ntmps26,List.length_cons,List.length_nil,Nat.reduceAdd,Nat.reduceSub,Nat.reduceBEq,List.replicate_succ,List.replicate_zero]
 show Code.wp _ _ (bodyPostD Tryz.prog Tryz.f26 (CodE X nm back x w)) _ _
 refine seqD (by rfl) ?_;push_cast -dsimp;refine allocK (z:=[.slice none 0 0,.slice none 0 0]) (by kernel_rfl) ?_;intro w1 hw1;have R1:=hw1.blk;have z1:=hw1.size;have b1:=hw1.below;push_cast -dsimp;refine allocK (z:=[.nilIface]) (by kernel_rfl) ?_;intro w2 hw2;have E2:=hw2.blk;have R2:=R1.below hw2.below (by omega);have z2:=hw2.size;have b2:=b1.trans (hw2.below.mono (by omega));rw[z1]at E2
 push_cast -dsimp[z1];refine wp_seq (deferReg (cap:=[.tmp 6,.tmp 7]) (by simp) ?_);simp -dsimp only[push_cast];refine plainD (by rfl) ?_;push_cast -dsimp;refine boxK_of ?_;intro w3 hw3;have hw3:New w2 w3 115 [.slice none 0 0,.slice none 0 0,.map (some nb),.bool back]:=hw3;have z3:=hw3.size;have hrb:∃B:Nat,B=w2.heap.size+1:=⟨_,rfl⟩;obtain⟨B,hB⟩:=hrb
 have b3:Below w.heap.size w w3:=b2.trans (hw3.below.mono (by omega));have R3:=R2.below hw3.below R2.lt;have E3:=E2.below hw3.below E2.lt;have hZ:∃Z:Nat→Prop,Z=fun b=>(X b∧b<w.heap.size)∨b=w.heap.size∨b=w.heap.size+1:=⟨_,rfl⟩;obtain⟨Z,hZ⟩:=hZ;have hM3:Mk B w2.heap.size nb back Z w3 ⟨[],[]⟩ :=
  ⟨⟨_,_,[],hw3.blk,Vc.Own.nil (enc:=encSV) _ _ (fun _=>rfl) _,Vc.Own.nil (enc:=encIn) _ _ (fun _=>rfl) _,rfl,(by intro h;cases h),(by intro h;cases h),(by intro g h;cases h),(by intro i u s h1 h2;simp at h1)⟩,(by omega),(by omega),(by intro s hs;cases hs),(by simp),(by simp)⟩
 have hcls:∀b,(Z b∨b=w2.heap.size∨B≤b)→X b∨w.heap.size≤b:=fun b hb=>by
  rw[hZ]at hb;rcases hb with (hb|hb|hb)|hb|hb
  ·exact .inl hb.1
  ·exact .inr (by omega)
  ·exact .inr (by omega)
  ·exact .inr (by omega)
  ·exact .inr (by omega)
 have hV3:PatV (fun b=>Z b∨b=w2.heap.size∨B≤b) w3 (.pointer (some ⟨xb,0,none⟩)) x:=PatV.mono (Kept.refl (fun _=>False) w3) (fun _ h=>h.elim) hcls (hV.top.below b3);have hN3:NamV (fun b=>Z b∨b=w2.heap.size∨B≤b) w3 nb nm:=NamV.kept (hN.top.below b3) (Kept.refl (fun _=>False) w3) (fun _ h=>h.elim) (fun h=>h) hcls;push_cast -dsimp
 refine callP_of (pat_cd x hne hok hpn nm hpat hr B w2.heap.size nb back Z Z w3 ⟨[],[]⟩ _ hM3 (fun b hb=>⟨.inl hb,by rw[hZ]at hb;rcases hb with hb|hb|hb<;>omega⟩) (by omega) hN3 hV3 (Nat.le_refl _)) ?_ ?_
 ·rintro _ w4 ⟨⟨c4,hM4,hE4,hl4,hs4⟩,k4⟩;have k4o:=k4.out hM3;have z4:=k4o.size;have R4:=R3.kept k4o (by omega);have E4:=E3.kept k4o (by omega);have b4:=b3.trans (k4o.below b3.size (fun i h=>by omega));have hl4:c4.ins.length=clen x:=by simpa using hl4
  have hsum4:c4.sets.length≤c4.ins.length:=by have:=hE4.sum;simpa using this
  push_cast -dsimp;refine callP_of (add_c hM4 (by omega) ⟨5,0,0⟩) ?_ ?_
  ·rintro _ w5 ⟨hl5,rfl,hM5,k5⟩;have k5o:=k5.out hM4;have z5:=k5o.size;have R5:=R4.kept k5o (by omega);have E5:=E4.kept k5o (by omega);have b5:=b4.trans (k5o.below b4.size (fun i h=>by omega));have hst5:=hM5.st;obtain⟨sv,iv,us,hMB,hO1,hO2,hul,hs1,hs2,hs3,hus⟩:=hst5;have hob1:=hO1.block;have hob2:=hO2.block;have hc5:CodeOf (hasN nm) back x (CodeP.push c4 ⟨5,0,0⟩):=by
    have hlen:=push_len c4 ⟨5,0,0⟩;have hy:=push_at c4 ⟨5,0,0⟩;rw[hl4]at hy;refine⟨?_,by omega,hy,hM5.num,?_,hM5.few⟩
    ·have h1:=hs4;rw[show ((⟨[],[]⟩:CodeP).ins.length)=0 from rfl,hl4]at h1;exact seg_same x _ _ ((Ext.push c4 _).same (by omega)) h1
    ·show c4.sets.length≤_
     omega
   obtain⟨sa,sc,rfl⟩:=hO1.slice;obtain⟨ia,ic,rfl⟩:=hO2.slice;have d5:cellsAt w5 ⟨w2.heap.size,0,none⟩ 0 2=some [.slice sa us.length sc,.slice ia (CodeP.push c4 ⟨5,0,0⟩).ins.length ic]:=by
    refine cellsAt_of [.slice sa us.length sc,.slice ia (CodeP.push c4 ⟨5,0,0⟩).ins.length ic] 0 (fun j u hu=>?_);have h0:w5.cell? ⟨w2.heap.size,0,none⟩=some (.slice sa us.length sc):=hMB.cell rfl;have h1:w5.cell? ⟨w2.heap.size,1,none⟩=some (.slice ia (CodeP.push c4 ⟨5,0,0⟩).ins.length ic):=hMB.cell rfl;match j,hu with
    | 0,hu=>cases hu;simpa using h0
    | 1,hu=>cases hu;simpa using h1
    | _+2,hu=>simp at hu
   push_cast -dsimp[d5];refine storeAgg (xt:=70) (n:=2) (by kernel_rfl) R5 rfl (by decide) (by simp[Value.oneCell']) ?_;intro w6 hw6;have R6:Blk w6 w.heap.size 70 [.slice sa us.length sc,.slice ia (CodeP.push c4 ⟨5,0,0⟩).ins.length ic]:=hw6.blk;have E6:=E5.kept hw6.kept (by omega);have z6:=hw6.size;push_cast -dsimp;refine storeK_of E6 (by simp) rfl ?_;intro w7 hw7
   have E7:Blk w7 (w.heap.size+1) 31 [.nilIface]:=hw7.blk;have R7:=R6.kept hw7.kept (by omega);have k57:Kept (fun i=>i=w.heap.size∨i=w.heap.size+1) w5 w7:=(hw6.kept.weaken (fun i _ h=>.inl h)).trans hw7.kept (fun i _ h=>.inr h);have b7:=b5.trans (k57.below b5.size (fun i h=>by omega));have hO1':=hO1.keptX k57 (fun g hg h=>by have:=hob1 g hg;omega)
   have hO2':=hO2.keptX k57 (fun g hg h=>by have:=hob2 g hg;omega);have hCV:CodeV (fun b=>X b∧b<w.heap.size) w7 (.agg #[.slice sa us.length sc,.slice ia (CodeP.push c4 ⟨5,0,0⟩).ins.length ic]) (CodeP.push c4 ⟨5,0,0⟩) :=
    ⟨_,_,rfl,SetsV.of_values hul (hO1'.sl.weaken (fun b h=>by omega)) (fun i u s h1 h2=>((hus i u s h1 h2).kept k57 (fun j hj=>by rw[hZ];exact .inl (.inr hj))).weaken (fun b hb=>by rw[hZ];exact .inl (.inl hb))),hO2'.sl.weaken (fun b h=>by omega)⟩
   push_cast -dsimp;exact leaveC_ok (t:=_) (by rfl) (by rfl) R7 E7 rfl (.inl ⟨_,_,rfl,hCV,hc5⟩) b7
  ·rintro ce w5 ⟨hl5,ht,k5⟩;have k5o:=k5.out hM4;push_cast -dsimp;exact leaveC_panic (t:=_) (by rfl) (by rfl) (R4.kept k5o (by omega)) (E4.kept k5o (by omega)) rfl ht (by omega) (b4.trans (k5o.below b4.size (fun i h=>by omega)))
 ·rintro ce w4 ⟨hl4,ht,k4⟩;have k4o:=k4.out hM3;push_cast -dsimp;exact leaveC_panic (t:=_) (by rfl) (by rfl) (R3.kept k4o (by omega)) (E3.kept k4o (by omega)) rfl ht (by simpa using Nat.lt_succ_of_lt hl4) (b3.trans (k4o.below b3.size (fun i h=>by omega)))
def PairR (X:Nat→Prop)(w:World):List Value→PairP→Prop:=fun cs r=>∃s1 i1 s2 i2,cs=[.bool r.brk,s1,i1,s2,i2]∧CodeV X w (.agg #[s1,i1]) r.before∧CodeV X w (.agg #[s2,i2]) r.after
def ProgV (X:Nat→Prop)(w:World)(v:Value)(p:ProgP):Prop:=∃rv,v=.agg #[rv,.bool p.els]∧Sl X 5 (PairR X w) w rv p.rules
theorem PairR.mono {X X':Nat→Prop}{w w':World}{cs:List Value}{r:PairP}(h:PairR X w cs r)(hs:∀b,¬X b→b<w.heap.size→w'.heap[b]?=w.heap[b]?)(hX:∀b,X' b→X b):PairR X' w' cs r:=by
 obtain⟨s1,i1,s2,i2,rfl,h1,h2⟩:=h;exact⟨s1,i1,s2,i2,rfl,h1.mono hs hX,h2.mono hs hX⟩
theorem PairsV.mono {X X':Nat→Prop}{w w':World}{v:Value}{l:List PairP}(h:Sl X 5 (PairR X w) w v l)(hs:∀b,¬X b→b<w.heap.size→w'.heap[b]?=w.heap[b]?)(hX:∀b,X' b→X b):Sl X' 5 (PairR X' w') w' v l :=
 Sl.mono h hs (fun _ _ _ h=>h.mono hs hX) hX
theorem ProgV.mono {X X':Nat→Prop}{w w':World}{v:Value}{p:ProgP}(h:ProgV X w v p)(hs:∀b,¬X b→b<w.heap.size→w'.heap[b]?=w.heap[b]?)(hX:∀b,X' b→X b):ProgV X' w' v p:=by
 obtain⟨rv,rfl,h⟩:=h;exact⟨rv,rfl,PairsV.mono h hs hX⟩
theorem PairsV.below {X:Nat→Prop}{w w':World}{v:Value}{l:List PairP}(h:Sl X 5 (PairR X w) w v l)(hb:Below w.heap.size w w'):Sl X 5 (PairR X w') w' v l:=PairsV.mono h (fun b _ hlt=>hb.block b hlt) (fun _ h=>h)
theorem PairR.below {X:Nat→Prop}{w w':World}{cs:List Value}{r:PairP}(h:PairR X w cs r)(hb:Below w.heap.size w w'):PairR X w' cs r:=h.mono (fun b _ hlt=>hb.block b hlt) (fun _ h=>h)
theorem ProgV.below {X:Nat→Prop}{w w':World}{v:Value}{p:ProgP}(h:ProgV X w v p)(hb:Below w.heap.size w w'):ProgV X w' v p:=h.mono (fun b _ hlt=>hb.block b hlt) (fun _ h=>h)
theorem Sl.narrow {α:Type}{X X':Nat→Prop}{k:Nat}{R R':List Value→α→Prop}{w:World}{v:Value}{l:List α}(h:Sl X k R w v l)(hk:0<k)(hR:∀cs x,R cs x→R' cs x)(hX:∀b,b<w.heap.size→X' b→X b):Sl X' k R' w v l:=by
 unfold Sl at h ⊢;obtain⟨a,c,he,hc,h⟩:=h;refine⟨a,c,he,hc,fun i x hx=>?_⟩;obtain⟨b,o,cs,ha,hb,hcs,hcell,hr⟩:=h i x hx;have h0:=hcell 0 cs[0] (List.getElem?_eq_getElem (by omega));exact⟨b,o,cs,ha,fun hh=>hb (hX b (World.block_lt_of_cell? w _ h0) hh),hcs,hcell,hR _ _ hr⟩
theorem CodeV.narrow {X X':Nat→Prop}{w:World}{v:Value}{c:CodeP}(h:CodeV X w v c)(hX:∀b,b<w.heap.size→X' b→X b):CodeV X' w v c:=by
 obtain⟨sv,iv,rfl,h1,h2⟩:=h;refine⟨sv,iv,rfl,Sl.narrow h1 (by omega) (fun cs x hx=>?_) hX,Sl.narrow h2 (by omega) (fun _ _ h=>h) hX⟩;obtain⟨u,rfl,hu⟩:=hx;exact⟨u,rfl,Sl.narrow hu (by omega) (fun _ _ h=>h) hX⟩
theorem PairR.narrow {X X':Nat→Prop}{w:World}{cs:List Value}{r:PairP}(h:PairR X w cs r)(hX:∀b,b<w.heap.size→X' b→X b):PairR X' w cs r:=by
 obtain⟨s1,i1,s2,i2,rfl,h1,h2⟩:=h;exact⟨s1,i1,s2,i2,rfl,h1.narrow hX,h2.narrow hX⟩
end Go.Proofs.YtledlfbbebodgaaGreatDoor
end
section
namespace Go.Vc
open Go.RowKit
section
variable {P:Program} {ops:Array Oper} {C:World→Prop}
end
section
variable {P:Program}
def stepKN (P:Program)(ops:List Oper)(C:World→Prop)(o:Option Oper)(K:Fr→World→Prop)(t:Fr)(w:World)(_:Ph (ops,C,K)):Prop:=match o with
 | none=>False
 | some o=>match o.guard with
  | none=>mixKN P o t w C (fun v w'=>K (put t o.dst v) w') .mk
  | some (j,want)=>guardK (slotOf ops j) want t (fun t'=>mixKN P o t' w C (fun v w'=>K (put t' o.dst v) w') .mk) (fun t'=>K (put t' o.dst undef) w) .mk
def vcTreeN (P:Program)(ops:List Oper)(C:World→Prop)(R:Fr→World→Prop):(o:Ord)→Fr→World→Ph (ops,C,R)→Prop
 | .done,t,w,_=>R t w
 | .one k r,t,w,_=>stepKN P ops C ops[k]? (fun t w=>vcTreeN P ops C R r t w .mk) t w .mk
 | .two k r k' r',t,w,_=>stepKN P ops C ops[k]? (fun t w=>vcTreeN P ops C R r t w .mk) t w .mk∧stepKN P ops C ops[k']? (fun t w=>vcTreeN P ops C R r' t w .mk) t w .mk
end
section
variable {P:Program} {t:Fr} {w:World} {C:World→Prop} {K:Fr→World→Prop} {R:Fr→World→Prop}
theorem vcTree_doneN (ops)(p):vcTreeN P ops C R .done t w p=R t w:=(rfl)
theorem vcTree_oneN (ops k r)(p):vcTreeN P ops C R (.one k r) t w p=stepKN P ops C ops[k]? (fun t w=>vcTreeN P ops C R r t w .mk) t w .mk:=(rfl)
theorem vcTree_twoN (ops k r k' r')(p):vcTreeN P ops C R (.two k r k' r') t w p=(stepKN P ops C ops[k]? (fun t w=>vcTreeN P ops C R r t w .mk) t w .mk∧stepKN P ops C ops[k']? (fun t w=>vcTreeN P ops C R r' t w .mk) t w .mk):=(rfl)
theorem stepK_plainN (ops)(d op ty pos af)(p):stepKN P ops C (some ⟨d,op,ty,pos,af,none⟩) K t w p=mixKN P ⟨d,op,ty,pos,af,none⟩ t w C (fun v w'=>K (put t d v) w') .mk:=(rfl)
theorem stepK_guardN (ops)(d op ty pos af j want)(p):stepKN P ops C (some ⟨d,op,ty,pos,af,some (j,want)⟩) K t w p =
  guardK (slotOf ops j) want t (fun t'=>mixKN P ⟨d,op,ty,pos,af,some (j,want)⟩ t' w C (fun v w'=>K (put t' d v) w') .mk) (fun t'=>K (put t' d undef) w) .mk:=(rfl)
end
attribute [push_cast] vcTree_doneN vcTree_oneN vcTree_twoN stepK_plainN stepK_guardN
attribute [irreducible] vcTreeN stepKN
end Go.Vc
end
section
namespace Go.Proofs.YtledlfbbebodgaaGreatDoor
open Go.Vc Go.Proofs Go.RowKit Cae
attribute [local irreducible] wpL callK valK unitK runK Fun Sl Vc.Own vc vcOps opK pureK
theorem chkS_rules {f:FileP}{nm:NamesP}(h:chkS f=none)(hn:namesS [] f.classes=.ok nm):∀r∈f.rules,patS nm r.before=none∧patS nm r.after=none:=by
 unfold chkS at h;rw[hn]at h;dsimp only at h;have h1:rulesS nm f.rules=none:=by
  cases hr:rulesS nm f.rules with
  | none=>rfl
  | some e=>rw[hr]at h;cases h
 exact rulesS_none.1 h1
theorem FileV.top {X:Nat→Prop}{w:World}{v:Value}{f:FileP}(h:FileV X w v f):FileV (fun b=>X b∨w.heap.size≤b) w v f:=by
 obtain⟨cv,rv,cs,rs,rfl,hcs,hrs,hC,hR⟩:=h;exact⟨_,_,cs,rs,rfl,Sl.top (by decide) hcs,Sl.top (by decide) hrs,hC.imp fun a c h=>h.top,hR.imp fun a c h=>h.top⟩
theorem CodR.cases {X:Nat→Prop}{nm:NamesP}{back:Bool}{x:PatP}{w w':World}{r:Value}(h:CodR X nm back x w r w'):∃sv iv ev,r=.tuple #[.agg #[sv,iv],ev]∧sv.oneCell'=true∧iv.oneCell'=true ∧
  ((ev=.nilIface∧∃c,CodeV (fun b=>X b∧b<w.heap.size) w' (.agg #[sv,iv]) c∧CodeOf (hasN nm) back x c)∨(ev=.iface 83 (.int .i64 4)∧2000<clen x+1)):=by
 rcases h with ⟨c,cv,rfl,hV,hC⟩|⟨hl,rfl⟩
 ·have hV0:=hV;obtain⟨sv,iv,rfl,hs,hi⟩:=hV;obtain⟨_,_,rfl,_⟩:=hs.shape;obtain⟨_,_,rfl,_⟩:=hi.shape;exact⟨_,_,_,rfl,rfl,rfl,.inl ⟨rfl,c,hV0,hC⟩⟩
 ·exact⟨_,_,_,rfl,rfl,rfl,.inr ⟨rfl,hl⟩⟩
theorem has_brace {s:List UInt8}{f:FileP}(hl:s.length≤900)(hp:parseR s=.ok f){r:RuleP}(hr:r∈f.rules)(h:2000<clen r.before+1∨2000<clen r.after+1):8<s.length∧((43:UInt8)∈s∨(123:UInt8)∈s):=by
 refine⟨?_,?_⟩
 ·by_cases h8:s.length≤8
  ·have:=clen_short h8 hp r hr;omega
  ·omega
 ·by_cases h1:(43:UInt8)∈s
  ·exact .inl h1
  ·by_cases h2:(123:UInt8)∈s
   ·exact .inr h2
   ·have:=clen_plain hl h1 h2 hp r hr;omega
theorem udec_le (n:Nat):∀(s:List UInt8) (a:Nat),s.length=n→∀u∈udec a s,u.p≤1114111:=by
 induction n using Nat.strongRecOn with
 | _ n ih =>
  intro s a hn u hu;by_cases h:s=[]
  ·subst h;rw[udec_nil]at hu;cases hu
  ·rw[udec_cons a s h]at hu;rcases List.mem_cons.1 hu with rfl|hu
   ·show (ustep s).1≤1114111
    unfold ustep;have:=(ufirst_le s).2.2.2;split<;>simp<;>omega
   ·have h1:=ustep_pos s;have h2:0<s.length:=List.length_pos_iff.2 h;exact ih (s.drop (ustep s).2).length (by simp;omega) _ _ rfl u hu
theorem pts_ok (t:List UInt8):∀p∈ptsU (udec 0 t),0≤p∧p≤1114111:=by
 intro p hp;unfold ptsU at hp;obtain⟨u,hu,rfl⟩:=List.mem_map.1 hp;have:=udec_le t.length t 0 rfl u hu;omega
theorem CodeOf.lens {has:KindP→Int→Prop}{back:Bool}{x:PatP}{c:CodeP}(h:CodeOf has back x c):SetsLen c∧c.ins.length<1000000000∧c.sets.length<1000000000:=by
 have h1:=h.most;have h2:=h.sets;exact⟨fun s hs=>by have:=right_len (h.right s hs);omega,by omega,by omega⟩
theorem reverse_c (l:List Int)(base:Nat)(v:Value)(w:World)(hn:l.length<1000000000)(ho:Vc.Own base 3 1 encZ w v l)(hb0:base≤w.heap.size) :
  Fun Tryz.prog 25 [v] w fun _ w'=>Vc.Own base 3 1 encZ w' v l.reverse∧Below base w w':=by
 obtain⟨a,c,rfl⟩:=ho.slice;refine fun_of_vc Tryz.func25 rfl (by kernel_rfl) [] rfl ?_;push_cast -dsimp(maxSteps:=4000000) [Tryz.ntmps25];refine⟨⟨by omega,by omega⟩,?_⟩
 refine wpL_loop [2,3,7,8,9,10,11,12,13,14,15,16,17,18,19,20,21,22,23,24,25,26,27] (fun z wx=>∃(i:Nat) (cur:List Int),z 2=.int .i64 i∧z 3=.int .i64 ((l.length:Int)-1-i)∧2*i≤l.length∧cur.length=l.length∧(∀k,k<l.length→cur[k]?=if k<i∨l.length-i≤k then l[l.length-1-k]? else l[k]?)∧Vc.Own base 3 1 encZ wx (.slice a l.length c) cur∧Below base w wx) (fun z _=>l.length-(intOf (z 2)).toNat) ?_ ?_
 ·exact⟨0,l,rfl,by simp[at_],by omega,rfl,fun k hk=>by rw[if_neg (by omega)],ho,Below.refl _ _⟩
 ·intro z wx hI;obtain⟨i,cur,h2,h3,hi,hcl,hcur,hox,hb⟩:=hI;have szx:=hb.size;push_cast -dsimp[h2,h3];refine⟨fun hlt=>?_,fun hge=>?_⟩
  ·have hex:∃(x y:Int) (g:Nat),cur[i]?=some x∧cur[l.length-1-i]?=some y∧a=some ⟨g,0,none⟩∧wx.cell? ⟨g,i,none⟩=some (.int .i64 x)∧wx.cell? ⟨g,l.length-1-i,none⟩=some (.int .i64 y):=by
    obtain⟨x,hx,_⟩:=lt_get (l:=cur) (i:=i) (by omega);obtain⟨y,hy,_⟩:=lt_get (l:=cur) (i:=l.length-1-i) (by omega);have hgx:=hox.sl.get hx;have hgy:=hox.sl.get hy;obtain⟨b,o,e,_,hcx⟩:=hgx;obtain⟨b',o',e',_,hcy⟩:=hgy;rw[e]at e';cases e';have ho0:o=0:=Vc.Own.at0 (by rw[←e];exact hox);subst ho0;exact⟨x,y,b,hx,hy,e,by simpa using hcx 0 _ rfl,by simpa using hcy 0 _ rfl⟩
   obtain⟨x,y,g,hx,hy,he,cx,cy⟩:=hex;subst he;have ej:((l.length:Int)-1-i)=((l.length-1-i:Nat):Int):=by omega
   rw[ej];refine wpL_told [0,1,2,3,4,5,6,7,8,9,10,11,12] 13 [14,15] (fun w'=>w'=wx.drew) mixed (by kernel_rfl) rfl ?_;have cx':wx.drew.cell? ⟨g,i,none⟩=some (.int .i64 x):=cx;have cy':wx.drew.cell? ⟨g,l.length-1-i,none⟩=some (.int .i64 y):=cy;have hod:Vc.Own base 3 1 encZ wx.drew (.slice (some ⟨g,0,none⟩) l.length c) cur:=hox.keptX (Kept.refl (fun _=>False) _).drew (fun _ _ h=>h)
   push_cast -dsimp[cx',cy'];refine⟨⟨by omega,by omega⟩,fun w'' hC=>by rw[hC,cy'];exact rfl,⟨by omega,by omega⟩,fun w'' hC=>by rw[hC,cx'];exact rfl,⟨by omega,by omega⟩,?_⟩;refine storeOwn (i:=i) (y:=y) hod rfl (by omega) rfl rfl ?_;intro w1 ho1 hk1 sz1;refine⟨trivial,?_⟩;push_cast -dsimp;refine⟨⟨by omega,by omega⟩,?_⟩;have hl1:l.length-1-i<(cur.set i y).length:=by rw[List.length_set];omega
   have el1:(cur.set i y).length=cur.length:=List.length_set;refine storeOwn (i:=l.length-1-i) (y:=x) ho1 rfl hl1 rfl rfl ?_;intro w2 ho2 hk2 sz2;have hkd:Kept (fun j=>j=g) wx w2:=(((Kept.refl (fun j=>j=g) wx).drew).trans hk1 (fun _ _ h=>h)).trans hk2 (fun _ _ h=>h);have hgb:base≤g:=(hox.block g rfl).1;refine⟨trivial,?_⟩;push_cast -dsimp
   refine⟨⟨by omega,by omega⟩,⟨by omega,by omega⟩,⟨i+1,(cur.set i y).set (l.length-1-i) x,rfl,by congr 1;omega,by omega,by rw[List.length_set,List.length_set];exact hcl,fun k hk=>?_,ho2,hb.trans (hkd.below (by omega) (fun j h=>by rw[show j=g from h];exact hgb))⟩,by rw[h2];simp only[intOf];omega⟩;rw[List.getElem?_set,List.getElem?_set];have hci:=hcur i (by omega)
   have hcj:=hcur (l.length-1-i) (by omega);rw[if_neg (by omega)]at hci hcj;rw[hx]at hci;rw[hy]at hcj;by_cases e1:l.length-1-i=k
   ·rw[if_pos e1,if_pos hl1,if_pos (by omega),hci];congr 1;omega
   ·rw[if_neg e1];by_cases e2:i=k
    ·rw[if_pos e2,if_pos (by omega),if_pos (by omega),hcj];congr 1;omega
    ·rw[if_neg e2,hcur k hk];by_cases e3:k<i∨l.length-i≤k
     ·rw[if_pos e3,if_pos (by omega)]
     ·rw[if_neg e3,if_neg (by omega)]
  ·have hrev:cur=l.reverse:=by
    apply List.ext_getElem?;intro k;by_cases hk:k<l.length
    ·rw[hcur k hk,List.getElem?_reverse hk];split
     ·rfl
     ·congr 1;omega
    ·rw[List.getElem?_eq_none (by omega),List.getElem?_eq_none (by rw[List.length_reverse];omega)]
   subst hrev;exact⟨hox,hb⟩
theorem wrap_u64 (n:Int):IntKind.u64.wrap n=n % 18446744073709551616:=by simp[IntKind.wrap,IntKind.bits,IntKind.signed]
def pickP (a:Int)(n:Nat):Nat:=((a % 18446744073709551616) % (n:Int)).toNat
theorem pickP_lt (a:Int){n:Nat}(h:0<n):pickP a n<n:=by
 unfold pickP;have h1:=Int.emod_lt_of_pos (a % 18446744073709551616) (show (0:Int)<n by omega);have h2:=Int.emod_nonneg (a % 18446744073709551616) (show (n:Int)≠0 by omega);omega
theorem pick_c (a:Int)(n:Nat)(h:0<n)(hn:n<1000000000)(w:World):Fun Tryz.prog 17 [.int .i64 a,.int .i64 n] w fun r w'=>r=.int .i64 (pickP a n)∧w'=w:=by
 refine fun_of_vc Tryz.func17 rfl (by kernel_rfl) [4] rfl ?_;push_cast -dsimp(maxSteps:=4000000) [Tryz.ntmps17];rw[wrap_u64,wrap_u64];have h0:((n:Int) % 18446744073709551616)=n:=by omega
 rw[h0];have h1:=Int.emod_lt_of_pos (a % 18446744073709551616) (show (0:Int)<n by omega);have h2:=Int.emod_nonneg (a % 18446744073709551616) (show (n:Int)≠0 by omega);have h3:(a % 18446744073709551616).tmod n=(a % 18446744073709551616) % n:=Int.tmod_eq_emod_of_nonneg (by omega);refine⟨by omega,?_⟩;rw[h3,wrap_i64 (by omega)];congr 1;unfold pickP;omega
end Go.Proofs.YtledlfbbebodgaaGreatDoor
end
section
namespace Go.Vc
open Go.RowKit
theorem sliceHiOwn {α:Type}{base k n c i:Nat}{e e1 e':TypeId}{k':Nat}{enc:α→List Value}{w:World}{a:Option Addr}{l:List α}{L:VP}{other:Prop}{p}(h:Vc.Own base e k enc w (.slice a n c) l)(hi:i≤n)
  (kk:∀a',Vc.Own base e k enc w (.slice a' i c) (l.take i)→L (.slice a' i c)):sliceK (some (.slice e1)) (some (e',k')) (.slice a n c) none (some (.int .i64 (i:Int))) none L other p:=by
 rcases h.cut with ⟨rfl,rfl,rfl,rfl⟩|⟨g,rfl,hn,hc,hm⟩
 ·obtain rfl:i=0:=by omega
  have:=kk none (by simpa using h);rw[show ((0:Nat):Int)=0 from rfl,sliceK_nil_hi];exact this
 ·rw[sliceK_hi];exact⟨by omega,by rw[Int.toNat_natCast];exact kk _ (hm i hi)⟩
end Go.Vc
namespace Go.Proofs.YtledlfbbebodgaaGreatDoor
open Go.Vc Go.Proofs Go.RowKit Cae
attribute [local irreducible] wpL callK valK unitK runK Fun Sl Vc.Own vc vcOps opK pureK
theorem codeSame_c (s t : List UInt8) (p : Int) (w : World) (hv : Vl w) : Fun Tryz.prog 5 [str s, str t, .int .i64 p] w fun r w' => r = .bool true ∧ Below w.heap.size w w' := by
  refine fun_of_vc Tryz.func5 rfl (by kernel_rfl) [6] rfl ?_
  push_cast -dsimp (maxSteps := 4000000) [Tryz.ntmps5]
  refine ⟨fun hlong => Below.refl _ _, fun hshort => ?_⟩
  refine callK_of (matched_c w) ?_
  rintro _ w1 ⟨rfl, hb1⟩
  have z1 := hb1.size
  have hv1 := hv.below hb1
  push_cast -dsimp
  refine callK_of (rightF_c s w1 hv1.d hv1.e hv1.g) ?_
  rintro _ w2 ⟨⟨a1, n1, k1, a2, n2, k2, e, b, rfl, hright⟩, hb2⟩
  have z2 := hb2.size
  have hbw2 := hb1.trans (hb2.mono z1)
  push_cast -dsimp
  refine allocK (z := [.slice none 0 0, .slice none 0 0, .bool false]) (by kernel_rfl) ?_
  intro w3 hw3
  have z3 := hw3.size
  push_cast -dsimp
  refine storeAgg (n := 3) (by kernel_rfl) hw3.blk rfl (by simp) cellsF3 ?_
  intro w4 hw4
  have z4 := hw4.size
  have B4 : Blk w4 w2.heap.size 26 [.slice a1 n1 k1, .slice a2 n2 k2, .bool e] := hw4.blk
  have hb24 : Below w2.heap.size w2 w4 := hw3.below.trans (hw4.kept.below (by omega) (fun i h => by omega))
  have hbw4 := hbw2.trans (hb24.mono (by omega))
  have hv4 := hv.below hbw4
  have d4 : cellsAt w4 ⟨w2.heap.size, 0, none⟩ 0 3 = some [.slice a1 n1 k1, .slice a2 n2 k2, .bool e] := B4.cellsAt
  cases b with
  | false =>
    push_cast -dsimp
    exact hbw4
  | true =>
    obtain ⟨hs5, f, hpar, hchk, hV⟩ := hright rfl
    have hpo := parse_ok (by omega) hpar
    have hpp := parse_pn hpar (by omega)
    have hne := parse_ne (by omega) hpar
    have hV4 := hV.below hb24
    obtain ⟨cv, rv, cs, rs, hag, S1, S2, A1, A2⟩ := hV
    have hsh1 := S1.shape
    obtain ⟨_, _, rfl, hcc⟩ := hsh1
    have hsh2 := S2.shape
    obtain ⟨_, _, rfl, hrc⟩ := hsh2
    simp only [Value.agg.injEq, Array.mk.injEq, List.cons.injEq, Value.slice.injEq, Value.bool.injEq, and_true] at hag
    obtain ⟨⟨rfl, rfl, rfl⟩, ⟨rfl, rfl, rfl⟩, rfl⟩ := hag
    have hrl := All2.len A2
    push_cast -dsimp [d4]
    refine callK_of (names_c f hpo.1.1 (by omega) _ _ w4 hV4) ?_
    rintro _ w5 ⟨hN, hb5⟩
    have z5 := hb5.size
    unfold NamesRes at hN
    have hnm : ∃ nm, namesS [] f.classes = .ok nm ∧ rulesS nm f.rules = none := by
      unfold chkS at hchk
      cases h : namesS [] f.classes with
      | error e => rw [h] at hchk; simp at hchk
      | ok nm => rw [h] at hchk; exact ⟨nm, rfl, by simpa using hchk⟩
    obtain ⟨nm, hnm, hrules⟩ := hnm
    rw [hnm] at hN
    obtain ⟨mb, hmb, rfl, hNam, hRN⟩ := hN
    have hbw5 := hbw4.trans (hb5.mono (by omega))
    have hv5 := hv.below hbw5
    push_cast -dsimp
    have hul := udec_length t.length t 0 rfl
    refine callK_of (decode_c t (by omega) w5 hv5.l) ?_
    rintro uv w6 ⟨hU, hb6⟩
    have z6 := hb6.size
    obtain ⟨ua, uc, rfl⟩ := hU.slice
    have hbw6 := hbw5.trans (hb6.mono (by omega))
    push_cast -dsimp
    refine ⟨⟨by omega, by omega⟩, ?_⟩
    rw [show (((udec 0 t).length : Int) + 1) = ((udec 0 t).length + 1 : Nat) from by omega]
    refine callK_of (pick_c p ((udec 0 t).length + 1) (by omega) (by omega) w6) ?_
    rintro _ w7 ⟨rfl, e7⟩
    subst e7
    have hbw7 := hbw6
    have hpl := pickP_lt p (n := (udec 0 t).length + 1) (by omega)
    have hi : ∃ i, i = pickP p ((udec 0 t).length + 1) := ⟨_, rfl⟩
    obtain ⟨i, hi⟩ := hi
    rw [← hi] at hpl ⊢
    clear hi
    have hv6 := hv.below hbw7
    push_cast -dsimp
    refine callK_of (points_c t (by omega) w7 hv6.l) ?_
    rintro fv w8 ⟨hF, hb8⟩
    have z8 := hb8.size
    obtain ⟨fa, fc, rfl⟩ := hF.slice
    have hbw8 := hbw7.trans (hb8.mono (by omega))
    have hv8 := hv.below hbw8
    push_cast -dsimp
    have hFl : (List.map (fun u : U => (u.p : Int)) (udec 0 t)).length = (udec 0 t).length := by simp
    refine sliceLoK (hF.sl) (by omega) ?_
    intro fa' fc' hF'
    push_cast -dsimp
    refine callK_of (points_c t (by omega) w8 hv8.l) ?_
    rintro gv w9 ⟨hG, hb9⟩
    have z9 := hb9.size
    obtain ⟨ga, gc, rfl⟩ := hG.slice
    have hbw9 := hbw8.trans (hb9.mono (by omega))
    push_cast -dsimp
    refine sliceHiOwn hG (by omega) ?_
    intro ga' hG'
    push_cast -dsimp
    refine callK_of (reverse_c _ w8.heap.size _ w9 (by simp; omega) hG' (by omega)) ?_
    rintro _ w10 ⟨hR, hb10⟩
    have z10 := hb10.size
    have hbw10 := hbw9.trans (hb10.mono (by omega))
    push_cast -dsimp
    have hcr := chkS_rules hchk hnm
    refine wpL_loop [6, 14, 15, 16, 17, 18, 19, 20, 21, 22, 59, 60, 61, 62, 63, 64, 65, 66, 67, 68, 69, 70, 71, 72, 73, 74, 75, 76, 77, 78, 79, 80, 81, 82, 83, 84, 85, 86, 87, 88, 89, 90, 91, 92, 93, 94, 95, 96, 97, 98, 99, 100, 101, 102, 103, 104, 105, 106, 107, 108, 109, 110, 111, 112, 113, 114, 115, 116, 117, 118, 119, 120, 121, 122, 123, 124, 125, 126, 127, 128, 129, 130, 131, 132, 133, 134, 135, 136, 137, 138, 139, 140, 141, 142, 143, 144] (fun z wx => ∃ j : Nat, z 14 = .int .i64 j ∧ j ≤ f.rules.length ∧ Below w10.heap.size w10 wx) (fun z _ => f.rules.length - (intOf (z 14)).toNat) ?_ ?_
    · exact ⟨0, rfl, Nat.zero_le _, Below.refl _ _⟩
    · intro z wx hI
      obtain ⟨j, h14, hj, hbx⟩ := hI
      have zx := hbx.size
      have hbwx := hbw10.trans (hbx.mono (by omega))
      have hb8x : Below w8.heap.size w8 wx := hb9.trans ((hb10.mono (by omega)).trans (hbx.mono (by omega)))
      have hb5x : Below w5.heap.size w5 wx := hb6.trans ((hb8.mono (by omega)).trans (hb8x.mono (by omega)))
      have hb4x : Below w4.heap.size w4 wx := hb5.trans (hb5x.mono (by omega))
      have F1 : wx.cell? ⟨w2.heap.size, 1, none⟩ = some (.slice a2 rs.length k2) := (B4.below hb4x (by omega)).cell rfl
      push_cast -dsimp [h14, F1]
      refine ⟨fun hlt => ?_, fun hge => ?_⟩
      · obtain ⟨c, hc, hcm, _, _⟩ := lt_get (l := f.rules) (i := j) (by omega)
        obtain ⟨x, hx, hxp, hxb, hx1, hx2⟩ := all2_nth A2 hc
        obtain ⟨xp, xb, x1, x2⟩ := x
        simp only at hxp hxb hx1 hx2
        have S2x := (S2.below hb24).below hb4x
        obtain ⟨b1, o, rfl, hnb, hcell⟩ := S2x.get hx
        have hx1 : PatV (fun _ => False) wx _ _ := PatV.weak ((hx1.below hb24).below hb4x) (fun _ h => h.elim)
        have hx2 : PatV (fun _ => False) wx _ _ := PatV.weak ((hx2.below hb24).below hb4x) (fun _ h => h.elim)
        have g2 : wx.cell? ⟨b1, o + j * 4 + 2, none⟩ = some (.pointer (some ⟨x1, 0, none⟩)) := hcell 2 _ rfl
        have g3 : wx.cell? ⟨b1, o + j * 4 + 3, none⟩ = some (.pointer (some ⟨x2, 0, none⟩)) := hcell 3 _ rfl
        have hpc := hcr c hcm
        have hNx : NamV (fun _ => False) wx mb nm := (hNam.below hb5x).weak (fun _ h => h.elim)
        push_cast -dsimp [g2]
        refine ⟨⟨by omega, by omega⟩, ?_⟩
        refine callK_of (codePat_c c.before (hne c hcm).1 (hpo.1.2 c hcm).1 (hpp c hcm).1 nm hpc.1 hRN _ _ mb true wx hx1 hNx) ?_
        rintro _ wa ⟨hK1, hba⟩
        have za := hba.size
        obtain ⟨s1, i1, ev1, rfl, o1, p1, hK1⟩ := hK1.cases
        have hbxa := hba
        push_cast -dsimp
        refine allocK (z := [.slice none 0 0, .slice none 0 0]) (by kernel_rfl) ?_
        intro wb hwb
        have zb := hwb.size
        push_cast -dsimp
        refine storeAgg (n := 2) (by kernel_rfl) hwb.blk rfl (by simp) (by simp [o1, p1]) ?_
        intro wc hwc
        have zc := hwc.size
        have C1c : Blk wc wa.heap.size 70 [s1, i1] := hwc.blk
        have hbac : Below wa.heap.size wa wc := hwb.below.trans (hwc.kept.below (by omega) (fun i h => by omega))
        have hbxc := hbxa.trans (hbac.mono (by omega))
        have hb4c := hb4x.trans (hbxc.mono (by omega))
        have F1c : wc.cell? ⟨w2.heap.size, 1, none⟩ = some (.slice (some ⟨b1, o, none⟩) rs.length k2) := (B4.below hb4c (by omega)).cell rfl
        have g3c : wc.cell? ⟨b1, o + j * 4 + 3, none⟩ = some (.pointer (some ⟨x2, 0, none⟩)) := (hbxc.cell (World.block_lt_of_cell? wx _ g3)).trans g3
        push_cast -dsimp [F1c, g3c]
        refine ⟨⟨by omega, by omega⟩, ?_⟩
        refine callK_of (codePat_c c.after (hne c hcm).2 (hpo.1.2 c hcm).2 (hpp c hcm).2 nm hpc.2 hRN _ _ mb false wc (hx2.below hbxc) (hNx.below hbxc)) ?_
        rintro _ wd ⟨hK2, hbd⟩
        have zd := hbd.size
        obtain ⟨s2, i2, ev2, rfl, o2, p2, hK2⟩ := hK2.cases
        have hbxd := hbxc.trans (hbd.mono (by omega))
        push_cast -dsimp
        refine allocK (z := [.slice none 0 0, .slice none 0 0]) (by kernel_rfl) ?_
        intro we hwe
        have ze := hwe.size
        push_cast -dsimp
        refine storeAgg (n := 2) (by kernel_rfl) hwe.blk rfl (by simp) (by simp [o2, p2]) ?_
        intro wf hwf
        have zf := hwf.size
        have C2f : Blk wf wd.heap.size 70 [s2, i2] := hwf.blk
        have hbdf : Below wd.heap.size wd wf := hwe.below.trans (hwf.kept.below (by omega) (fun i h => by omega))
        have hbxf := hbxd.trans (hbdf.mono (by omega))
        have hbB : 2000 < clen c.before + 1 ∨ 2000 < clen c.after + 1 → 8 < s.length ∧ ((43 : UInt8) ∈ s ∨ (123 : UInt8) ∈ s) := has_brace (by omega) hpar hcm
        have hb10f := hbx.trans (hbxf.mono (by omega))
        have hbwf := hbwx.trans (hbxf.mono (by omega))
        rcases hK1 with ⟨rfl, q1, hV1, hC1⟩ | ⟨rfl, hl1⟩
        · rcases hK2 with ⟨rfl, q2, hV2, hC2⟩ | ⟨rfl, hl2⟩
          · have hm1 := hC1.match_ (pts_ok t) (hpo.1.2 c hcm).1 (i := i) (by simp [ptsU]; omega)
            have hm2 := hC2.match_ (pts_ok t) (hpo.1.2 c hcm).2 (i := i) (by simp [ptsU]; omega)
            obtain ⟨hl1, hi1, hs1⟩ := CodeOf.lens hC1
            obtain ⟨hl2, hi2, hs2⟩ := CodeOf.lens hC2
            have hbaf : Below wa.heap.size wa wf := hbac.trans ((hbd.mono (by omega)).trans (hbdf.mono (by omega)))
            have dC1 : cellsAt wf ⟨wa.heap.size, 0, none⟩ 0 2 = some [s1, i1] := ((C1c.below hbd (by omega)).below hbdf (by omega)).cellsAt
            have hR' : Sl (fun _ => False) 1 (En encZ) wf _ (rdC (ptsU (udec 0 t)) true i) := (hR.sl.weaken (fun _ h => h.elim)).below hb10f
            have hF'' : Sl (fun _ => False) 1 (En encZ) wf _ (rdC (ptsU (udec 0 t)) false i) := (hF'.weaken (fun _ h => h.elim)).below (hb8x.trans (hbxf.mono (by omega)))
            have hU' : Sl (fun _ => False) 3 (En encU) wf (.slice ua (udec 0 t).length uc) (udec 0 t) := (hU.sl.weaken (fun _ h => h.elim)).below (hb8.trans ((hb8x.mono (by omega)).trans (hbxf.mono (by omega))))
            push_cast -dsimp [dC1]
            refine callK_of (match_c q1 (rdC (ptsU (udec 0 t)) true i) hl1 hi1 hs1 (by simp [rdC, ptsU]; omega) _ _ _ _ wf (hV1.below hbaf) hR') ?_
            rintro _ wg ⟨rfl, hbg⟩
            have zg := hbg.size
            have e1 : MatchV q1 (rdC (ptsU (udec 0 t)) true i) = .tuple #[.bool (vmatch q1 (rdC (ptsU (udec 0 t)) true i)).1, .int .i64 (vmatch q1 (rdC (ptsU (udec 0 t)) true i)).2, .nilIface] := by unfold MatchV; rw [if_pos hC1.ok]
            rw [e1]
            have dC2 : cellsAt wg ⟨wd.heap.size, 0, none⟩ 0 2 = some [s2, i2] := (C2f.below hbg (by omega)).cellsAt
            have hbxg := hbxf.trans (hbg.mono (by omega))
            push_cast -dsimp [dC2]
            refine callK_of (match_c q2 (rdC (ptsU (udec 0 t)) false i) hl2 hi2 hs2 (by simp [rdC, ptsU]; omega) _ _ _ _ wg ((hV2.below hbdf).below hbg) (hF''.below hbg)) ?_
            rintro _ wh ⟨rfl, hbh⟩
            have zh := hbh.size
            have e2 : MatchV q2 (rdC (ptsU (udec 0 t)) false i) = .tuple #[.bool (vmatch q2 (rdC (ptsU (udec 0 t)) false i)).1, .int .i64 (vmatch q2 (rdC (ptsU (udec 0 t)) false i)).2, .nilIface] := by unfold MatchV; rw [if_pos hC2.ok]
            rw [e2]
            have hbxh := hbxg.trans (hbh.mono (by omega))
            have hb4h := hb4x.trans (hbxh.mono (by omega))
            have F1h : wh.cell? ⟨w2.heap.size, 1, none⟩ = some (.slice (some ⟨b1, o, none⟩) rs.length k2) := (B4.below hb4h (by omega)).cell rfl
            have g2h : wh.cell? ⟨b1, o + j * 4 + 2, none⟩ = some (.pointer (some ⟨x1, 0, none⟩)) := (hbxh.cell (World.block_lt_of_cell? wx _ g2)).trans g2
            obtain ⟨B1, hB1⟩ : ∃ B, B = (vmatch q1 (rdC (ptsU (udec 0 t)) true i)).1 := ⟨_, rfl⟩
            obtain ⟨B2, hB2⟩ : ∃ B, B = (vmatch q2 (rdC (ptsU (udec 0 t)) false i)).1 := ⟨_, rfl⟩
            rw [← hB1] at hm1 ⊢
            rw [← hB2] at hm2 ⊢
            push_cast -dsimp [F1h, g2h]
            refine ⟨⟨by omega, by omega⟩, ?_⟩
            refine callK_of (stands_c c.before (hpo.1.2 c hcm).1 (hpp c hcm).1 nm hRN (udec 0 t) (by omega) i (by omega) true (fun _ => False) _ _ mb wh (hx1.below hbxh) (hNx.below hbxh) ((hU'.below hbg).below hbh)) ?_
            rintro _ wi ⟨⟨b, rfl, hb⟩, hbi⟩
            have zi := hbi.size
            obtain rfl : b = B1 := by rw [Bool.eq_iff_iff]; exact hb.trans hm1.symm
            have hbxi := hbxh.trans (hbi.mono (by omega))
            have hb4i := hb4x.trans (hbxi.mono (by omega))
            have F1i : wi.cell? ⟨w2.heap.size, 1, none⟩ = some (.slice (some ⟨b1, o, none⟩) rs.length k2) := (B4.below hb4i (by omega)).cell rfl
            have g3i : wi.cell? ⟨b1, o + j * 4 + 3, none⟩ = some (.pointer (some ⟨x2, 0, none⟩)) := (hbxi.cell (World.block_lt_of_cell? wx _ g3)).trans g3
            have hne1 : (!(b == b)) = false := by simp
            push_cast -dsimp [F1i, g3i, hne1]
            refine ⟨⟨by omega, by omega⟩, ?_⟩
            refine callK_of (stands_c c.after (hpo.1.2 c hcm).2 (hpp c hcm).2 nm hRN (udec 0 t) (by omega) i (by omega) false (fun _ => False) _ _ mb wi (hx2.below hbxi) (hNx.below hbxi) (((hU'.below hbg).below hbh).below hbi)) ?_
            rintro _ wj ⟨⟨b', rfl, hb'⟩, hbj⟩
            have zj := hbj.size
            obtain rfl : b' = B2 := by rw [Bool.eq_iff_iff]; exact hb'.trans hm2.symm
            have hbxj := hbxi.trans (hbj.mono (by omega))
            have hb10j := hbx.trans (hbxj.mono (by omega))
            have hne2 : (!(b' == b')) = false := by simp
            push_cast -dsimp [hne2]
            exact ⟨⟨by omega, by omega⟩, ⟨j + 1, rfl, by omega, hb10j⟩, by rw [h14]; simp only [intOf]; omega⟩
          · skip
            -- .inr hl2: which code would be too long
            have h8 := hbB (.inr hl2)
            push_cast -dsimp
            refine callK_of (hasAny_c s wf h8.1 (by omega) h8.2) ?_
            rintro _ wg ⟨rfl, hbg⟩
            have zg := hbg.size
            have hb10g := hb10f.trans (hbg.mono (by have := hb10f.size; omega))
            push_cast -dsimp
            exact ⟨⟨by omega, by omega⟩, ⟨j + 1, rfl, by omega, hb10g⟩, by rw [h14]; simp only [intOf]; omega⟩
        · rcases hK2 with ⟨rfl, q2, hV2, hC2⟩ | ⟨rfl, hl2⟩
          · skip
            -- .inl hl1: which code would be too long
            have h8 := hbB (.inl hl1)
            push_cast -dsimp
            refine callK_of (hasAny_c s wf h8.1 (by omega) h8.2) ?_
            rintro _ wg ⟨rfl, hbg⟩
            have zg := hbg.size
            have hb10g := hb10f.trans (hbg.mono (by have := hb10f.size; omega))
            push_cast -dsimp
            exact ⟨⟨by omega, by omega⟩, ⟨j + 1, rfl, by omega, hb10g⟩, by rw [h14]; simp only [intOf]; omega⟩
          · skip
            -- .inl hl1: which code would be too long
            have h8 := hbB (.inl hl1)
            push_cast -dsimp
            refine callK_of (hasAny_c s wf h8.1 (by omega) h8.2) ?_
            rintro _ wg ⟨rfl, hbg⟩
            have zg := hbg.size
            have hb10g := hb10f.trans (hbg.mono (by have := hb10f.size; omega))
            push_cast -dsimp
            exact ⟨⟨by omega, by omega⟩, ⟨j + 1, rfl, by omega, hb10g⟩, by rw [h14]; simp only [intOf]; omega⟩
      · exact hbwx
end Go.Proofs.YtledlfbbebodgaaGreatDoor
end
