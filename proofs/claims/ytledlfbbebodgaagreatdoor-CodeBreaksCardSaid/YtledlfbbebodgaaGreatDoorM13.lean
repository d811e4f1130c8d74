/- Lemmas. -/
import Derived.Test.YtledlfbbebodgaaGreatDoorM12
set_option maxRecDepth 100000
set_option linter.unusedSimpArgs false
set_option linter.unusedVariables false
set_option maxHeartbeats 8000000
section
namespace Go.Vc
section
variable {P:Program}
def cutQ (id:Nat)(Q:EP)(M:List Nat)(t:Fr)(J:(Nat→Value)→World→Prop)(_:Ph (Q,t,J)):EP
 | .exit i,t',w'=>i=id∧t'=ov t M (at_ t')∧J (at_ t') w'
 | .panic c,t',w'=>Q (.panic c) t' w'
 | _,_,_=>False
theorem wpL_cutB {c:Code}{id:Nat}{t:Fr}{w:World}{Q:EP}{p q}(M:List Nat)(J:(Nat→Value)→World→Prop)(h1:wpL P c (cutQ id Q M t J .mk) t w .mk)
  (h2:∀z w',J z w'→Q .normal (ov t M z) w'):wpL P c (blockQ id Q p) t w q:=by
 refine wpL_mono ?_ h1;intro e t' w' h;cases e<;>simp only[cutQ]at h
 case exit i =>
  obtain⟨rfl,ht,hJ⟩:=h;rw[blockQ_same,ht];exact h2 _ _ hJ
 case panic c=>exact h
theorem cutQ_exit {id:Nat}{Q:EP}{M:List Nat}{t t':Fr}{w':World}{J:(Nat→Value)→World→Prop}(p):cutQ id Q M t J p (.exit id) t' w'=(t'=ov t M (at_ t')∧J (at_ t') w'):=by simp[cutQ]
theorem cutQ_panic {id:Nat}{Q:EP}{M:List Nat}{t t':Fr}{w':World}{J:(Nat→Value)→World→Prop}(c)(p):cutQ id Q M t J p (.panic c) t' w'=Q (.panic c) t' w':=(rfl)
attribute [push_cast] cutQ_exit cutQ_panic
end
end Go.Vc
namespace Cae
theorem iter_stay {S:Nat→Nat→Prop}{b:Nat}(hb:S b b):∀{n m a:Nat},n≤m→iterM S n a b→iterM S m a b
 | n,m,a,hnm,h=>by
  obtain⟨d,rfl⟩:=Nat.le.dest hnm;clear hnm;induction d with
  | zero=>exact h
  | succ d ih=>exact iterM_snoc.2 ⟨b,ih,hb⟩
end Cae
namespace Go.Proofs.YtledlfbbebodgaaGreatDoor
open Go.Vc Go.Proofs Go.RowKit Cae
attribute [local irreducible] wpL callK valK unitK runK Fun Sl Vc.Own vc vcOps opK pureK
theorem cd_manyF (x : PatP) (lo hi : Int) (hx : PatCd x) (hok : PatOk (.many x lo hi)) (hpn : wd x ≤ 100000) (nm : NamesP) (hpat : patS nm x = none) (hr : RightN nm) (B mb nb : Nat) (back : Bool) (X Z : Nat → Prop) (w : World) (c : CodeP) (v : Value) (h : Mk B mb nb back X w c) (hX : ∀ b, X b → (Z b ∨ b = mb ∨ B ≤ b) ∧ b < w.heap.size) (hnb : nb < mb) (hN : NamV (fun b => Z b ∨ b = mb ∨ B ≤ b) w nb nm) (hV : PatV (fun b => Z b ∨ b = mb ∨ B ≤ b) w v (.many x lo hi)) (hsum : c.sets.length ≤ c.ins.length) :
    Fun2 Tryz.prog 79 [.pointer (some ⟨mb, 0, none⟩), v] w
    (fun r w' => (∃ c', Mk B mb nb back X w' c' ∧ Ext c c' ∧ c'.ins.length = c.ins.length + clen (.many x lo hi) ∧ Seg (hasN nm) c' back (.many x lo hi) c.ins.length c'.ins.length) ∧ Mst mb w w')
    (fun ce w' => 2000 < c.ins.length + clen (.many x lo hi) ∧ ThrC 4 ce ∧ Mst mb w w') := by
  have hlt := h.lt
  have hle := h.le
  simp only [PatOk] at hok
  obtain ⟨hokx, hlo0, hlo1, hhi1, hlh⟩ := hok
  simp only [PatV] at hV
  obtain ⟨xb, psv, u, rfl, hxb, hB, hs, hVx⟩ := hV
  obtain ⟨pa, pc, rfl, hpcc⟩ := hs.shape
  obtain ⟨b1, o, rfl, _, hcell⟩ := hs.get (i := 0) (x := u) rfl
  have hlo : ∃ n : Nat, lo = n := ⟨lo.toNat, by omega⟩
  obtain ⟨n, rfl⟩ := hlo
  have c0 : w.cell? ⟨b1, o, none⟩ = some (.pointer (some ⟨u, 0, none⟩)) := by simpa [encP, ptrP] using hcell 0 _ rfl
  have hb1X : b1 ≠ mb ∧ ¬ B ≤ b1 := by
    have h1 := hs.get (i := 0) (x := u) rfl
    obtain ⟨b', o', e, hne, _⟩ := h1
    cases e
    exact ⟨fun e => hne (.inr (.inl e)), fun e => hne (.inr (.inr e))⟩
  have hkeep : ∀ w1, Kept (fun b => b = mb ∨ B ≤ b) w w1 → Blk w1 xb 39 [.int .i64 6, .pointer none, .slice (some ⟨b1, o, none⟩) 1 pc, .int .i64 n, .int .i64 hi] ∧ w1.cell? ⟨b1, o, none⟩ = some (.pointer (some ⟨u, 0, none⟩)) ∧ NamV (fun b => Z b ∨ b = mb ∨ B ≤ b) w1 nb nm ∧ PatV (fun b => Z b ∨ b = mb ∨ B ≤ b) w1 (ptrP u) x := fun w1 k1 =>
    ⟨hB.kept k1 (fun hh => hxb (.inr hh)), k1.cell c0 (fun hh => hh.elim hb1X.1 hb1X.2), NamV.kept hN k1 (fun _ h => .inr h) (fun h => by rcases h with h | h <;> omega) (fun _ h => h), PatV.mono k1 (fun _ h => .inr h) (fun _ h => h) hVx⟩
  have hlen := fun (ci : CodeP) (a b : Nat) => seg_len (has := hasN nm) (c := ci) (back := back) x a b
  have d3 : w.cell? ⟨xb, 3, none⟩ = some (.int .i64 (n : Int)) := hB.cell rfl
  refine fun2_of_vc Tryz.func79 rfl (by kernel_rfl) [] rfl ?_
  simp -dsimp (maxSteps := 4000000) only [push_cast, fr0, Tryz.ntmps79, List.length_cons, List.length_nil, Nat.reduceAdd, Nat.reduceSub, Nat.reduceBEq, List.replicate_succ, List.replicate_zero]
  simp -dsimp only [push_cast, Nat.reduceAdd, Nat.reduceLeDiff, Nat.reduceBEq, Int.reduceNe, Int.reduceEq, Int.reduceLT, Int.reduceLE, d3]
  refine wpL_cutB [4, 15, 16, 17, 18, 19, 20, 21, 22, 23, 24, 25, 26, 27, 28, 29, 30, 31] (fun z wx => ∃ (ci : CodeP), Mk B mb nb back X wx ci ∧ Ext c ci ∧ ci.ins.length = c.ins.length + n * clen x ∧ iterM (Seg (hasN nm) ci back x) n c.ins.length ci.ins.length ∧ Mst mb w wx) ?_ ?_
  · refine wpL_loop [4, 15, 16, 17, 18, 19, 20, 21, 22, 23, 24, 25, 26, 27, 28, 29, 30, 31] (fun z wx => ∃ (t : Nat) (ci : CodeP), z 15 = .int .i64 t ∧ t ≤ n ∧ Mk B mb nb back X wx ci ∧ Ext c ci ∧ ci.ins.length = c.ins.length + t * clen x ∧ iterM (Seg (hasN nm) ci back x) t c.ins.length ci.ins.length ∧ Mst mb w wx) (fun z _ => n - (intOf (z 15)).toNat) ?_ ?_
    · exact ⟨0, c, rfl, Nat.zero_le _, h, Ext.refl c, by simp, rfl, Mst.refl (by omega)⟩
    · intro z wx hI
      obtain ⟨t, ci, h15, ht, hMx, hEx, hlx, hix, kx⟩ := hI
      have kxo := kx.out h
      have zx := kx.kept.size
      obtain ⟨hBx, cx, hNx, hPx⟩ := hkeep wx kxo
      simp -dsimp only [push_cast, Nat.reduceAdd, Nat.reduceLeDiff, Nat.reduceBEq, Int.reduceNe, Int.reduceEq, Int.reduceLT, Int.reduceLE, h15]
      have hsx : ci.sets.length ≤ ci.ins.length := by have := hEx.sum; omega
      have hXx : ∀ b, X b → (Z b ∨ b = mb ∨ B ≤ b) ∧ b < wx.heap.size := fun b hb => by have := hX b hb; exact ⟨this.1, by omega⟩
      refine ⟨fun hlt2 => ?_, fun hge => ?_⟩
      · have hmul : (t + 1) * clen x ≤ n * clen x := Nat.mul_le_mul_right _ (by omega)
        have hsm : (t + 1) * clen x = t * clen x + clen x := Nat.succ_mul _ _
        refine callK_of (here_c hMx) ?_
        rintro _ w0 ⟨rfl, hw0⟩
        have hw0 := hw0.symm
        subst hw0
        have e2 : wx.cell? ⟨xb, 2, none⟩ = some (.slice (some ⟨b1, o, none⟩) 1 pc) := hBx.cell rfl
        simp -dsimp only [push_cast, Nat.reduceAdd, Nat.reduceLeDiff, Nat.reduceBEq, Int.reduceNe, Int.reduceEq, Int.reduceLT, Int.reduceLE, e2, cx]
        refine ⟨by omega, ?_⟩
        refine callP_of (hx hokx hpn nm hpat hr B mb nb back X Z _ ci _ hMx hXx hnb hNx hPx hsx) ?_ ?_
        · rintro _ wy ⟨⟨cy, hMy, hEy, hly, hsy⟩, ky⟩
          have hiy : iterM (Seg (hasN nm) cy back x) (t + 1) c.ins.length cy.ins.length := iterM_snoc.2 ⟨ci.ins.length, iter_same (A := c.ins.length) (B := ci.ins.length) (fun a b => hlen ci a b) (fun p q hp hq => seg_same x p q ((hEy.same (Nat.le_refl _)).sub hp hq)) _ _ _ (Nat.le_refl _) (Nat.le_refl _) hix, hsy⟩
          simp -dsimp only [push_cast, Nat.reduceAdd, Nat.reduceLeDiff, Nat.reduceBEq, Int.reduceNe, Int.reduceEq, Int.reduceLT, Int.reduceLE]
          refine callK_of (here_c hMy) ?_
          rintro _ w0 ⟨rfl, hw0⟩
          have hw0 := hw0.symm
          subst hw0
          simp -dsimp only [push_cast, Nat.reduceAdd, Nat.reduceLeDiff, Nat.reduceBEq, Int.reduceNe, Int.reduceEq, Int.reduceLT, Int.reduceLE]
          refine ⟨fun heq => ?_, fun hne => ?_⟩
          · have h0 : clen x = 0 := by omega
            have hst : Seg (hasN nm) cy back x cy.ins.length cy.ins.length := by
              have h1 := hsy
              have h2 : ci.ins.length = cy.ins.length := by omega
              rw [h2] at h1
              exact h1
            exact ⟨cy, hMy, hEx.trans hEy, by rw [hly, hlx, h0]; simp, iter_stay hst (by omega) hiy, kx.trans ky⟩
          · exact ⟨⟨by omega, by omega⟩, ⟨t + 1, cy, rfl, by omega, hMy, hEx.trans hEy, by rw [hly, hlx, hsm]; omega, hiy, kx.trans ky⟩, by rw [h15]; simp only [intOf]; omega⟩
        · rintro ce wy ⟨hl2, ht2, ky⟩
          simp -dsimp only [push_cast, Nat.reduceAdd, Nat.reduceLeDiff, Nat.reduceBEq, Int.reduceNe, Int.reduceEq, Int.reduceLT, Int.reduceLE]
          exact ⟨by simp only [clen, Int.toNat_natCast]; omega, ht2, kx.trans ky⟩
      · have htn : t = n := by omega
        subst htn
        exact ⟨ci, hMx, hEx, hlx, hix, kx⟩
  · intro z w1 hJ
    obtain ⟨c1, hM1, hE1, hl1, hi1, k1⟩ := hJ
    have k1o := k1.out h
    have z1 := k1.kept.size
    obtain ⟨hB1, cx1, hN1, hP1⟩ := hkeep w1 k1o
    have d4 : w1.cell? ⟨xb, 4, none⟩ = some (.int .i64 hi) := hB1.cell rfl
    have hs1 : c1.sets.length ≤ c1.ins.length := by have := hE1.sum; omega
    have hX1 : ∀ b, X b → (Z b ∨ b = mb ∨ B ≤ b) ∧ b < w1.heap.size := fun b hb => by have := hX b hb; exact ⟨this.1, by omega⟩
    have hcl : clen (.many x (n : Int) hi) = n * clen x + if hi < 0 then clen x + 2 else (hi - n).toNat * (clen x + 1) := by simp only [clen, Int.toNat_natCast]
    simp -dsimp only [push_cast, Nat.reduceAdd, Nat.reduceLeDiff, Nat.reduceBEq, Int.reduceNe, Int.reduceEq, Int.reduceLT, Int.reduceLE, d4]
    refine ⟨fun hneg => ?_, fun hpos => ?_⟩
    · rw [if_pos hneg] at hcl
      refine callP_of (add_c hM1 (by omega) ⟨2, 0, 0⟩) ?_ ?_
      · rintro _ w2 ⟨hl2, rfl, hM2, k2⟩
        have z2 := k2.kept.size
        have hx2 := push_at c1 ⟨2, 0, 0⟩
        have hn2 := push_len c1 ⟨2, 0, 0⟩
        simp -dsimp only [push_cast, Nat.reduceAdd, Nat.reduceLeDiff, Nat.reduceBEq, Int.reduceNe, Int.reduceEq, Int.reduceLT, Int.reduceLE]
        -- w2: the world; hM2: Mk at it; (CodeP.push c1 ⟨2, 0, 0⟩): the code; c1.ins.length: the index; hx2: what stands there ((CodeP.push c1 ⟨2, 0, 0⟩).ins[c1.ins.length]? = some x); (⟨2, 0, 0⟩ : I3): x; 1: the field; (⟨2, ((CodeP.push c1 ⟨2, 0, 0⟩).ins.length : Int), 0⟩ : I3): what it becomes
        have hstP := (hM2).st
        obtain ⟨svP, ivP, usP, hMP⟩ := hstP
        have hOP0 := hMP.2.2.1
        obtain ⟨iaP, icP, rfl⟩ := hOP0.slice
        have hgP := hOP0.sl.get hx2
        obtain ⟨gP, oP, eP, _, _⟩ := hgP
        subst eP
        have ho0P : oP = 0 := Vc.Own.at0 hOP0
        subst ho0P
        have hltP := (List.getElem?_eq_some_iff.1 hx2).1
        have hnumP := (hM2).num
        have f1P : (w2).drew.cell? ⟨mb, 1, none⟩ = some (.slice (some ⟨gP, 0, none⟩) ((CodeP.push c1 ⟨2, 0, 0⟩)).ins.length icP) := hMP.1.drew.cell rfl
        refine wpL_lastN (fun w' => Blk w' mb 115 [svP, .slice (some ⟨gP, 0, none⟩) ((CodeP.push c1 ⟨2, 0, 0⟩)).ins.length icP, .map (some nb), .bool back]) mixed (by kernel_rfl) (by simp) hMP.1.drew ?_
        simp -dsimp only [push_cast, Nat.reduceAdd, Nat.reduceLeDiff, Nat.reduceBEq, Int.reduceNe, Int.reduceEq, Int.reduceLT, Int.reduceLE, f1P]
        refine ⟨fun w'' h => by rw [h.cell (o := 1) rfl]; exact rfl, ?_⟩
        have hbdP := below_drew (w2)
        refine callK_of (here_c ((hM2).below hbdP)) ?_
        rintro _ _ ⟨rfl, rfl⟩
        refine ⟨hMP.1.drew, ?_⟩
        simp -dsimp only [push_cast, Nat.reduceAdd, Nat.reduceLeDiff, Nat.reduceBEq, Int.reduceNe, Int.reduceEq, Int.reduceLT, Int.reduceLE]
        refine ⟨⟨by omega, by omega⟩, ?_⟩
        have hOdP : Vc.Own B 109 3 encIn (w2).drew (.slice (some ⟨gP, 0, none⟩) ((CodeP.push c1 ⟨2, 0, 0⟩)).ins.length icP) ((CodeP.push c1 ⟨2, 0, 0⟩)).ins := hOP0.keptX ((Kept.refl (fun _ => False) (w2)).drew) (fun _ _ h => h)
        refine storeOwnF (i := c1.ins.length) (f := 1) (x := (⟨2, 0, 0⟩ : I3)) (y := (⟨2, ((CodeP.push c1 ⟨2, 0, 0⟩).ins.length : Int), 0⟩ : I3)) hOdP rfl hx2 (by decide) rfl rfl ?_
        intro wP hOP hkP zP
        have hpP := Mk.patch ((hM2).below hbdP) (hMP.below hbdP) rfl hOP hkP
        obtain ⟨hMkP, hstepP⟩ := hpP
        have hstP : Mst mb (w2) wP := (Mst.below hbdP (by have := (hM2).lt; have := (hM2).le; omega)).trans hstepP
        refine ⟨trivial, ?_⟩
        simp -dsimp only [push_cast, Nat.reduceAdd, Nat.reduceLeDiff, Nat.reduceBEq, Int.reduceNe, Int.reduceEq, Int.reduceLT, Int.reduceLE]
        -- behind the patch of a Split at the end of code c1 (at w1; added at w2 by k2); k1o: Kept to w1; hM1: Mk at w1; hX1: X at w1
        have hc2 : ∃ c2 : CodeP, c2 = ⟨(CodeP.push c1 ⟨2, 0, 0⟩).sets, (CodeP.push c1 ⟨2, 0, 0⟩).ins.set c1.ins.length ⟨2, ((CodeP.push c1 ⟨2, 0, 0⟩).ins.length : Int), 0⟩⟩ := ⟨_, rfl⟩
        obtain ⟨c2, hc2⟩ := hc2
        rw [← hc2] at hMkP
        have hn2' : c2.ins.length = c1.ins.length + 1 := by rw [hc2]; simp [CodeP.push]
        have hk2 : c2.ins[c1.ins.length]? = some ⟨2, ((c1.ins.length + 1 : Nat) : Int), 0⟩ := by
          rw [hc2]
          show ((CodeP.push c1 ⟨2, 0, 0⟩).ins.set c1.ins.length _)[c1.ins.length]? = _
          rw [List.getElem?_set, if_pos rfl, if_pos (by omega), hn2]
        have hE2 : Ext c1 c2 := by rw [hc2]; exact (Ext.push c1 _).set (Nat.le_refl _)
        have hsets2 : c2.sets = c1.sets := by rw [hc2]; rfl
        have kP : Mst mb w1 wP := k2.trans hstP
        have zP' := kP.kept.size
        obtain ⟨hBP, cxP, hNP, hPP⟩ := hkeep wP (k1o.trans (kP.out hM1) (fun _ _ h => h))
        have hXP := fun b hb => (show (Z b ∨ b = mb ∨ B ≤ b) ∧ b < wP.heap.size from by have := hX1 b hb; exact ⟨this.1, by omega⟩)
        have e2 : wP.cell? ⟨xb, 2, none⟩ = some (.slice (some ⟨b1, o, none⟩) 1 pc) := hBP.cell rfl
        simp -dsimp only [push_cast, Nat.reduceAdd, Nat.reduceLeDiff, Nat.reduceBEq, Int.reduceNe, Int.reduceEq, Int.reduceLT, Int.reduceLE, e2, cxP]
        refine ⟨by omega, ?_⟩
        refine callP_of (hx hokx hpn nm hpat hr B mb nb back X Z _ c2 _ hMkP hXP hnb hNP hPP (by rw [hsets2]; omega)) ?_ ?_
        · rintro _ w4 ⟨⟨c3, hM3, hE3, hl3, hs3⟩, k3⟩
          have k13 := kP.trans k3
          have hsum3 : c3.sets.length ≤ c3.ins.length := by have := hE3.sum; rw [hsets2] at this; omega
          simp -dsimp only [push_cast, Nat.reduceAdd, Nat.reduceLeDiff, Nat.reduceBEq, Int.reduceNe, Int.reduceEq, Int.reduceLT, Int.reduceLE]
          refine callP_of (add_c hM3 (by omega) ⟨3, (c1.ins.length : Int), 0⟩) ?_ ?_
          · rintro _ w5 ⟨hl5, rfl, hM5, k5⟩
            have hk5 : (CodeP.push c3 ⟨3, (c1.ins.length : Int), 0⟩).ins[c1.ins.length]? = some ⟨2, ((c1.ins.length + 1 : Nat) : Int), 0⟩ := (Ext.push c3 _).ins _ _ (hE3.ins _ _ hk2)
            have hn5 := push_len c3 ⟨3, (c1.ins.length : Int), 0⟩
            simp -dsimp only [push_cast, Nat.reduceAdd, Nat.reduceLeDiff, Nat.reduceBEq, Int.reduceNe, Int.reduceEq, Int.reduceLT, Int.reduceLE]
            -- w5: the world; hM5: Mk at it; (CodeP.push c3 ⟨3, (c1.ins.length : Int), 0⟩): the code; c1.ins.length: the index; hk5: what stands there ((CodeP.push c3 ⟨3, (c1.ins.length : Int), 0⟩).ins[c1.ins.length]? = some x); (⟨2, ((c1.ins.length + 1 : Nat) : Int), 0⟩ : I3): x; 2: the field; (⟨2, ((c1.ins.length + 1 : Nat) : Int), ((CodeP.push c3 ⟨3, (c1.ins.length : Int), 0⟩).ins.length : Int)⟩ : I3): what it becomes
            have hstP := (hM5).st
            obtain ⟨svP, ivP, usP, hMP⟩ := hstP
            have hOP0 := hMP.2.2.1
            obtain ⟨iaP, icP, rfl⟩ := hOP0.slice
            have hgP := hOP0.sl.get hk5
            obtain ⟨gP, oP, eP, _, _⟩ := hgP
            subst eP
            have ho0P : oP = 0 := Vc.Own.at0 hOP0
            subst ho0P
            have hltP := (List.getElem?_eq_some_iff.1 hk5).1
            have hnumP := (hM5).num
            have f1P : (w5).drew.cell? ⟨mb, 1, none⟩ = some (.slice (some ⟨gP, 0, none⟩) ((CodeP.push c3 ⟨3, (c1.ins.length : Int), 0⟩)).ins.length icP) := hMP.1.drew.cell rfl
            refine wpL_lastN (fun w' => Blk w' mb 115 [svP, .slice (some ⟨gP, 0, none⟩) ((CodeP.push c3 ⟨3, (c1.ins.length : Int), 0⟩)).ins.length icP, .map (some nb), .bool back]) mixed (by kernel_rfl) (by simp) hMP.1.drew ?_
            simp -dsimp only [push_cast, Nat.reduceAdd, Nat.reduceLeDiff, Nat.reduceBEq, Int.reduceNe, Int.reduceEq, Int.reduceLT, Int.reduceLE, f1P]
            refine ⟨fun w'' h => by rw [h.cell (o := 1) rfl]; exact rfl, ?_⟩
            have hbdP := below_drew (w5)
            refine callK_of (here_c ((hM5).below hbdP)) ?_
            rintro _ _ ⟨rfl, rfl⟩
            refine ⟨hMP.1.drew, ?_⟩
            simp -dsimp only [push_cast, Nat.reduceAdd, Nat.reduceLeDiff, Nat.reduceBEq, Int.reduceNe, Int.reduceEq, Int.reduceLT, Int.reduceLE]
            refine ⟨⟨by omega, by omega⟩, ?_⟩
            have hOdP : Vc.Own B 109 3 encIn (w5).drew (.slice (some ⟨gP, 0, none⟩) ((CodeP.push c3 ⟨3, (c1.ins.length : Int), 0⟩)).ins.length icP) ((CodeP.push c3 ⟨3, (c1.ins.length : Int), 0⟩)).ins := hOP0.keptX ((Kept.refl (fun _ => False) (w5)).drew) (fun _ _ h => h)
            refine storeOwnF (i := c1.ins.length) (f := 2) (x := (⟨2, ((c1.ins.length + 1 : Nat) : Int), 0⟩ : I3)) (y := (⟨2, ((c1.ins.length + 1 : Nat) : Int), ((CodeP.push c3 ⟨3, (c1.ins.length : Int), 0⟩).ins.length : Int)⟩ : I3)) hOdP rfl hk5 (by decide) rfl rfl ?_
            intro wP hOP hkP zP
            have hpP := Mk.patch ((hM5).below hbdP) (hMP.below hbdP) rfl hOP hkP
            obtain ⟨hMkP, hstepP⟩ := hpP
            have hstP : Mst mb (w5) wP := (Mst.below hbdP (by have := (hM5).lt; have := (hM5).le; omega)).trans hstepP
            refine ⟨trivial, ?_⟩
            simp -dsimp only [push_cast, Nat.reduceAdd, Nat.reduceLeDiff, Nat.reduceBEq, Int.reduceNe, Int.reduceEq, Int.reduceLT, Int.reduceLE]
            have hc5 : ∃ c5 : CodeP, c5 = ⟨(CodeP.push c3 ⟨3, (c1.ins.length : Int), 0⟩).sets, (CodeP.push c3 ⟨3, (c1.ins.length : Int), 0⟩).ins.set c1.ins.length ⟨2, ((c1.ins.length + 1 : Nat) : Int), ((CodeP.push c3 ⟨3, (c1.ins.length : Int), 0⟩).ins.length : Int)⟩⟩ := ⟨_, rfl⟩
            obtain ⟨c5, hc5⟩ := hc5
            rw [← hc5] at hMkP
            have hn5' : c5.ins.length = c3.ins.length + 1 := by rw [hc5]; simp [CodeP.push]
            have hE5 : Ext c1 c5 := by rw [hc5]; exact ((hE2.trans hE3).trans (Ext.push c3 _)).set (Nat.le_refl _)
            have hk5' : c5.ins[c1.ins.length]? = some ⟨2, ((c1.ins.length + 1 : Nat) : Int), ((c5.ins.length : Nat) : Int)⟩ := by
              rw [hn5', hc5]
              show ((CodeP.push c3 ⟨3, (c1.ins.length : Int), 0⟩).ins.set c1.ins.length _)[c1.ins.length]? = _
              rw [List.getElem?_set, if_pos rfl, if_pos (by omega), hn5]
            have hj5 : c5.ins[c3.ins.length]? = some ⟨3, (c1.ins.length : Int), 0⟩ := by
              rw [hc5]
              show ((CodeP.push c3 ⟨3, (c1.ins.length : Int), 0⟩).ins.set c1.ins.length _)[c3.ins.length]? = _
              rw [List.getElem?_set, if_neg (by omega)]
              exact push_at c3 _
            have hs5 : SameIn c3 c5 (c1.ins.length + 1) c3.ins.length := by
              rw [hc5]
              exact SameIn.set (SameIn.push ((Ext.refl c3).same (Nat.le_refl _)) (Nat.le_refl _)) (.inl (by omega))
            rw [hn2'] at hs3
            refine ⟨⟨c5, hMkP, hE1.trans hE5, by rw [hcl]; omega, ?_⟩, k1.trans (k13.trans (k5.trans hstP))⟩
            simp only [Seg, Int.toNat_natCast]
            refine ⟨c1.ins.length, iter_same (A := c.ins.length) (B := c1.ins.length) (fun a b => hlen c1 a b) (fun p q hp hq => seg_same x p q ((hE5.same (Nat.le_refl _)).sub hp hq)) _ _ _ (Nat.le_refl _) (Nat.le_refl _) hi1, ?_⟩
            rw [if_pos hneg]
            exact ⟨hk5', c3.ins.length, seg_same x _ _ hs5 hs3, hj5, hn5'⟩
          · rintro ce w5 ⟨hl5, ht, k5⟩
            simp -dsimp only [push_cast, Nat.reduceAdd, Nat.reduceLeDiff, Nat.reduceBEq, Int.reduceNe, Int.reduceEq, Int.reduceLT, Int.reduceLE]
            exact ⟨by rw [hcl]; omega, ht, k1.trans (k13.trans k5)⟩
        · rintro ce w4 ⟨hl4, ht, k4⟩
          simp -dsimp only [push_cast, Nat.reduceAdd, Nat.reduceLeDiff, Nat.reduceBEq, Int.reduceNe, Int.reduceEq, Int.reduceLT, Int.reduceLE]
          exact ⟨by rw [hcl]; omega, ht, k1.trans (kP.trans k4)⟩
      · rintro ce w2 ⟨hl2, ht, k2⟩
        simp -dsimp only [push_cast, Nat.reduceAdd, Nat.reduceLeDiff, Nat.reduceBEq, Int.reduceNe, Int.reduceEq, Int.reduceLT, Int.reduceLE]
        exact ⟨by rw [hcl]; omega, ht, k1.trans k2⟩
    · rw [if_neg hpos] at hcl
      have hN0 : ∃ N : Nat, hi = n + N := ⟨(hi - n).toNat, by omega⟩
      obtain ⟨N, rfl⟩ := hN0
      have hNt : ((n : Int) + (N : Int) - (n : Int)).toNat = N := by omega
      rw [hNt] at hcl
      have hl1' := hlen
      have d3' : w1.cell? ⟨xb, 3, none⟩ = some (.int .i64 (n : Int)) := hB1.cell rfl
      simp -dsimp only [push_cast, Nat.reduceAdd, Nat.reduceLeDiff, Nat.reduceBEq, Int.reduceNe, Int.reduceEq, Int.reduceLT, Int.reduceLE, d3']
      refine wpL_cutB [6, 7, 8, 76, 77, 78, 79, 80, 81, 82, 83, 84, 85, 86, 87, 88, 89, 90, 91, 92, 93, 94, 95, 96, 97, 98, 99, 100, 101, 102, 103, 104, 105, 106, 107, 108] (fun z wx => ∃ (ci : CodeP) (ks : List Nat) (ov : Value), z 6 = ov ∧ Mk B mb nb back (fun b => X b ∨ ov.ownBlock = some b) wx ci ∧ Ext c1 ci ∧ ci.ins.length = c1.ins.length + N * (clen x + 1) ∧ SegS ci (Seg (hasN nm) ci back x) N c1.ins.length ks ci.ins.length ∧ Vc.Own w.heap.size 3 1 encN wx ov ks ∧ ks.length ≤ 2000 ∧ Mst mb w wx) ?_ ?_
      · refine wpL_loop [6, 7, 8, 76, 77, 78, 79, 80, 81, 82, 83, 84, 85, 86, 87, 88, 89, 90, 91, 92, 93, 94, 95, 96, 97, 98, 99, 100, 101, 102, 103, 104, 105, 106, 107, 108] (fun z wx => ∃ (s : Nat) (ci : CodeP) (ks : List Nat) (ov : Value), z 7 = .int .i64 ((n + s : Nat) : Int) ∧ z 6 = ov ∧ s ≤ N ∧ Mk B mb nb back (fun b => X b ∨ ov.ownBlock = some b) wx ci ∧ Ext c1 ci ∧ ci.ins.length = c1.ins.length + s * (clen x + 1) ∧ SegS ci (Seg (hasN nm) ci back x) s c1.ins.length ks ci.ins.length ∧ Vc.Own w.heap.size 3 1 encN wx ov ks ∧ ks.length = s ∧ Mst mb w wx) (fun z _ => N + n - (intOf (z 7)).toNat) ?_ ?_
        · exact ⟨0, c1, [], _, rfl, rfl, Nat.zero_le _, hM1.weak (fun b hb => hb.elim id (fun h => by cases h)), Ext.refl c1, by simp, by simp [SegS], Vc.Own.nil (enc := encN) _ _ (fun _ => rfl) _, rfl, k1⟩
        · intro z wx hI
          obtain ⟨s, ci, ks, ov, h7, h6, hs', hMx, hEx, hlx, hSx, hOx, hkl, kx⟩ := hI
          have kxo := kx.out h
          have zx := kx.kept.size
          obtain ⟨hBx, cx, hNx, hPx⟩ := hkeep wx kxo
          have dx4 : wx.cell? ⟨xb, 4, none⟩ = some (.int .i64 ((n : Int) + (N : Int))) := hBx.cell rfl
          simp -dsimp only [push_cast, Nat.reduceAdd, Nat.reduceLeDiff, Nat.reduceBEq, Int.reduceNe, Int.reduceEq, Int.reduceLT, Int.reduceLE, h7, h6, dx4]
          have hsx : ci.sets.length ≤ ci.ins.length := by have := hEx.sum; omega
          have hob := hOx.block
          have hoff := hMx.off hOx (by decide) (by decide) (by omega)
          have hXx : ∀ b, (X b ∨ ov.ownBlock = some b) → (Z b ∨ b = mb ∨ B ≤ b) ∧ b < wx.heap.size := fun b hb => by
            rcases hb with hb | hb
            · have := hX b hb; exact ⟨this.1, by omega⟩
            · have := hob b hb; exact ⟨.inr (.inr (by omega)), this.2⟩
          refine ⟨fun hlt2 => ?_, fun hge => ?_⟩
          · have hmul : (s + 1) * (clen x + 1) ≤ N * (clen x + 1) := Nat.mul_le_mul_right _ (by omega)
            have hsm : (s + 1) * (clen x + 1) = s * (clen x + 1) + (clen x + 1) := Nat.succ_mul _ _
            refine callP_of (add_c hMx (by omega) ⟨2, 0, 0⟩) ?_ ?_
            · rintro _ w2 ⟨hl2, rfl, hM2, k2⟩
              have z2 := k2.kept.size
              have hx2 := push_at ci ⟨2, 0, 0⟩
              have hn2 := push_len ci ⟨2, 0, 0⟩
              simp -dsimp only [push_cast, Nat.reduceAdd, Nat.reduceLeDiff, Nat.reduceBEq, Int.reduceNe, Int.reduceEq, Int.reduceLT, Int.reduceLE]
              -- w2: the world; hM2: Mk at it; (CodeP.push ci ⟨2, 0, 0⟩): the code; ci.ins.length: the index; hx2: what stands there ((CodeP.push ci ⟨2, 0, 0⟩).ins[ci.ins.length]? = some x); (⟨2, 0, 0⟩ : I3): x; 1: the field; (⟨2, ((CodeP.push ci ⟨2, 0, 0⟩).ins.length : Int), 0⟩ : I3): what it becomes
              have hstP := (hM2).st
              obtain ⟨svP, ivP, usP, hMP⟩ := hstP
              have hOP0 := hMP.2.2.1
              obtain ⟨iaP, icP, rfl⟩ := hOP0.slice
              have hgP := hOP0.sl.get hx2
              obtain ⟨gP, oP, eP, _, _⟩ := hgP
              subst eP
              have ho0P : oP = 0 := Vc.Own.at0 hOP0
              subst ho0P
              have hltP := (List.getElem?_eq_some_iff.1 hx2).1
              have hnumP := (hM2).num
              have f1P : (w2).drew.cell? ⟨mb, 1, none⟩ = some (.slice (some ⟨gP, 0, none⟩) ((CodeP.push ci ⟨2, 0, 0⟩)).ins.length icP) := hMP.1.drew.cell rfl
              refine wpL_lastN (fun w' => Blk w' mb 115 [svP, .slice (some ⟨gP, 0, none⟩) ((CodeP.push ci ⟨2, 0, 0⟩)).ins.length icP, .map (some nb), .bool back]) mixed (by kernel_rfl) (by simp) hMP.1.drew ?_
              simp -dsimp only [push_cast, Nat.reduceAdd, Nat.reduceLeDiff, Nat.reduceBEq, Int.reduceNe, Int.reduceEq, Int.reduceLT, Int.reduceLE, f1P]
              refine ⟨fun w'' h => by rw [h.cell (o := 1) rfl]; exact rfl, ?_⟩
              have hbdP := below_drew (w2)
              refine callK_of (here_c ((hM2).below hbdP)) ?_
              rintro _ _ ⟨rfl, rfl⟩
              refine ⟨hMP.1.drew, ?_⟩
              simp -dsimp only [push_cast, Nat.reduceAdd, Nat.reduceLeDiff, Nat.reduceBEq, Int.reduceNe, Int.reduceEq, Int.reduceLT, Int.reduceLE]
              refine ⟨⟨by omega, by omega⟩, ?_⟩
              have hOdP : Vc.Own B 109 3 encIn (w2).drew (.slice (some ⟨gP, 0, none⟩) ((CodeP.push ci ⟨2, 0, 0⟩)).ins.length icP) ((CodeP.push ci ⟨2, 0, 0⟩)).ins := hOP0.keptX ((Kept.refl (fun _ => False) (w2)).drew) (fun _ _ h => h)
              refine storeOwnF (i := ci.ins.length) (f := 1) (x := (⟨2, 0, 0⟩ : I3)) (y := (⟨2, ((CodeP.push ci ⟨2, 0, 0⟩).ins.length : Int), 0⟩ : I3)) hOdP rfl hx2 (by decide) rfl rfl ?_
              intro wP hOP hkP zP
              have hpP := Mk.patch ((hM2).below hbdP) (hMP.below hbdP) rfl hOP hkP
              obtain ⟨hMkP, hstepP⟩ := hpP
              have hstP : Mst mb (w2) wP := (Mst.below hbdP (by have := (hM2).lt; have := (hM2).le; omega)).trans hstepP
              refine ⟨trivial, ?_⟩
              simp -dsimp only [push_cast, Nat.reduceAdd, Nat.reduceLeDiff, Nat.reduceBEq, Int.reduceNe, Int.reduceEq, Int.reduceLT, Int.reduceLE]
              -- behind the patch of a Split at the end of code ci (at wx; added at w2 by k2); kxo: Kept to wx; hMx: Mk at wx; hXx: X at wx
              have hc2 : ∃ c2 : CodeP, c2 = ⟨(CodeP.push ci ⟨2, 0, 0⟩).sets, (CodeP.push ci ⟨2, 0, 0⟩).ins.set ci.ins.length ⟨2, ((CodeP.push ci ⟨2, 0, 0⟩).ins.length : Int), 0⟩⟩ := ⟨_, rfl⟩
              obtain ⟨c2, hc2⟩ := hc2
              rw [← hc2] at hMkP
              have hn2' : c2.ins.length = ci.ins.length + 1 := by rw [hc2]; simp [CodeP.push]
              have hk2 : c2.ins[ci.ins.length]? = some ⟨2, ((ci.ins.length + 1 : Nat) : Int), 0⟩ := by
                rw [hc2]
                show ((CodeP.push ci ⟨2, 0, 0⟩).ins.set ci.ins.length _)[ci.ins.length]? = _
                rw [List.getElem?_set, if_pos rfl, if_pos (by omega), hn2]
              have hE2 : Ext ci c2 := by rw [hc2]; exact (Ext.push ci _).set (Nat.le_refl _)
              have hsets2 : c2.sets = ci.sets := by rw [hc2]; rfl
              have kP : Mst mb wx wP := k2.trans hstP
              have zP' := kP.kept.size
              obtain ⟨hBP, cxP, hNP, hPP⟩ := hkeep wP (kxo.trans (kP.out hMx) (fun _ _ h => h))
              have hXP := fun b hb => (show (Z b ∨ b = mb ∨ B ≤ b) ∧ b < wP.heap.size from by have := hXx b hb; exact ⟨this.1, by omega⟩)
              have e2 : wP.cell? ⟨xb, 2, none⟩ = some (.slice (some ⟨b1, o, none⟩) 1 pc) := hBP.cell rfl
              simp -dsimp only [push_cast, Nat.reduceAdd, Nat.reduceLeDiff, Nat.reduceBEq, Int.reduceNe, Int.reduceEq, Int.reduceLT, Int.reduceLE, e2, cxP]
              refine ⟨by omega, ?_⟩
              refine callP_of (hx hokx hpn nm hpat hr B mb nb back _ Z _ c2 _ hMkP hXP hnb hNP hPP (by rw [hsets2]; omega)) ?_ ?_
              · rintro _ w4 ⟨⟨c3, hM3, hE3, hl3, hs3⟩, k3⟩
                have k13 := kP.trans k3
                have z4 := k13.kept.size
                have hO4 := hOx.keptX k13.kept (fun g hg hm => hoff g hg hm)
                simp -dsimp only [push_cast, Nat.reduceAdd, Nat.reduceLeDiff, Nat.reduceBEq, Int.reduceNe, Int.reduceEq, Int.reduceLT, Int.reduceLE]
                refine rowK elI_53 rfl rfl (by omega) ?_
                intro w5 hw5
                have z5 := hw5.size
                have hM5 := hM3.below hw5.below
                have hO5 := hO4.new hw5
                have hoff5 := hM5.off hO5 (by decide) (by decide) (by omega)
                simp -dsimp only [push_cast, Nat.reduceAdd, Nat.reduceLeDiff, Nat.reduceBEq, Int.reduceNe, Int.reduceEq, Int.reduceLT, Int.reduceLE]
                refine appendK2 (base := w.heap.size) [ci.ins.length] (enc := encN) elI_53 hO5 (by rfl) (fun j u hu => by rw [Nat.zero_add]; exact hw5.cell hu) (by simp [encN, Value.oneCell']) (by have := hM3.num; simp only [List.length_cons, List.length_nil]; omega) (by omega) ?_
                intro v6 w6 hO6 hg6 hn6
                have hk56 : Kept (fun j => ov.ownBlock = some j) w5 w6 := Kept.grown hg6 (fun _ h => h)
                have z6 := hk56.size
                have hM6 := hM5.thru hoff5 hk56 hn6
                have kx6 : Mst mb w w6 := (kx.trans (k13.trans (Mst.below hw5.below (by have := hM3.lt; have := hM3.le; omega)))).thru (hk56.weaken (fun j _ h => (hob j h).1)) (by omega)
                have hE13 := hE2.trans hE3
                have hS3 : SegS c3 (Seg (hasN nm) c3 back x) s c1.ins.length ks ci.ins.length := segS_same (A := c1.ins.length) (fun a b => hlen ci a b) (fun p q hp hq => seg_same x p q ((hE13.same (Nat.le_refl _)).sub hp hq)) (hE13.same (Nat.le_refl _)) _ _ _ (Nat.le_refl _) hSx
                rw [hn2'] at hs3 hl3
                have hS6 : SegS c3 (Seg (hasN nm) c3 back x) (s + 1) c1.ins.length (ks ++ [ci.ins.length]) c3.ins.length := segS_snoc (hE3.ins _ _ hk2) hs3 _ _ _ hS3
                simp -dsimp only [push_cast, Nat.reduceAdd, Nat.reduceLeDiff, Nat.reduceBEq, Int.reduceNe, Int.reduceEq, Int.reduceLT, Int.reduceLE]
                exact ⟨⟨by omega, by omega⟩, ⟨s + 1, c3, _, _, by first | (push_cast; done) | (push_cast; congr 1; done) | (push_cast; congr 1; omega), rfl, by omega, hM6, hEx.trans hE13, by rw [hl3, hlx, hsm]; omega, hS6, hO6, by simp [hkl], kx6⟩, by rw [h7]; simp only [intOf]; omega⟩
              · rintro ce w4 ⟨hl4, ht, k4⟩
                simp -dsimp only [push_cast, Nat.reduceAdd, Nat.reduceLeDiff, Nat.reduceBEq, Int.reduceNe, Int.reduceEq, Int.reduceLT, Int.reduceLE]
                exact ⟨by rw [hcl]; omega, ht, kx.trans (kP.trans k4)⟩
            · rintro ce w2 ⟨hl2, ht, k2⟩
              simp -dsimp only [push_cast, Nat.reduceAdd, Nat.reduceLeDiff, Nat.reduceBEq, Int.reduceNe, Int.reduceEq, Int.reduceLT, Int.reduceLE]
              exact ⟨by rw [hcl]; omega, ht, kx.trans k2⟩
          · have hsN : s = N := by omega
            subst hsN
            have := hMx.num
            have hge2 : s ≤ s * (clen x + 1) := Nat.le_mul_of_pos_right _ (by omega)
            exact ⟨ci, ks, _, rfl, hMx, hEx, hlx, hSx, hOx, by omega, kx⟩
      · intro z w7 hJ
        obtain ⟨cs, ks, ov, h6, hM7, hE7, hl7, hS7, hO7, hkl, k7⟩ := hJ
        have z7 := k7.kept.size
        have hge7 := segS_ge (fun a b => hlen cs a b) _ _ _ hS7
        have e : ∃ e, e = cs.ins.length := ⟨_, rfl⟩
        obtain ⟨e, he⟩ := e
        rw [← he] at hS7 hge7
        obtain ⟨oa, oc, rfl⟩ := hO7.slice
        simp -dsimp only [push_cast, Nat.reduceAdd, Nat.reduceLeDiff, Nat.reduceBEq, Int.reduceNe, Int.reduceEq, Int.reduceLT, Int.reduceLE, h6]
        refine wpL_loop [10, 111, 112, 113, 114, 115, 116, 117, 118, 119, 120, 121, 122, 123, 124, 125] (fun z wz => ∃ (t : Nat) (ct : CodeP), z 111 = .int .i64 t ∧ t ≤ ks.length ∧ Mk B mb nb back (fun b => X b ∨ (Value.slice oa ks.length oc).ownBlock = some b) wz ct ∧ ToldC cs ct (ks.take t) (fun x => ⟨x.op, x.a, (e : Int)⟩) ∧ Vc.Own w.heap.size 3 1 encN wz (.slice oa ks.length oc) ks ∧ Mst mb w wz) (fun z _ => ks.length - (intOf (z 111)).toNat) ?_ ?_
        · exact ⟨0, cs, rfl, Nat.zero_le _, hM7, ToldC.nil cs _, hO7, k7⟩
        · intro z wz hI
          obtain ⟨t, ct, h111, ht, hMz, hTz, hOz, kz⟩ := hI
          have zz := kz.kept.size
          have hoffz := hMz.off hOz (by decide) (by decide) (by omega)
          have hlz := hTz.len
          simp -dsimp only [push_cast, Nat.reduceAdd, Nat.reduceLeDiff, Nat.reduceBEq, Int.reduceNe, Int.reduceEq, Int.reduceLT, Int.reduceLE, h111]
          refine ⟨fun hlt2 => ?_, fun hge => ?_⟩
          · obtain ⟨k, hk, hkm, _, hkt⟩ := lt_get (l := ks) (i := t) (by omega)
            obtain ⟨bj, oj, hej, _, hcj⟩ := hOz.sl.get hk
            cases hej
            have cj : wz.cell? ⟨bj, oj + t, none⟩ = some (.int .i64 (k : Int)) := by simpa [encN] using hcj 0 _ rfl
            have hkl2 : k < ct.ins.length := by have := hge7.2 k hkm; omega
            obtain ⟨xk, hxk, _⟩ := lt_get (l := ct.ins) (i := k) hkl2
            simp -dsimp only [push_cast, Nat.reduceAdd, Nat.reduceLeDiff, Nat.reduceBEq, Int.reduceNe, Int.reduceEq, Int.reduceLT, Int.reduceLE, cj]
            refine ⟨⟨by omega, by omega⟩, ?_⟩
            -- wz: the world; hMz: Mk at it; ct: the code; k: the index; hxk: what stands there (ct.ins[k]? = some x); xk: x; 2: the field; (⟨xk.op, xk.a, (ct.ins.length : Int)⟩ : I3): what it becomes
            have hstP := (hMz).st
            obtain ⟨svP, ivP, usP, hMP⟩ := hstP
            have hOP0 := hMP.2.2.1
            obtain ⟨iaP, icP, rfl⟩ := hOP0.slice
            have hgP := hOP0.sl.get hxk
            obtain ⟨gP, oP, eP, _, _⟩ := hgP
            subst eP
            have ho0P : oP = 0 := Vc.Own.at0 hOP0
            subst ho0P
            have hltP := (List.getElem?_eq_some_iff.1 hxk).1
            have hnumP := (hMz).num
            have f1P : (wz).drew.cell? ⟨mb, 1, none⟩ = some (.slice (some ⟨gP, 0, none⟩) (ct).ins.length icP) := hMP.1.drew.cell rfl
            refine wpL_lastN (fun w' => Blk w' mb 115 [svP, .slice (some ⟨gP, 0, none⟩) (ct).ins.length icP, .map (some nb), .bool back]) mixed (by kernel_rfl) (by simp) hMP.1.drew ?_
            simp -dsimp only [push_cast, Nat.reduceAdd, Nat.reduceLeDiff, Nat.reduceBEq, Int.reduceNe, Int.reduceEq, Int.reduceLT, Int.reduceLE, f1P]
            refine ⟨fun w'' h => by rw [h.cell (o := 1) rfl]; exact rfl, ?_⟩
            have hbdP := below_drew (wz)
            refine callK_of (here_c ((hMz).below hbdP)) ?_
            rintro _ _ ⟨rfl, rfl⟩
            refine ⟨hMP.1.drew, ?_⟩
            simp -dsimp only [push_cast, Nat.reduceAdd, Nat.reduceLeDiff, Nat.reduceBEq, Int.reduceNe, Int.reduceEq, Int.reduceLT, Int.reduceLE]
            refine ⟨⟨by omega, by omega⟩, ?_⟩
            have hOdP : Vc.Own B 109 3 encIn (wz).drew (.slice (some ⟨gP, 0, none⟩) (ct).ins.length icP) (ct).ins := hOP0.keptX ((Kept.refl (fun _ => False) (wz)).drew) (fun _ _ h => h)
            refine storeOwnF (i := k) (f := 2) (x := xk) (y := (⟨xk.op, xk.a, (ct.ins.length : Int)⟩ : I3)) hOdP rfl hxk (by decide) rfl rfl ?_
            intro wP hOP hkP zP
            have hpP := Mk.patch ((hMz).below hbdP) (hMP.below hbdP) rfl hOP hkP
            obtain ⟨hMkP, hstepP⟩ := hpP
            have hstP : Mst mb (wz) wP := (Mst.below hbdP (by have := (hMz).lt; have := (hMz).le; omega)).trans hstepP
            refine ⟨trivial, ?_⟩
            simp -dsimp only [push_cast, Nat.reduceAdd, Nat.reduceLeDiff, Nat.reduceBEq, Int.reduceNe, Int.reduceEq, Int.reduceLT, Int.reduceLE]
            have hTn := ToldC.step (g := fun x => ⟨x.op, x.a, (e : Int)⟩) (fun x => rfl) hTz hxk
            rw [← hkt] at hTn
            have hec : (e : Int) = (ct.ins.length : Int) := by rw [he, hlz]
            rw [hec] at hTn hTz
            exact ⟨⟨by omega, by omega⟩, ⟨t + 1, _, rfl, by omega, hMkP, by rw [hec]; exact hTn, hOz.keptX hstP.kept (fun g hg hm => hoffz g hg hm), kz.trans hstP⟩, by rw [h111]; simp only [intOf]; omega⟩
          · have htl : t = ks.length := by omega
            rw [htl, List.take_length] at hTz
            have hcl2 : ∀ k ∈ ks, c1.ins.length ≤ k := fun k hk => (hge7.2 k hk).1
            have hE := hE1.trans hE7
            have hIn : SameIn c1 ct c.ins.length c1.ins.length := ⟨fun k h1 h2 => by
              rw [hTz.ins k, if_neg (fun hm => by have := hcl2 k hm; omega)]
              exact (hE7.same (Nat.le_refl _)).1 k h1 h2, fun i s hs => by rw [hTz.sets]; exact hE7.sets i s hs⟩
            have hH : segHi ct (Seg (hasN nm) ct back x) e N c1.ins.length := segS_hi (fun a b => hlen cs a b) hTz (fun a b hab hj => seg_same x a b (hTz.same hj) hab) _ _ _ (fun j hj => hj) (fun j hj => .inl hj) hS7
            refine ⟨⟨ct, hMz.weak (fun b hb => .inl hb), ⟨fun k y hy => ?_, fun k s hs => ?_, ?_⟩, by rw [hlz, hcl, hl7]; omega, ?_⟩, kz⟩
            · have hk := (List.getElem?_eq_some_iff.1 hy).1
              have := hE1.sum
              rw [hTz.ins k, if_neg (fun hm => by have := hcl2 k hm; omega)]
              exact hE.ins k y hy
            · rw [hTz.sets]; exact hE.sets k s hs
            · have := hE.sum
              rw [hTz.sets, hlz]; exact this
            · simp only [Seg, Int.toNat_natCast]
              refine ⟨c1.ins.length, iter_same (A := c.ins.length) (B := c1.ins.length) (fun a b => hlen c1 a b) (fun p q hp hq => seg_same x p q (hIn.sub hp hq)) _ _ _ (Nat.le_refl _) (Nat.le_refl _) hi1, ?_⟩
              rw [if_neg hpos, hNt, hlz, ← he]
              exact hH
theorem cd_many (x:PatP)(lo hi:Int)(hx:PatCd x):PatCd (.many x lo hi):=by
 intro hok hpn nm hpat hr B mb nb back X Z w c v h hX hnb hN hV hsum;simp only[patS]at hpat;have hV0:=hV;simp only[PatV]at hV;obtain⟨xb,psv,u,rfl,hxb,hB,_,_⟩:=hV;have hpm:=wd_in_many (x:=x) (lo:=lo) (hi:=hi);have d0:w.cell? ⟨xb,0,none⟩=some (.int .i64 6):=hB.cell rfl;refine fun2_of_vc Tryz.func48 rfl (by kernel_rfl) [] rfl ?_
 simp -dsimp (maxSteps:=4000000) only[push_cast,fr0,Tryz.ntmps48,List.length_cons,List.length_nil,Nat.reduceAdd,Nat.reduceSub,Nat.reduceBEq,List.replicate_succ,List.replicate_zero];simp -dsimp only[push_cast,Nat.reduceAdd,Nat.reduceLeDiff,Nat.reduceBEq,Int.reduceNe,Int.reduceEq,Int.reduceLT,Int.reduceLE,d0]
 refine callP_of (cd_manyF x lo hi hx hok (by omega) nm hpat hr B mb nb back X Z w c _ h hX hnb hN hV0 hsum) ?_ ?_
 ·rintro _ w1 h1;simp -dsimp only[push_cast,Nat.reduceAdd,Nat.reduceLeDiff,Nat.reduceBEq,Int.reduceNe,Int.reduceEq,Int.reduceLT,Int.reduceLE];exact h1
 ·rintro ce w1 h1;simp -dsimp only[push_cast,Nat.reduceAdd,Nat.reduceLeDiff,Nat.reduceBEq,Int.reduceNe,Int.reduceEq,Int.reduceLT,Int.reduceLE];exact h1
theorem cd_altP (l:List PatP)(hne:l≠[])(hall:∀y∈l,PatCd y):PatCd (.alt l):=by
 intro hok hpn nm hpat hr B mb nb back X Z w c v h hX hnb hN hV hsum;simp only[PatOk]at hok;simp only[patS]at hpat;have hpl:=patsS_none.1 hpat;simp only[PatV]at hV;obtain⟨xb,psv,vs,rfl,hxb,hB,hs,hVl⟩:=hV;have hpc:=wd_in_alt (l:=l);have hpc2:=hpc.2.1;obtain⟨pa,pc,rfl,hpcc⟩:=hs.shape;have d0:w.cell? ⟨xb,0,none⟩=some (.int .i64 5):=hB.cell rfl
 have d2:w.cell? ⟨xb,2,none⟩=some (.slice pa vs.length pc):=hB.cell rfl;refine fun2_of_vc Tryz.func48 rfl (by kernel_rfl) [] rfl ?_;simp -dsimp (maxSteps:=4000000) only[push_cast,fr0,Tryz.ntmps48,List.length_cons,List.length_nil,Nat.reduceAdd,Nat.reduceSub,Nat.reduceBEq,List.replicate_succ,List.replicate_zero]
 simp -dsimp only[push_cast,Nat.reduceAdd,Nat.reduceLeDiff,Nat.reduceBEq,Int.reduceNe,Int.reduceEq,Int.reduceLT,Int.reduceLE,d0,d2];refine callP_of (cd_alt l hne hall hok (fun y hy=>by have:=hpc.2.2 y hy;omega) (by omega) nm hpl hr B mb nb back X Z w c _ vs h hX hnb hN hs hVl hsum) ?_ ?_
 ·rintro _ w1 h1;simp -dsimp only[push_cast,Nat.reduceAdd,Nat.reduceLeDiff,Nat.reduceBEq,Int.reduceNe,Int.reduceEq,Int.reduceLT,Int.reduceLE];simp only[clen,Seg];exact h1
 ·rintro ce w1 h1;simp -dsimp only[push_cast,Nat.reduceAdd,Nat.reduceLeDiff,Nat.reduceBEq,Int.reduceNe,Int.reduceEq,Int.reduceLT,Int.reduceLE];simp only[clen];exact h1
mutual
theorem pat_cd:∀x,PatNe x→PatCd x
 | .one k,_=>cd_one k
 | .any,_=>cd_any
 | .edge,_=>cd_edge
 | .cat l,h=>cd_cat l (pats_cd l (by simpa only[PatNe] using h))
 | .alt l,h=>by
  simp only[PatNe]at h;exact cd_altP l h.1 (pats_cd l h.2)
 | .many x lo hi,h=>cd_many x lo hi (pat_cd x (by simpa only[PatNe] using h))
theorem pats_cd:∀(l:List PatP),PatsNe l→∀(x:PatP),x∈l→PatCd x
 | [],_,x,h=>by cases h
 | y::l,hn,x,h=>by
  simp only[PatsNe]at hn;have hy:=pat_cd y hn.1;rcases List.mem_cons.1 h with h|h
  ·rw[h];exact hy
  ·exact pats_cd l hn.2 x h
end
end Go.Proofs.YtledlfbbebodgaaGreatDoor
end
section
namespace Cae
section
variable {has:KindP→Int→Prop} {c:CodeP} {back:Bool}
structure CodeOf (has:KindP→Int→Prop)(back:Bool)(x:PatP)(c:CodeP):Prop where
 seg:Seg has c back x 0 (clen x)
 len:c.ins.length=clen x+1
 yes:c.ins[clen x]?=some ⟨5,0,0⟩
 most:c.ins.length≤2000
 sets:c.sets.length≤c.ins.length
 right:∀s∈c.sets,setRight (-2) s=true
theorem CodeOf.ok {x:PatP}(h:CodeOf has back x c):codeRight c=true:=by
 have hl:=h.len;have hm:=h.most;have hs:=h.sets;have hr:=seg_right x 0 (clen x) (clen x+1) (by omega) h.seg;unfold codeRight;simp only[Bool.and_eq_true,decide_eq_true_eq,List.all_eq_true];refine⟨⟨⟨⟨by omega,by omega,by omega⟩,?_⟩,fun y hy=>?_⟩,h.right⟩
 ·rw[show c.ins.length-1=clen x by omega,h.yes];rfl
 ·obtain⟨k,hk⟩:=List.getElem?_of_mem hy;have hlt:=(List.getElem?_eq_some_iff.1 hk).1;rw[hl];by_cases hc:k<clen x
  ·obtain⟨z,h1,h2⟩:=hr k (Nat.zero_le _) hc;rw[h1]at hk;cases hk;exact h2
  ·have e:k=clen x:=by omega
   rw[e,h.yes]at hk;cases hk;exact right_yes
theorem CodeOf.match_ {x:PatP}{pts:List Int}{i:Nat}(h:CodeOf has back x c)(hpt:∀p∈pts,0≤p∧p≤1114111)(hok:PatOk x)(hi:i≤pts.length):(vmatch c (rdC pts back i)).1=true↔standsM has pts x i back :=
 (vmatch_acc (CR.of h.ok) _).trans (seg_stands hpt hok h.seg h.yes hi)
end
def ProgOf (has:KindP→Int→Prop)(f:FileP)(p:ProgP):Prop:=p.els=f.els∧All2 (fun(r:PairP) (q:RuleP)=>r.brk=q.brk∧CodeOf has true q.before r.before∧CodeOf has false q.after r.after) p.rules f.rules
section
variable {has:KindP→Int→Prop} {pts:List Int}
theorem met_same {r:PairP}{q:RuleP}(hpt:∀p∈pts,0≤p∧p≤1114111)(hok:PatOk q.before∧PatOk q.after)(h:r.brk=q.brk∧CodeOf has true q.before r.before∧CodeOf has false q.after r.after){i:Nat}(hi:i≤pts.length):ruleMet pts i r=true↔metM has pts q i:=by
 unfold ruleMet metM;rw[Bool.and_eq_true];exact and_congr (h.2.1.match_ hpt hok.1 hi) (h.2.2.match_ hpt hok.2 hi)
theorem says_same2 {els:Bool}{i:Nat}(hpt:∀p∈pts,0≤p∧p≤1114111)(hi:i≤pts.length):∀{l:List PairP} {m:List RuleP},All2 (fun(r:PairP) (q:RuleP)=>r.brk=q.brk∧CodeOf has true q.before r.before∧CodeOf has false q.after r.after) l m→(∀q∈m,PatOk q.before∧PatOk q.after)→l.foldr (fun r acc=>if ruleMet pts i r then r.brk else acc) els=saysM has pts els i m:=by
 intro l m h;induction h with
 | nil=>intro _;rfl
 | @cons r q l m h1 h2 ih =>
  intro hok;rw[List.foldr_cons,saysM,ih fun q hq=>hok q (List.mem_cons_of_mem _ hq)];have hm:=met_same hpt (hok q (List.mem_cons_self ..)) h1 hi;by_cases hq:metM has pts q i
  ·rw[if_pos hq,if_pos (hm.2 hq),h1.1]
  ·rw[if_neg hq,if_neg (fun hh=>hq (hm.1 hh))]
theorem breaks_same {f:FileP}{p:ProgP}(hpt:∀q∈pts,0≤q∧q≤1114111)(hok:∀q∈f.rules,PatOk q.before∧PatOk q.after)(h:ProgOf has f p):breaksP p pts=breaksM has pts f.rules f.els:=by
 unfold breaksP breaksM breaksTo;by_cases hne:pts=[]
 ·rw[if_pos hne,if_pos hne]
 ·rw[if_neg hne,if_neg hne];refine List.filter_congr fun i hi=>?_;rw[List.mem_range]at hi;unfold isBreak isM saysFrom;rw[List.drop_zero,h.1,says_same2 hpt (by omega) h.2 hok]
theorem ProgOf.right {f:FileP}{p:ProgP}(h:ProgOf has f p)(hl:f.rules.length≤20):progRight p=true:=by
 have hlen:=All2.len h.2;unfold progRight;rw[Bool.and_eq_true,decide_eq_true_iff,List.all_eq_true];refine⟨by omega,fun r hr=>?_⟩;have key:∀{l:List PairP} {m:List RuleP},All2 (fun(r:PairP) (q:RuleP)=>r.brk=q.brk∧CodeOf has true q.before r.before∧CodeOf has false q.after r.after) l m→∀r∈l,codeRight r.before=true∧codeRight r.after=true:=by
  intro l m h;induction h with
  | nil=>intro r hr;cases hr
  | cons h1 _ ih =>
   intro r hr;rcases List.mem_cons.1 hr with rfl|hr
   ·exact⟨h1.2.1.ok,h1.2.2.ok⟩
   ·exact ih r hr
 have:=key h.2 r hr;rw[this.1,this.2];rfl
end
end Cae
end
section
namespace Go.Proofs.YtledlfbbebodgaaGreatDoor
open Go.Vc Go.Proofs Go.RowKit Cae
attribute [local irreducible] wpL callK valK unitK runK Fun Sl Vc.Own vc vcOps opK pureK
theorem catchC_c (rb eb:Nat)(e:Int)(f0:List Value)(e0:Value)(hf:f0.length=2)(w:World)(hr:Blk w rb 70 f0)(he:Blk w eb 31 [e0])(hne:rb≠eb) :
  CallsD Tryz.prog 47 #[.pointer (some ⟨rb,0,none⟩),.pointer (some ⟨eb,0,none⟩)] (.panicking [{ v:=.iface 111 (.agg #[.int .i64 e]),recovered:=false }]) w fun ex u' w' =>
   ex=.returned (.tuple #[])∧u'=.panicking [{ v:=.iface 111 (.agg #[.int .i64 e]),recovered:=true }]∧Blk w' rb 70 [.slice none 0 0,.slice none 0 0]∧Blk w' eb 31 [.iface 83 (.int .i64 e)]∧Kept (fun i=>i=rb∨i=eb) w w':=by
 refine callsD_of_wpS Tryz.func47 rfl fun c₀ cs hu=>?_;apply wpS_seq;apply wpS_region;simp[wpOpsS,go_sem,recoverD,hu,Tryz.ntmps47,Exit.thenS];refine wpS_plain (t:=[.pointer (some ⟨rb,0,none⟩),.pointer (some ⟨eb,0,none⟩),.iface 111 (.agg #[.int .i64 e]),undef,undef,.iface 111 (.agg #[.int .i64 e]),undef,undef,undef,undef,undef,undef,undef,undef,undef,undef,undef,undef,undef,undef]) ?_
 push_cast -dsimp;refine assert_same Tryz.underlying111 ?_;push_cast -dsimp;refine allocK (z:=[.int .i64 0]) (by kernel_rfl) ?_;intro w1 hw1;have C1:=hw1.blk;have R1:=hr.below hw1.below hr.lt;have E1:=he.below hw1.below he.lt;have z1:=hw1.size;push_cast -dsimp;refine storeAgg (xt:=111) (n:=1) (by kernel_rfl) C1 rfl (by decide) (by simp[Value.oneCell']) ?_;intro w2 hw2
 have C2:Blk w2 w.heap.size 111 [.int .i64 e]:=hw2.blk;have hrl:=hr.lt;have hel:=he.lt;have R2:=R1.kept hw2.kept (by omega);have E2:=E1.kept hw2.kept (by omega);push_cast -dsimp;refine wpL_draw (fun w'=>Blk w' w.heap.size 111 [.int .i64 e]) mixed (by kernel_rfl) C2.drew ?_;have d2:w2.drew.cell? ⟨w.heap.size,0,none⟩=some (.int .i64 e):=C2.drew.cell rfl;push_cast -dsimp[d2]
 refine⟨fun w'' h=>by rw[Blk.cell h (o:=0) rfl];exact rfl,?_⟩;refine storeAgg (xt:=70) (n:=2) (by kernel_rfl) R2.drew rfl (by rw[hf];exact Nat.le_refl _) (by simp[Value.oneCell']) ?_;intro w3 hw3;have R3:Blk w3 rb 70 [.slice none 0 0,.slice none 0 0]:=by
  have:=hw3.blk;rw[List.take_zero,List.nil_append,Nat.zero_add,List.drop_of_length_le (by rw[hf];exact Nat.le_refl _),List.append_nil]at this;exact this
 have C3:Blk w3 w.heap.size 111 [.int .i64 e]:=C2.drew.kept hw3.kept (by omega);have E3:=E2.drew.kept hw3.kept (by omega);refine⟨C3,?_⟩;push_cast -dsimp;refine storeK_of E3 (by simp) rfl ?_;intro w4 hw4;have E4:Blk w4 eb 31 [.iface 83 (.int .i64 e)]:=hw4.blk;have R4:=R3.kept hw4.kept (by omega);have C4:Blk w4 w.heap.size 111 [.int .i64 e]:=C3.kept hw4.kept (by omega)
 have k4:Kept (fun i=>i=rb∨i=eb) w w4:=(((Kept.new (X:=fun i=>i=rb∨i=eb) hw1).trans hw2.kept (fun i h1 h2=>by omega)).drew.trans hw3.kept (fun i _ h=>.inl h)).trans hw4.kept (fun i _ h=>.inr h);refine⟨C4,?_⟩;push_cast -dsimp;exact⟨rfl,_,rfl,.tuple #[],noRes (by rfl) _ _,rfl,rfl,R4,E4,k4⟩
theorem idleC_c (rb eb:Nat)(w:World) :
  CallsD Tryz.prog 47 #[.pointer (some ⟨rb,0,none⟩),.pointer (some ⟨eb,0,none⟩)] .returning w fun e u' w'=>e=.returned (.tuple #[])∧u'=.returning∧w'=w:=by
 refine callsD_of_wpS Tryz.func47 rfl fun c₀ cs hu=>?_;apply wpS_seq;apply wpS_region;simp[wpOpsS,go_sem,recoverD,hu,Tryz.ntmps47,Exit.thenS];refine wpS_plain (t:=[.pointer (some ⟨rb,0,none⟩),.pointer (some ⟨eb,0,none⟩),.nilIface,undef,undef,.nilIface,undef,undef,undef,undef,undef,undef,undef,undef,undef,undef,undef,undef,undef,undef]) ?_;push_cast -dsimp
 refine⟨rfl,.returning,?_,.tuple #[],noRes (by rfl) _ _,rfl,rfl,rfl⟩;rw[←hu]
theorem NamV.top {X:Nat→Prop}{w:World}{b:Nat}{nm:NamesP}(h:NamV X w b nm):NamV (fun b=>X b∨w.heap.size≤b) w b nm:=by
 obtain⟨kvs,h2,h3⟩:=h;exact⟨kvs,h2,h3.imp fun a b h=>⟨h.1,Sl.top (by decide) h.2.1,h.2.2⟩⟩
def CodR (X:Nat→Prop)(nm:NamesP)(back:Bool)(x:PatP)(w:World)(r:Value)(w':World):Prop :=
 (∃c cv,r=.tuple #[cv,.nilIface]∧CodeV (fun b=>X b∧b<w.heap.size) w' cv c∧CodeOf (hasN nm) back x c) ∨
 (2000<clen x+1∧r=.tuple #[.agg #[.slice none 0 0,.slice none 0 0],.iface 83 (.int .i64 4)])
def CodE (X:Nat→Prop)(nm:NamesP)(back:Bool)(x:PatP)(w:World)(e:Ending)(w':World):Prop:=∃v,e=.returned v∧CodR X nm back x w v w'∧Below w.heap.size w w'
theorem leaveC_ok {X:Nat→Prop}{nm:NamesP}{back:Bool}{p:PatP}{w W:World}{fv:List Value}{t:Fr}(h6:t.getD 6 undef=.pointer (some ⟨w.heap.size,0,none⟩))(h7:t.getD 7 undef=.pointer (some ⟨w.heap.size+1,0,none⟩)){x:Value}
  (B1:Blk W w.heap.size 70 fv) (B2:Blk W (w.heap.size+1) 31 [x]) (hl:fv.length=2) (hR:CodR X nm back p w (.tuple #[.agg fv.toArray,x]) W) (hb:Below w.heap.size w W) :
  bodyPostD Tryz.prog Tryz.f26 (CodE X nm back p w) .ret ⟨t.toArray,[{ target:=.fn (.func 47) #[.pointer (some ⟨w.heap.size,0,none⟩),.pointer (some ⟨w.heap.size+1,0,none⟩)],args:=#[] }]⟩ W:=by
 show Leaves _ _ _ _ _ _ _
 refine leaves_cons (f:=47) (args:=#[.pointer (some ⟨w.heap.size,0,none⟩),.pointer (some ⟨w.heap.size+1,0,none⟩)]) (by simp) ?_ ?_
 ·simp only[invoke,Array.empty_append];exact callFunc_enter Tryz.func47 (by kernel_rfl) (by kernel_rfl)
 refine(idleC_c w.heap.size (w.heap.size+1) W).mono ?_;rintro e u' w' ⟨rfl,rfl,rfl⟩;obtain⟨vs,hv,hk⟩:=resultsC_run (P:=Tryz.prog) (w:=w') Tryz.f26 [.cell 6 70,.cell 7 31] (by rfl) t (fun vs=>vs=[.agg fv.toArray,x]) (by
  have d1:cellsAt w' ⟨w.heap.size,0,none⟩ 0 2=some fv:=by rw[←hl];exact B1.cellsAt
  have d2:w'.cell? ⟨w.heap.size+1,0,none⟩=some x:=B2.cell rfl;push_cast -dsimp[h6,h7,d1,d2])
 refine⟨_,hv,_,rfl,?_,hb⟩;rw[hk];exact hR
theorem leaveC_panic {X:Nat→Prop}{nm:NamesP}{back:Bool}{p:PatP}{w W:World}{fv:List Value}{ce:List PanicEntry}{t:Fr}(h6:t.getD 6 undef=.pointer (some ⟨w.heap.size,0,none⟩))(h7:t.getD 7 undef=.pointer (some ⟨w.heap.size+1,0,none⟩)){x:Value}
  (B1:Blk W w.heap.size 70 fv) (B2:Blk W (w.heap.size+1) 31 [x]) (hl:fv.length=2) (hT:ThrC 4 ce) (hp:2000<clen p+1) (hb:Below w.heap.size w W) :
  bodyPostD Tryz.prog Tryz.f26 (CodE X nm back p w) (.panic ce) ⟨t.toArray,[{ target:=.fn (.func 47) #[.pointer (some ⟨w.heap.size,0,none⟩),.pointer (some ⟨w.heap.size+1,0,none⟩)],args:=#[] }]⟩ W:=by
 unfold ThrC at hT;subst hT
 show Leaves _ _ _ _ _ _ _
 refine leaves_cons (f:=47) (args:=#[.pointer (some ⟨w.heap.size,0,none⟩),.pointer (some ⟨w.heap.size+1,0,none⟩)]) (by simp) ?_ ?_
 ·simp only[invoke,Array.empty_append];exact callFunc_enter Tryz.func47 (by kernel_rfl) (by kernel_rfl)
 refine(catchC_c w.heap.size (w.heap.size+1) 4 fv x hl W B1 B2 (by omega)).mono ?_;rintro e' u' w' ⟨rfl,rfl,R1,R2,hk⟩;have hb':=hb.trans (hk.below (B:=w.heap.size) hb.size (fun i h=>by omega));obtain⟨vs,hv,hk⟩:=resultsC_run (P:=Tryz.prog) (w:=w') Tryz.f26 [.cell 6 70,.cell 7 31] (by rfl) t (fun vs=>vs=[.agg #[.slice none 0 0,.slice none 0 0],.iface 83 (.int .i64 4)]) (by
  have d1:cellsAt w' ⟨w.heap.size,0,none⟩ 0 2=some [.slice none 0 0,.slice none 0 0]:=R1.cellsAt;have d2:w'.cell? ⟨w.heap.size+1,0,none⟩=some (.iface 83 (.int .i64 4)):=R2.cell rfl;push_cast -dsimp[h6,h7,d1,d2])
 show Leaves _ _ _ _ [] (settle _) _
 refine⟨_,hv,_,rfl,?_,hb'⟩;rw[hk];exact .inr ⟨hp,rfl⟩
theorem codePat_c (x:PatP)(hne:PatNe x)(hok:PatOk x)(hpn:wd x≤100000)(nm:NamesP)(hpat:patS nm x=none)(hr:RightN nm)(X:Nat→Prop)(v:Value)(nb:Nat)(back:Bool)(w:World)(hV:PatV X w v x)(hN:NamV X w nb nm) :
  Fun Tryz.prog 26 [v,.map (some nb),.bool back] w fun r w'=>CodR X nm back x w r w'∧Below w.heap.size w w':=by
 unfold Fun;refine⟨callFunc_enter Tryz.func26 (by kernel_rfl) (by kernel_rfl),?_⟩;refine calls_of_wp_defers Tryz.func26 rfl ?_;have e:(([v,.map (some nb),.bool back]:List Value).toArray++Array.replicate (Tryz.f26.ntmps-([v,.map (some nb),.bool back]:List Value).toArray.size) undef)=(fr0 [v,.map (some nb),.bool back] Tryz.f26.ntmps).toArray:=by simp[fr0]
 rw[e];have hptr:=hV.ptr;obtain⟨xb,rfl,hxl,hxX⟩:=hptr;have hnl:=hN.lt;simp -dsimp (maxSteps:=4000000) only[push_cast,fr0,Tryz.ntmps26,List.length_cons,List.length_nil,Nat.reduceAdd,Nat.reduceSub,Nat.reduceBEq,List.replicate_succ,List.replicate_zero]
 show Code.wp _ _ (bodyPostD Tryz.prog Tryz.f26 (CodE X nm back x w)) _ _
 refine seqD (by rfl) ?_;push_cast -dsimp;refine allocK (z:=[.slice none 0 0,.slice none 0 0]) (by kernel_rfl) ?_;intro w1 hw1;have R1:=hw1.blk;have z1:=hw1.size;have b1:=hw1.below;push_cast -dsimp;refine allocK (z:=[.nilIface]) (by kernel_rfl) ?_;intro w2 hw2;have E2:=hw2.blk;have R2:=R1.below hw2.below (by omega);have z2:=hw2.size;have b2:=b1.trans (hw2.below.mono (by omega));rw[z1]at E2
 push_cast -dsimp[z1];refine wp_seq (deferReg (cap:=[.tmp 6,.tmp 7]) (by simp) ?_);simp -dsimp only[push_cast];refine plainD (by rfl) ?_;push_cast -dsimp;refine boxK_of ?_;intro w3 hw3;have hw3:New w2 w3 115 [.slice none 0 0,.slice none 0 0,.map (some nb),.bool back]:=hw3;have z3:=hw3.size;have hrb:∃B:Nat,B=w2.heap.size+1:=⟨_,rfl⟩;obtain⟨B,hB⟩:=hrb
 have b3:Below w.heap.size w w3:=b2.trans (hw3.below.mono (by omega));have R3:=R2.below hw3.below R2.lt;have E3:=E2.below hw3.below E2.lt;have hZ:∃Z:Nat→Prop,Z=fun b=>(X b∧b<w.heap.size)∨b=w.heap.size∨b=w.heap.size+1:=⟨_,rfl⟩;obtain⟨Z,hZ⟩:=hZ;have hM3:Mk B w2.heap.size nb back Z w3 ⟨[],[]⟩ :=
  ⟨⟨_,_,[],hw3.blk,Vc.Own.nil (enc:=encSV) _ _ (fun _=>rfl) _,Vc.Own.nil (enc:=encIn) _ _ (fun _=>rfl) _,rfl,(by intro h;cases h),(by intro h;cases h),(by intro g h;cases h),(by intro i u s h1 h2;simp at h1)⟩,(by omega),(by omega),(by intro s hs;cases hs),(by simp),(by simp)⟩
 have hcls:∀b,(Z b∨b=w2.heap.size∨B≤b)→X b∨w.heap.size≤b:=fun b hb=>by
  rw[hZ]at hb;rcases hb with (hb|hb|hb)|hb|hb
  ·exact .inl hb.1
  ·exact .inr (by omega)
  ·exact .inr (by omega)
  ·exact .inr (by omega)
  ·exact .inr (by omega)
 have hV3:PatV (fun b=>Z b∨b=w2.heap.size∨B≤b) w3 (.pointer (some ⟨xb,0,none⟩)) x:=PatV.mono (Kept.refl (fun _=>False) w3) (fun _ h=>h.elim) hcls (hV.top.below b3);have hN3:NamV (fun b=>Z b∨b=w2.heap.size∨B≤b) w3 nb nm:=NamV.kept (hN.top.below b3) (Kept.refl (fun _=>False) w3) (fun _ h=>h.elim) (fun h=>h) hcls;push_cast -dsimp
 refine callP_of (pat_cd x hne hok hpn nm hpat hr B w2.heap.size nb back Z Z w3 ⟨[],[]⟩ _ hM3 (fun b hb=>⟨.inl hb,by rw[hZ]at hb;rcases hb with hb|hb|hb<;>omega⟩) (by omega) hN3 hV3 (Nat.le_refl _)) ?_ ?_
 ·rintro _ w4 ⟨⟨c4,hM4,hE4,hl4,hs4⟩,k4⟩;have k4o:=k4.out hM3;have z4:=k4o.size;have R4:=R3.kept k4o (by omega);have E4:=E3.kept k4o (by omega);have b4:=b3.trans (k4o.below b3.size (fun i h=>by omega));have hl4:c4.ins.length=clen x:=by simpa using hl4
  have hsum4:c4.sets.length≤c4.ins.length:=by have:=hE4.sum;simpa using this
  push_cast -dsimp;refine callP_of (add_c hM4 (by omega) ⟨5,0,0⟩) ?_ ?_
  ·rintro _ w5 ⟨hl5,rfl,hM5,k5⟩;have k5o:=k5.out hM4;have z5:=k5o.size;have R5:=R4.kept k5o (by omega);have E5:=E4.kept k5o (by omega);have b5:=b4.trans (k5o.below b4.size (fun i h=>by omega));have hst5:=hM5.st;obtain⟨sv,iv,us,hMB,hO1,hO2,hul,hs1,hs2,hs3,hus⟩:=hst5;have hob1:=hO1.block;have hob2:=hO2.block;have hc5:CodeOf (hasN nm) back x (CodeP.push c4 ⟨5,0,0⟩):=by
    have hlen:=push_len c4 ⟨5,0,0⟩;have hy:=push_at c4 ⟨5,0,0⟩;rw[hl4]at hy;refine⟨?_,by omega,hy,hM5.num,?_,hM5.few⟩
    ·have h1:=hs4;rw[show ((⟨[],[]⟩:CodeP).ins.length)=0 from rfl,hl4]at h1;exact seg_same x _ _ ((Ext.push c4 _).same (by omega)) h1
    ·show c4.sets.length≤_
     omega
   obtain⟨sa,sc,rfl⟩:=hO1.slice;obtain⟨ia,ic,rfl⟩:=hO2.slice;have d5:cellsAt w5 ⟨w2.heap.size,0,none⟩ 0 2=some [.slice sa us.length sc,.slice ia (CodeP.push c4 ⟨5,0,0⟩).ins.length ic]:=by
    refine cellsAt_of [.slice sa us.length sc,.slice ia (CodeP.push c4 ⟨5,0,0⟩).ins.length ic] 0 (fun j u hu=>?_);have h0:w5.cell? ⟨w2.heap.size,0,none⟩=some (.slice sa us.length sc):=hMB.cell rfl;have h1:w5.cell? ⟨w2.heap.size,1,none⟩=some (.slice ia (CodeP.push c4 ⟨5,0,0⟩).ins.length ic):=hMB.cell rfl;match j,hu with
    | 0,hu=>cases hu;simpa using h0
    | 1,hu=>cases hu;simpa using h1
    | _+2,hu=>simp at hu
   push_cast -dsimp[d5];refine storeAgg (xt:=70) (n:=2) (by kernel_rfl) R5 rfl (by decide) (by simp[Value.oneCell']) ?_;intro w6 hw6;have R6:Blk w6 w.heap.size 70 [.slice sa us.length sc,.slice ia (CodeP.push c4 ⟨5,0,0⟩).ins.length ic]:=hw6.blk;have E6:=E5.kept hw6.kept (by omega);have z6:=hw6.size;push_cast -dsimp;refine storeK_of E6 (by simp) rfl ?_;intro w7 hw7
   have E7:Blk w7 (w.heap.size+1) 31 [.nilIface]:=hw7.blk;have R7:=R6.kept hw7.kept (by omega);have k57:Kept (fun i=>i=w.heap.size∨i=w.heap.size+1) w5 w7:=(hw6.kept.weaken (fun i _ h=>.inl h)).trans hw7.kept (fun i _ h=>.inr h);have b7:=b5.trans (k57.below b5.size (fun i h=>by omega));have hO1':=hO1.keptX k57 (fun g hg h=>by have:=hob1 g hg;omega)
   have hO2':=hO2.keptX k57 (fun g hg h=>by have:=hob2 g hg;omega);have hCV:CodeV (fun b=>X b∧b<w.heap.size) w7 (.agg #[.slice sa us.length sc,.slice ia (CodeP.push c4 ⟨5,0,0⟩).ins.length ic]) (CodeP.push c4 ⟨5,0,0⟩) :=
    ⟨_,_,rfl,SetsV.of_values hul (hO1'.sl.weaken (fun b h=>by omega)) (fun i u s h1 h2=>((hus i u s h1 h2).kept k57 (fun j hj=>by rw[hZ];exact .inl (.inr hj))).weaken (fun b hb=>by rw[hZ];exact .inl (.inl hb))),hO2'.sl.weaken (fun b h=>by omega)⟩
   push_cast -dsimp;exact leaveC_ok (t:=_) (by rfl) (by rfl) R7 E7 rfl (.inl ⟨_,_,rfl,hCV,hc5⟩) b7
  ·rintro ce w5 ⟨hl5,ht,k5⟩;have k5o:=k5.out hM4;push_cast -dsimp;exact leaveC_panic (t:=_) (by rfl) (by rfl) (R4.kept k5o (by omega)) (E4.kept k5o (by omega)) rfl ht (by omega) (b4.trans (k5o.below b4.size (fun i h=>by omega)))
 ·rintro ce w4 ⟨hl4,ht,k4⟩;have k4o:=k4.out hM3;push_cast -dsimp;exact leaveC_panic (t:=_) (by rfl) (by rfl) (R3.kept k4o (by omega)) (E3.kept k4o (by omega)) rfl ht (by simpa using Nat.lt_succ_of_lt hl4) (b3.trans (k4o.below b3.size (fun i h=>by omega)))
def CodeLen (c:CodeP):Prop:=SetsLen c∧c.ins.length<1000000000∧c.sets.length<1000000000
def ProgLen (p:ProgP):Prop:=p.rules.length<1000000000∧∀r∈p.rules,CodeLen r.before∧CodeLen r.after
def PairR (X:Nat→Prop)(w:World):List Value→PairP→Prop:=fun cs r=>∃s1 i1 s2 i2,cs=[.bool r.brk,s1,i1,s2,i2]∧CodeV X w (.agg #[s1,i1]) r.before∧CodeV X w (.agg #[s2,i2]) r.after
def ProgV (X:Nat→Prop)(w:World)(v:Value)(p:ProgP):Prop:=∃rv,v=.agg #[rv,.bool p.els]∧Sl X 5 (PairR X w) w rv p.rules
theorem PairR.mono {X X':Nat→Prop}{w w':World}{cs:List Value}{r:PairP}(h:PairR X w cs r)(hs:∀b,¬X b→b<w.heap.size→w'.heap[b]?=w.heap[b]?)(hX:∀b,X' b→X b):PairR X' w' cs r:=by
 obtain⟨s1,i1,s2,i2,rfl,h1,h2⟩:=h;exact⟨s1,i1,s2,i2,rfl,h1.mono hs hX,h2.mono hs hX⟩
theorem PairsV.mono {X X':Nat→Prop}{w w':World}{v:Value}{l:List PairP}(h:Sl X 5 (PairR X w) w v l)(hs:∀b,¬X b→b<w.heap.size→w'.heap[b]?=w.heap[b]?)(hX:∀b,X' b→X b):Sl X' 5 (PairR X' w') w' v l :=
 Sl.mono h hs (fun _ _ _ h=>h.mono hs hX) hX
theorem ProgV.mono {X X':Nat→Prop}{w w':World}{v:Value}{p:ProgP}(h:ProgV X w v p)(hs:∀b,¬X b→b<w.heap.size→w'.heap[b]?=w.heap[b]?)(hX:∀b,X' b→X b):ProgV X' w' v p:=by
 obtain⟨rv,rfl,h⟩:=h;exact⟨rv,rfl,PairsV.mono h hs hX⟩
theorem PairsV.below {X:Nat→Prop}{w w':World}{v:Value}{l:List PairP}(h:Sl X 5 (PairR X w) w v l)(hb:Below w.heap.size w w'):Sl X 5 (PairR X w') w' v l:=PairsV.mono h (fun b _ hlt=>hb.block b hlt) (fun _ h=>h)
theorem PairR.below {X:Nat→Prop}{w w':World}{cs:List Value}{r:PairP}(h:PairR X w cs r)(hb:Below w.heap.size w w'):PairR X w' cs r:=h.mono (fun b _ hlt=>hb.block b hlt) (fun _ h=>h)
theorem ProgV.below {X:Nat→Prop}{w w':World}{v:Value}{p:ProgP}(h:ProgV X w v p)(hb:Below w.heap.size w w'):ProgV X w' v p:=h.mono (fun b _ hlt=>hb.block b hlt) (fun _ h=>h)
theorem Sl.narrow {α:Type}{X X':Nat→Prop}{k:Nat}{R R':List Value→α→Prop}{w:World}{v:Value}{l:List α}(h:Sl X k R w v l)(hk:0<k)(hR:∀cs x,R cs x→R' cs x)(hX:∀b,b<w.heap.size→X' b→X b):Sl X' k R' w v l:=by
 unfold Sl at h ⊢;obtain⟨a,c,he,hc,h⟩:=h;refine⟨a,c,he,hc,fun i x hx=>?_⟩;obtain⟨b,o,cs,ha,hb,hcs,hcell,hr⟩:=h i x hx;have h0:=hcell 0 cs[0] (List.getElem?_eq_getElem (by omega));exact⟨b,o,cs,ha,fun hh=>hb (hX b (World.block_lt_of_cell? w _ h0) hh),hcs,hcell,hR _ _ hr⟩
theorem CodeV.narrow {X X':Nat→Prop}{w:World}{v:Value}{c:CodeP}(h:CodeV X w v c)(hX:∀b,b<w.heap.size→X' b→X b):CodeV X' w v c:=by
 obtain⟨sv,iv,rfl,h1,h2⟩:=h;refine⟨sv,iv,rfl,Sl.narrow h1 (by omega) (fun cs x hx=>?_) hX,Sl.narrow h2 (by omega) (fun _ _ h=>h) hX⟩;obtain⟨u,rfl,hu⟩:=hx;exact⟨u,rfl,Sl.narrow hu (by omega) (fun _ _ h=>h) hX⟩
theorem PairR.narrow {X X':Nat→Prop}{w:World}{cs:List Value}{r:PairP}(h:PairR X w cs r)(hX:∀b,b<w.heap.size→X' b→X b):PairR X' w cs r:=by
 obtain⟨s1,i1,s2,i2,rfl,h1,h2⟩:=h;exact⟨s1,i1,s2,i2,rfl,h1.narrow hX,h2.narrow hX⟩
theorem blkSome {w:World}{b n:Nat}{e:TypeId}{cs xs:List Value}(h:Blk w b e cs)(o:Nat)(hx:(cs.drop o).take n=xs)(hn:xs.length=n):cellsAt w ⟨b,o,none⟩ 0 n=some xs:=by
 subst hn;refine cellsAt_of xs 0 fun j u hu=>?_;rw[Nat.zero_add];refine h.cell ?_;rw[←hx]at hu;have:=(List.getElem?_eq_some_iff.1 hu).1;rw[List.length_take]at this;rw[List.getElem?_take_of_lt (by omega),List.getElem?_drop]at hu;exact hu
theorem pairsIndex_c {α:Type}(R:List Value→α→Prop)(g:FuncId)(cap:List Value)(f:α→Bool)(l:List α)(hl:l.length<1000000000)(X:Nat→Prop)(v:Value)(w:World)(hv:Sl X 5 R w v l)
  (hf:∀x∈l,∀cs,R cs x→cs.length=5→∀w',Below w.heap.size w w'→Fun Tryz.prog g (elV cs::cap) w' fun r w''=>r=.bool (f x)∧Below w'.heap.size w' w'') :
  Fun Tryz.prog 104 [v,.func (.func g) #[] cap.toArray] w fun r w'=>(∃n:Int,r=.int .i64 n∧(0≤n↔l.any f=true))∧Below w.heap.size w w':=by
 obtain⟨a,c,rfl,hc⟩:=hv.shape;refine fun_of_vc Tryz.func104 rfl (by kernel_rfl) [4] rfl ?_;push_cast -dsimp(maxSteps:=4000000) [Tryz.ntmps104];refine wpL_loop [4,5,8,9,10,11,12,13,14,15,16,17,18] (fun z wx=>∃(i:Nat),z 8=.int .i64 i∧i≤l.length∧(∀x∈l.take i,f x=false)∧Below w.heap.size w wx) (fun z _=>l.length-(intOf (z 8)).toNat) ?_ ?_
 ·exact⟨0,rfl,Nat.zero_le _,by simp,Below.refl _ _⟩
 ·intro z wx hI;obtain⟨i,h8,hi,hok,hb⟩:=hI;push_cast -dsimp[h8];refine⟨fun hlt=>?_,fun hge=>?_⟩
  ·obtain⟨x,hx,hxm,hd,ht⟩:=lt_get (l:=l) (i:=i) (by omega);obtain⟨b,o,cs,ha,hX,hk,hcell,hR⟩:=(hv.below hb).getR hx;subst ha
   obtain⟨u0,u1,u2,u3,u4,rfl⟩:∃u0 u1 u2 u3 u4,cs=[u0,u1,u2,u3,u4]:=(match cs,hk with|[u0,u1,u2,u3,u4],_=>⟨u0,u1,u2,u3,u4,rfl⟩);have c0:cellsAt wx ⟨b,o+i*5,none⟩ 0 5=some [u0,u1,u2,u3,u4]:=(cellsAt_of [u0,u1,u2,u3,u4] 0 (fun j u hu=>by simpa using hcell j u hu));push_cast -dsimp[c0];refine⟨⟨by omega,by omega⟩,?_⟩;refine callK_of (hf x hxm _ hR rfl wx hb) ?_;rintro _ w1 ⟨rfl,hb1⟩
   have hB1:=hb.trans (hb1.mono hb.size);push_cast -dsimp[condK_b];refine⟨fun hyes=>?_,fun hno=>?_⟩
   ·exact⟨⟨i,rfl,⟨fun _=>List.any_eq_true.2 ⟨x,hxm,hyes⟩,fun _=>by omega⟩⟩,hB1⟩
   ·refine⟨⟨by omega,by omega⟩,⟨i+1,rfl,by omega,?_,hB1⟩,by rw[h8];simp only[intOf];omega⟩;intro y hy;rw[ht,List.mem_append,List.mem_singleton]at hy;rcases hy with hy|rfl
    ·exact hok y hy
    ·exact hno
  ·refine⟨⟨-1,rfl,?_⟩,hb⟩;rw[List.take_of_length_le (by omega)]at hok;constructor
   ·intro h;omega
   ·intro h;obtain⟨x,hx,hn⟩:=List.any_eq_true.1 h;rw[hok x hx]at hn;cases hn
theorem pairsContains_c {α:Type}(R:List Value→α→Prop)(g:FuncId)(cap:List Value)(f:α→Bool)(l:List α)(hl:l.length<1000000000)(X:Nat→Prop)(v:Value)(w:World)(hv:Sl X 5 R w v l)
  (hf:∀x∈l,∀cs,R cs x→cs.length=5→∀w',Below w.heap.size w w'→Fun Tryz.prog g (elV cs::cap) w' fun r w''=>r=.bool (f x)∧Below w'.heap.size w' w'') :
  Fun Tryz.prog 61 [v,.func (.func g) #[] cap.toArray] w fun r w'=>r=.bool (l.any f)∧Below w.heap.size w w':=by
 refine fun_of_vc Tryz.func61 rfl (by kernel_rfl) [4] rfl ?_;push_cast -dsimp(maxSteps:=4000000) [Tryz.ntmps61];refine callK_of (pairsIndex_c R g cap f l hl X v w hv hf) ?_;rintro r w1 ⟨⟨n,rfl,hn⟩,hb⟩;push_cast -dsimp;refine⟨?_,hb⟩;congr 1;cases h:l.any f with
 | true=>rw[h]at hn;exact decide_eq_true (hn.2 rfl)
 | false=>rw[h]at hn;exact decide_eq_false (fun h0=>by have:=hn.1 h0;cases this)
theorem rightPair_c (r:PairP)(hl:CodeLen r.before∧CodeLen r.after)(X:Nat→Prop)(w:World)(cs:List Value)(hv:PairR X w cs r) :
  Fun Tryz.prog 62 [elV cs] w fun u w'=>u=.bool (!(codeRight r.before && codeRight r.after))∧Below w.heap.size w w':=by
 obtain⟨s1,i1,s2,i2,rfl,h1,h2⟩:=hv
 show Fun _ _ [.agg #[.bool r.brk,s1,i1,s2,i2]] _ _
 refine fun_of_vc Tryz.func62 rfl (by kernel_rfl) [2] rfl ?_;push_cast -dsimp(maxSteps:=4000000) [Tryz.ntmps62];refine boxK_of ?_;intro w1 hw1;have hcs:cellsL (.agg #[.bool r.brk,s1,i1,s2,i2])=[.bool r.brk,s1,i1,s2,i2]:=rfl;rw[hcs]at hw1;have d1:cellsAt w1 ⟨w.heap.size,1,none⟩ 0 2=some [s1,i1]:=blkSome (n:=2) (xs:=[s1,i1]) hw1.blk 1 rfl rfl;push_cast -dsimp[d1]
 refine callK_of (Right_c r.before hl.1.1 hl.1.2.1 hl.1.2.2 X _ w1 (h1.below hw1.below)) ?_;rintro _ w2 ⟨rfl,hb2⟩;have sz1:=hw1.size;have hB2:=hw1.below.trans (hb2.mono (by omega));have d2:cellsAt w2 ⟨w.heap.size,3,none⟩ 0 2=some [s2,i2]:=blkSome (n:=2) (xs:=[s2,i2]) (hw1.blk.below hb2 (by omega)) 3 rfl rfl;cases hr:codeRight r.before with
 | false =>
  push_cast -dsimp;exact⟨by simp,hB2⟩
 | true =>
  push_cast -dsimp[d2];refine callK_of (Right_c r.after hl.2.1 hl.2.2.1 hl.2.2.2 X _ w2 (h2.below hB2)) ?_;rintro _ w3 ⟨rfl,hb3⟩;push_cast -dsimp;exact hB2.trans (hb3.mono hB2.size)
theorem rightProgram_c (p:ProgP)(hl:ProgLen p)(X:Nat→Prop)(v:Value)(w:World)(hv:ProgV X w v p) :
  Fun Tryz.prog 33 [v] w fun u w'=>u=.bool (progRight p)∧Below w.heap.size w w':=by
 obtain⟨rv,rfl,hr⟩:=hv;obtain⟨a,c,rfl,hc⟩:=hr.shape;refine fun_of_vc Tryz.func33 rfl (by kernel_rfl) [2] rfl ?_;push_cast -dsimp(maxSteps:=4000000) [Tryz.ntmps33];refine boxK_of ?_;intro w1 hw1;have d0:w1.cell? ⟨w.heap.size,0,none⟩=some (.slice a p.rules.length c):=hw1.cell rfl;push_cast -dsimp[d0]
 refine⟨fun h1=>?_,fun h1=>⟨by congr 1;unfold progRight;rw[decide_eq_false (by omega)];rfl,hw1.below⟩⟩;refine callK_of (pairsContains_c (PairR X w1) 62 [] (fun r=>!(codeRight r.before && codeRight r.after)) p.rules (by omega) X _ w1 (PairsV.below hr hw1.below) ?_) ?_
 ·intro r hrm cs hR _ w' hb';exact rightPair_c r (hl.2 r hrm) X w' cs (hR.below hb')
 rintro _ w2 ⟨rfl,hb2⟩;push_cast -dsimp;refine⟨?_,hw1.below.trans (hb2.mono hw1.below.size)⟩;rw[any_not];congr 1;unfold progRight;rw[decide_eq_true (by omega),Bool.true_and]
end Go.Proofs.YtledlfbbebodgaaGreatDoor
end
section
namespace Go.Vc
open Go.RowKit
def ordBN (P:Program)(ops:Array Oper)(bf:Array Nat):Nat→Ord→Array Bool→Bool
 | _,.done,listed=>(Region.ready .any ops listed).isEmpty
 | n+1,.one k r,listed=>(Region.ready .any ops listed).contains k && mixFreeN P ops bf listed k && ordBN P ops bf n r (listed.setIfInBounds k true)
 | n+1,.two k r k' r',listed=>(Region.ready .any ops listed).contains k && (Region.ready .any ops listed).all (fun i=>i == k || i == k') && ordBN P ops bf n r (listed.setIfInBounds k true) && ordBN P ops bf n r' (listed.setIfInBounds k' true)
 | _,_,_=>false
def mixTN (P:Program)(ops:Array Oper)(o:Ord):Bool:=Region.noSelect ops && ordBN P ops (Region.before ops) ops.size o (Array.replicate ops.size false)
section
variable {P:Program} {ops:Array Oper} {C:World→Prop}
def wpTreeN (P:Program)(ops:Array Oper)(C:World→Prop)(R:Act→World→Prop):Ord→Act→World→Prop
 | .done,a,w=>R a w
 | .one k r,a,w=>mixOpN P ops C k (wpTreeN P ops C R r) a w
 | .two k r k' r',a,w=>mixOpN P ops C k (wpTreeN P ops C R r) a w∧mixOpN P ops C k' (wpTreeN P ops C R r') a w
theorem wpMix_treeN {R:Act→World→Prop}(hs:Region.noSelect ops=true):∀(o:Ord) (n:Nat) (listed:Array Bool) (a:Act) (w:World),C w→Shut ops listed →
  ordBN P ops (Region.before ops) n o listed=true→wpTreeN P ops C R o a w→wpMixN P .any ops C R n listed a w
 | .done,0,listed,a,w,_,_,hB,h=>⟨by simpa[ordBN] using hB,h⟩
 | .done,n+1,listed,a,w,_,_,hB,h=>⟨fun _=>h,fun i hi=>by
   have:Region.ready .any ops listed=[]:=by simpa[ordBN] using hB
   rw[this]at hi;cases hi⟩
 | .one k r,0,_,_,_,_,_,hB,_=>by simp[ordBN]at hB
 | .two ..,0,_,_,_,_,_,hB,_=>by simp[ordBN]at hB
 | .one k r,n+1,listed,a,w,hC,hS,hB,h=>by
  simp only[ordBN,Bool.and_eq_true]at hB;obtain⟨⟨hr,hf⟩,hB'⟩:=hB;have hr':k∈Region.ready .any ops listed:=by simpa using hr
  obtain⟨_,ok,hok,_⟩:=mem_ready.1 hr';refine wpMix_firstN (i:=k) (oi:=ok) hok (Region.noSelect_spec hs) n listed a w hC hS (mixFree_specN hok hf) hr' ?_;exact mixOp_monoN hC (fun a' w' hC' hh=>wpMix_treeN hs r n _ a' w' hC' (hS.set hr') hB' hh) h
 | .two k r k' r',n+1,listed,a,w,hC,hS,hB,h=>by
  simp only[ordBN,Bool.and_eq_true,List.all_eq_true,Bool.or_eq_true,beq_iff_eq]at hB;obtain⟨⟨⟨hr,hall⟩,hB1⟩,hB2⟩:=hB;have hr':k∈Region.ready .any ops listed:=by simpa using hr
  refine⟨fun h0=>(by rw[h0]at hr';cases hr'),fun i hi=>?_⟩;rcases hall i hi with rfl|rfl
  ·exact mixOp_monoN hC (fun a' w' hC' hh=>wpMix_treeN hs r n _ a' w' hC' (hS.set hi) hB1 hh) h.1
  ·exact mixOp_monoN hC (fun a' w' hC' hh=>wpMix_treeN hs r' n _ a' w' hC' (hS.set hi) hB2 hh) h.2
end
section
variable {P:Program}
def stepKN (P:Program)(ops:List Oper)(C:World→Prop)(o:Option Oper)(K:Fr→World→Prop)(t:Fr)(w:World)(_:Ph (ops,C,K)):Prop:=match o with
 | none=>False
 | some o=>match o.guard with
  | none=>mixKN P o t w C (fun v w'=>K (put t o.dst v) w') .mk
  | some (j,want)=>guardK (slotOf ops j) want t (fun t'=>mixKN P o t' w C (fun v w'=>K (put t' o.dst v) w') .mk) (fun t'=>K (put t' o.dst undef) w) .mk
def vcTreeN (P:Program)(ops:List Oper)(C:World→Prop)(R:Fr→World→Prop):(o:Ord)→Fr→World→Ph (ops,C,R)→Prop
 | .done,t,w,_=>R t w
 | .one k r,t,w,_=>stepKN P ops C ops[k]? (fun t w=>vcTreeN P ops C R r t w .mk) t w .mk
 | .two k r k' r',t,w,_=>stepKN P ops C ops[k]? (fun t w=>vcTreeN P ops C R r t w .mk) t w .mk∧stepKN P ops C ops[k']? (fun t w=>vcTreeN P ops C R r' t w .mk) t w .mk
theorem mixOp_of_stepKN {ops:List Oper}{C:World→Prop}{K:Fr→World→Prop}{N:Act→World→Prop}(hn:∀t w,K t w→N ⟨t.toArray,[]⟩ w){k:Nat}{t:Fr}{w:World}(h:stepKN P ops C ops[k]? K t w .mk):mixOpN P ops.toArray C k N ⟨t.toArray,[]⟩ w:=by
 unfold stepKN at h;split at h
 ·exact h.elim
 ·rename_i o h0;split at h
  ·rename_i hg;exact mixOp_of_mixKN h0 (by simp[Region.wanted,hg]) (fun v w' hk=>hn _ _ hk) h
  ·rename_i j want hg;rcases guard_cases hg h with ⟨hw,hh⟩|⟨hw,hh⟩
   ·exact mixOp_of_mixKN h0 hw (fun v w' hk=>hn _ _ hk) hh
   ·exact mixOp_skipN h0 hw (hn _ _ hh)
theorem wpTree_of_vcTreeN {ops:List Oper}{C:World→Prop}{R:Fr→World→Prop}{N:Act→World→Prop}(hn:∀t w,R t w→N ⟨t.toArray,[]⟩ w):∀(o:Ord) (t:Fr) (w:World),
  vcTreeN P ops C R o t w .mk→wpTreeN P ops.toArray C N o ⟨t.toArray,[]⟩ w
 | .done,t,w,h=>hn t w h
 | .one k r,t,w,h=>mixOp_of_stepKN (fun t w=>wpTree_of_vcTreeN hn r t w) h
 | .two k r k' r',t,w,h=>⟨mixOp_of_stepKN (fun t w=>wpTree_of_vcTreeN hn r t w) h.1,mixOp_of_stepKN (fun t w=>wpTree_of_vcTreeN hn r' t w) h.2⟩
theorem wpL_treeN {id:Nat}{l:List Oper}{t:Fr}{w:World}{Q:EP}{p}(o:Ord)(C:World→Prop)(hm:P.follows .mixedOrders=true)(hB:mixTN P l.toArray o=true)(hC:C w.drew)
  (h:vcTreeN P l C (Q .normal) o t w.drew .mk):wpL P (.region id l.toArray true) Q t w p:=by
 unfold wpL;simp only[mixTN,Bool.and_eq_true]at hB;refine wp_region_any hm (wpAny_of_mixN (C:=C) (R:=fun a w=>lift Q .normal a w) (fun _ _ h=>h) _ _ _ _ hC ?_);refine wpMix_treeN hB.1 o _ _ _ _ hC (fun j o _ hl=>by simp[Array.getElem?_replicate]at hl;split at hl<;>simp at hl) hB.2 ?_;exact wpTree_of_vcTreeN (R:=Q .normal) (fun t w hk=>⟨rfl,by simpa using hk⟩) o t w.drew h
end
section
variable {P:Program} {t:Fr} {w:World} {C:World→Prop} {K:Fr→World→Prop} {R:Fr→World→Prop}
theorem vcTree_doneN (ops)(p):vcTreeN P ops C R .done t w p=R t w:=(rfl)
theorem vcTree_oneN (ops k r)(p):vcTreeN P ops C R (.one k r) t w p=stepKN P ops C ops[k]? (fun t w=>vcTreeN P ops C R r t w .mk) t w .mk:=(rfl)
theorem vcTree_twoN (ops k r k' r')(p):vcTreeN P ops C R (.two k r k' r') t w p=(stepKN P ops C ops[k]? (fun t w=>vcTreeN P ops C R r t w .mk) t w .mk∧stepKN P ops C ops[k']? (fun t w=>vcTreeN P ops C R r' t w .mk) t w .mk):=(rfl)
theorem stepK_plainN (ops)(d op ty pos af)(p):stepKN P ops C (some ⟨d,op,ty,pos,af,none⟩) K t w p=mixKN P ⟨d,op,ty,pos,af,none⟩ t w C (fun v w'=>K (put t d v) w') .mk:=(rfl)
theorem stepK_guardN (ops)(d op ty pos af j want)(p):stepKN P ops C (some ⟨d,op,ty,pos,af,some (j,want)⟩) K t w p =
  guardK (slotOf ops j) want t (fun t'=>mixKN P ⟨d,op,ty,pos,af,some (j,want)⟩ t' w C (fun v w'=>K (put t' d v) w') .mk) (fun t'=>K (put t' d undef) w) .mk:=(rfl)
end
attribute [push_cast] vcTree_doneN vcTree_oneN vcTree_twoN stepK_plainN stepK_guardN
attribute [irreducible] vcTreeN stepKN
end Go.Vc
end
section
namespace Go.Proofs.YtledlfbbebodgaaGreatDoor
open Go.Vc Go.Proofs Go.RowKit Cae
attribute [local irreducible] wpL callK valK unitK runK Fun Sl Vc.Own vc vcOps opK pureK
theorem chkS_rules {f:FileP}{nm:NamesP}(h:chkS f=none)(hn:namesS [] f.classes=.ok nm):∀r∈f.rules,patS nm r.before=none∧patS nm r.after=none:=by
 unfold chkS at h;rw[hn]at h;dsimp only at h;have h1:rulesS nm f.rules=none:=by
  cases hr:rulesS nm f.rules with
  | none=>rfl
  | some e=>rw[hr]at h;cases h
 exact rulesS_none.1 h1
theorem PairR.keptK {X Y:Nat→Prop}{w w':World}{cs:List Value}{r:PairP}(h:PairR X w cs r)(hk:Kept Y w w')(hY:∀i,Y i→X i):PairR X w' cs r:=h.mono (fun b hx hlt=>hk.block b hlt fun hh=>hx (hY b hh)) (fun _ h=>h)
theorem FileV.top {X:Nat→Prop}{w:World}{v:Value}{f:FileP}(h:FileV X w v f):FileV (fun b=>X b∨w.heap.size≤b) w v f:=by
 obtain⟨cv,rv,cs,rs,rfl,hcs,hrs,hC,hR⟩:=h;exact⟨_,_,cs,rs,rfl,Sl.top (by decide) hcs,Sl.top (by decide) hrs,hC.imp fun a c h=>h.top,hR.imp fun a c h=>h.top⟩
def CompR (X:Nat→Prop)(B:Nat)(f:FileP)(r:Value)(w':World):Prop:=match chkS f with
 | some e=>∃v,r=.tuple #[.agg #[.slice none 0 0,.bool false],v]∧ErrAt B (some e) v w'
 | none=>(∃nm p pv,namesS [] f.classes=.ok nm∧r=.tuple #[pv,.nilIface]∧ProgV X w' pv p∧ProgOf (hasN nm) f p) ∨
  (∃q∈f.rules,(2000<clen q.before+1∨2000<clen q.after+1)∧∃v,r=.tuple #[.agg #[.slice none 0 0,.bool false],v]∧ErrAt B (some (4,q.pos)) v w')
theorem CodR.cases {X:Nat→Prop}{nm:NamesP}{back:Bool}{x:PatP}{w w':World}{r:Value}(h:CodR X nm back x w r w'):∃sv iv ev,r=.tuple #[.agg #[sv,iv],ev]∧sv.oneCell'=true∧iv.oneCell'=true ∧
  ((ev=.nilIface∧∃c,CodeV (fun b=>X b∧b<w.heap.size) w' (.agg #[sv,iv]) c∧CodeOf (hasN nm) back x c)∨(ev=.iface 83 (.int .i64 4)∧2000<clen x+1)):=by
 rcases h with ⟨c,cv,rfl,hV,hC⟩|⟨hl,rfl⟩
 ·have hV0:=hV;obtain⟨sv,iv,rfl,hs,hi⟩:=hV;obtain⟨_,_,rfl,_⟩:=hs.shape;obtain⟨_,_,rfl,_⟩:=hi.shape;exact⟨_,_,_,rfl,rfl,rfl,.inl ⟨rfl,c,hV0,hC⟩⟩
 ·exact⟨_,_,_,rfl,rfl,rfl,.inr ⟨rfl,hl⟩⟩
theorem compile_c (f:FileP)(hok:FileOk f)(hpn:PnOk f)(hne:∀r∈f.rules,PatNe r.before∧PatNe r.after)(hlc:f.classes.length≤1000000)(hlr:f.rules.length≤1000)(X:Nat→Prop)(v:Value)(w:World)(hv:FileV X w v f) :
  Fun Tryz.prog 30 [v] w fun r w'=>CompR (fun b=>X b∧b<w.heap.size) w.heap.size f r w'∧Below w.heap.size w w':=by
 have hv0:=hv;obtain⟨cv,rv,cs,rs,rfl,hcs,hrs,hC,hR⟩:=hv;obtain⟨ca,cc,rfl,hcc⟩:=hcs.shape;obtain⟨ra,rc,rfl,hrc⟩:=hrs.shape;have hrl:=All2.len hR;refine fun_of_vcC Tryz.func30 rfl (by kernel_rfl) [.cell 2 79,.tmp 3] rfl ?_;push_cast -dsimp(maxSteps:=4000000) [Tryz.ntmps30];refine boxK_of ?_;intro w1 hw1;have hw1:New w w1 26 [.slice ca cs.length cc,.slice ra rs.length rc,.bool f.els]:=hw1
 have z1:=hw1.size;push_cast -dsimp;refine allocK (z:=[.slice none 0 0,.bool false]) (by kernel_rfl) ?_;intro w2 hw2;have z2:=hw2.size;have hbw2:=hw1.below.trans (hw2.below.mono (by omega));have F2:=hw1.blk.below hw2.below (by omega);have d0:cellsAt w2 ⟨w.heap.size,0,none⟩ 0 3=some [.slice ca cs.length cc,.slice ra rs.length rc,.bool f.els]:=F2.cellsAt;push_cast -dsimp[d0]
 refine callK_of (check_c f hok hpn hlc (by omega) X _ w2 (hv0.below hbw2)) ?_;rintro r w3 ⟨hE,hb3⟩;have z3:=hb3.size;have hbw3:=hbw2.trans (hb3.mono (by omega));have P3:=hw2.blk.below hb3 (by omega);cases hchk:chkS f with
 | some e =>
  rw[hchk]at hE;have hE0:=hE;obtain⟨c,e⟩:=e;obtain⟨eb,heb,rfl,hEB⟩:=hE;push_cast -dsimp;refine storeAgg (n:=2) (by kernel_rfl) P3 rfl (by simp) (by simp[Value.oneCell']) ?_;intro w4 hw4;have P4:Blk w4 w1.heap.size 79 [.slice none 0 0,.bool false]:=hw4.blk;have d4:cellsAt w4 ⟨w1.heap.size,0,none⟩ 0 2=some [.slice none 0 0,.bool false]:=P4.cellsAt;push_cast -dsimp[d4]
  refine⟨?_,hbw3.trans (hw4.kept.below (by omega) (fun i h=>by omega))⟩;unfold CompR;rw[hchk];exact⟨_,rfl,eb,by omega,rfl,hEB.kept hw4.kept (by omega)⟩
 | none =>
  rw[hchk]at hE;have hE:r=.nilIface:=hE;subst hE;have hnm:=chkS_names hchk;obtain⟨nm,hnm⟩:=hnm;have F3:=F2.below hb3 (by omega);have d3:cellsAt w3 ⟨w.heap.size,0,none⟩ 0 3=some [.slice ca cs.length cc,.slice ra rs.length rc,.bool f.els]:=F3.cellsAt;push_cast -dsimp[d3];refine callK_of (names_c f hok.1 hlc _ _ w3 (hv0.top.below hbw3)) ?_;rintro r w4 ⟨hN,hb4⟩;have z4:=hb4.size
  have hbw4:=hbw3.trans (hb4.mono (by omega));unfold NamesRes at hN;rw[hnm]at hN;obtain⟨mb,hmb,rfl,hNV,hRN⟩:=hN;have F4:=F3.below hb4 (by omega);have e2:w4.cell? ⟨w.heap.size,2,none⟩=some (.bool f.els):=F4.cell rfl;push_cast -dsimp[e2];refine allocK (z:=[.slice none 0 0,.bool false]) (by kernel_rfl) ?_;intro w5 hw5;have z5:=hw5.size;push_cast -dsimp
  refine storeAgg (n:=2) (by kernel_rfl) hw5.blk rfl (by simp) (by simp[Value.oneCell']) ?_;intro w6 hw6;have z6:=hw6.size;have Q6:Blk w6 w4.heap.size 79 [.slice none 0 0,.bool f.els]:=hw6.blk;have hb46:Below w4.heap.size w4 w6:=hw5.below.trans (hw6.kept.below (by omega) (fun i h=>by omega));have P4:=P3.below hb4 (by omega);have F6:=F4.below hb46 (by omega)
  have f6:w6.cell? ⟨w.heap.size,1,none⟩=some (.slice ra rs.length rc):=F6.cell rfl;have hXc:∃Xc:Nat→Prop,Xc=fun b=>(X b∧b<w.heap.size)∨b=w1.heap.size∨w4.heap.size≤b:=⟨_,rfl⟩;obtain⟨Xc,hXc⟩:=hXc;have hN4:NamV Xc w4 mb nm:=NamV.weak hNV.top (fun b hb=>by
   rw[hXc]at hb;rcases hb with hb|hb|hb
   ·exact .inl ⟨.inl hb.1,by omega⟩
   ·exact .inl ⟨.inr (by omega),by omega⟩
   ·exact .inr hb)
  have hR4:All2 (RulR Xc w4) rs f.rules:=(hR.imp fun a c h=>RulR.top h).imp fun a c h=>⟨h.1,h.2.1,PatV.weak (h.2.2.1.below hbw4) (fun b hb=>by
   rw[hXc]at hb;rcases hb with hb|hb|hb
   ·exact .inl hb.1
   ·exact .inr (by omega)
   ·exact .inr (by omega)),PatV.weak (h.2.2.2.below hbw4) (fun b hb=>by
   rw[hXc]at hb;rcases hb with hb|hb|hb
   ·exact .inl hb.1
   ·exact .inr (by omega)
   ·exact .inr (by omega))⟩
  have hcr:=chkS_rules hchk hnm;push_cast -dsimp[f6]
  refine wpL_loop [3,9,10,11,12,13,35,36,37,38,39,40,41,42,43,44,45,46,47,48,49,50,51,52,53,54,55,56,57,58,59,60,61,62,63,64,65,66,67,68,69,70,71,72,73,74,75] (fun z wx=>∃(i:Nat) (ov:Value) (us:List PV) (l:List PairP),z 35=.int .i64 i∧i≤f.rules.length∧Blk wx w4.heap.size 79 [ov,.bool f.els]∧Vc.Own w6.heap.size 139 5 encPV wx ov us∧us.length=l.length∧(∀(k:Nat) (u:PV) (r:PairP),us[k]?=some u→l[k]?=some r→PairR (fun b=>b=w4.heap.size∨b=w1.heap.size∨ov.ownBlock=some b∨(X b∧b<w.heap.size)) wx (encPV u) r)∧All2 (fun(r:PairP) (q:RuleP)=>r.brk=q.brk∧CodeOf (hasN nm) true q.before r.before∧CodeOf (hasN nm) false q.after r.after) l (f.rules.take i)∧Below w4.heap.size w4 wx∧w6.heap.size≤wx.heap.size) (fun z _=>f.rules.length-(intOf (z 35)).toNat) ?_ ?_
  ·exact⟨0,_,[],[],rfl,Nat.zero_le _,Q6,Vc.Own.nil (enc:=encPV) _ _ (fun _=>rfl) _,rfl,(by intro k u r h;simp at h),.nil,hb46,Nat.le_refl _⟩
  ·intro z wx hI;obtain⟨i,ov,us,l,h35,hi,hQ,hO,hul,hus,hA,hb4x,zx⟩:=hI;have hob:=hO.block;have hll:=All2.len hA;rw[List.length_take]at hll;push_cast -dsimp[h35];refine⟨fun hlt=>?_,fun hge=>?_⟩
   ·obtain⟨c,hc,hcm,_,ht⟩:=lt_get (l:=f.rules) (i:=i) (by omega);obtain⟨x,hx,hxp,hxb,hx1,hx2⟩:=all2_nth hR4 hc;have hrx:=(hrs.below hbw4).below hb4x;obtain⟨b1,o,rfl,hnb,hcell⟩:=hrx.get hx;obtain⟨xp,xb,x1,x2⟩:=x;simp only at hxp hxb hx1 hx2;subst hxp;subst hxb
    have c4:cellsAt wx ⟨b1,o+i*4,none⟩ 0 4=some [.int .i64 c.pos,.bool c.brk,.pointer (some ⟨x1,0,none⟩),.pointer (some ⟨x2,0,none⟩)]:=cellsAt_of _ 0 (fun j u hu=>by simpa[encRu,ptrP] using hcell j u hu);push_cast -dsimp[c4];refine⟨⟨by omega,by omega⟩,?_⟩;refine allocK (z:=[.int .i64 0,.bool false,.pointer none,.pointer none]) (by kernel_rfl) ?_;intro wa hwa;have za:=hwa.size;push_cast -dsimp
    refine storeAgg (n:=4) (by kernel_rfl) hwa.blk rfl (by simp) (by simp[Value.oneCell']) ?_;intro wb hwb;have zb:=hwb.size;have Rb:Blk wb wx.heap.size 50 [.int .i64 c.pos,.bool c.brk,.pointer (some ⟨x1,0,none⟩),.pointer (some ⟨x2,0,none⟩)]:=hwb.blk;have hbxb:Below wx.heap.size wx wb:=hwa.below.trans (hwb.kept.below (by omega) (fun i h=>by omega));have hb4b:=hb4x.trans (hbxb.mono (by omega))
    have r2:wb.cell? ⟨wx.heap.size,2,none⟩=some (.pointer (some ⟨x1,0,none⟩)):=Rb.cell rfl;have hpc:=hcr c hcm;push_cast -dsimp[r2];refine callK_of (codePat_c c.before (hne c hcm).1 (hok.2 c hcm).1 (hpn c hcm).1 nm hpc.1 hRN Xc _ mb true wb (hx1.below hb4b) (hN4.below hb4b)) ?_;rintro _ wc ⟨hK1,hbc⟩;have zc:=hbc.size;obtain⟨s1,i1,ev1,rfl,o1,p1,hK1⟩:=hK1.cases
    have hbxc:=hbxb.trans (hbc.mono (by omega));push_cast -dsimp;refine allocK (z:=[.slice none 0 0,.slice none 0 0]) (by kernel_rfl) ?_;intro wd hwd;have zd:=hwd.size;push_cast -dsimp;refine storeAgg (n:=2) (by kernel_rfl) hwd.blk rfl (by simp) (by simp[o1,p1]) ?_;intro we hwe;have ze:=hwe.size;have C1e:Blk we wc.heap.size 70 [s1,i1]:=hwe.blk
    have hbce:Below wc.heap.size wc we:=hwd.below.trans (hwe.kept.below (by omega) (fun i h=>by omega));have hbxe:=hbxc.trans (hbce.mono (by omega));have hb4e:=hb4x.trans (hbxe.mono (by omega));have Re:=(Rb.below hbc (by omega)).below hbce (by omega);have r3:we.cell? ⟨wx.heap.size,3,none⟩=some (.pointer (some ⟨x2,0,none⟩)):=Re.cell rfl;push_cast -dsimp[r3]
    refine callK_of (codePat_c c.after (hne c hcm).2 (hok.2 c hcm).2 (hpn c hcm).2 nm hpc.2 hRN Xc _ mb false we (hx2.below hb4e) (hN4.below hb4e)) ?_;rintro _ wf ⟨hK2,hbf⟩;have zf:=hbf.size;obtain⟨s2,i2,ev2,rfl,o2,p2,hK2⟩:=hK2.cases;have hbxf:=hbxe.trans (hbf.mono (by omega));push_cast -dsimp;refine allocK (z:=[.slice none 0 0,.slice none 0 0]) (by kernel_rfl) ?_;intro wg hwg;have zg:=hwg.size
    push_cast -dsimp;refine storeAgg (n:=2) (by kernel_rfl) hwg.blk rfl (by simp) (by simp[o2,p2]) ?_;intro wh hwh;have zh:=hwh.size;have C2h:Blk wh wf.heap.size 70 [s2,i2]:=hwh.blk;have hbfh:Below wf.heap.size wf wh:=hwg.below.trans (hwh.kept.below (by omega) (fun i h=>by omega));have hbxh:=hbxf.trans (hbfh.mono (by omega));have zxh:=hbxh.size;have hb4h:=hb4x.trans (hbxh.mono (by omega))
    have Rh:=(Re.below hbf (by omega)).below hbfh (by omega);have C1h:=(C1e.below hbf (by omega)).below hbfh (by omega);rcases hK1 with ⟨rfl,k1,hV1,hC1⟩|⟨rfl,hl1⟩
    ·rcases hK2 with ⟨rfl,k2,hV2,hC2⟩|⟨rfl,hl2⟩
     ·have dQ:wh.cell? ⟨w4.heap.size,0,none⟩=some ov:=(hQ.below hbxh (by omega)).cell rfl;have r1:wh.cell? ⟨wx.heap.size,1,none⟩=some (.bool c.brk):=Rh.cell rfl;have dC1:cellsAt wh ⟨wc.heap.size,0,none⟩ 0 2=some [s1,i1]:=C1h.cellsAt;have dC2:cellsAt wh ⟨wf.heap.size,0,none⟩ 0 2=some [s2,i2]:=C2h.cellsAt;have hV1':=hV1;have hV2':=hV2;obtain⟨sv1,iv1,hag1,hsv1,hiv1⟩:=hV1'
      obtain⟨sv2,iv2,hag2,hsv2,hiv2⟩:=hV2';simp only[Value.agg.injEq,Array.mk.injEq,List.cons.injEq,and_true]at hag1 hag2;obtain⟨rfl,rfl⟩:=hag1;obtain⟨rfl,rfl⟩:=hag2;obtain⟨a1,n1,rfl,_⟩:=hsv1.shape;obtain⟨a2,n2,rfl,_⟩:=hiv1.shape;obtain⟨a3,n3,rfl,_⟩:=hsv2.shape;obtain⟨a4,n4,rfl,_⟩:=hiv2.shape;push_cast -dsimp[dQ,r1,dC1,dC2];refine rowK elI_77 rfl rfl (by omega) ?_;intro wr hwr;have zr:=hwr.size
      have hbxr:=hbxh.trans (hwr.below.mono (by omega));have hOr:=hO.below hbxr;have hQr:=hQ.below hbxr (by omega);push_cast -dsimp
      refine appendK2 (base:=w6.heap.size) [(⟨c.brk,⟨a1,k1.sets.length,n1⟩,⟨a2,k1.ins.length,n2⟩,⟨a3,k2.sets.length,n3⟩,⟨a4,k2.ins.length,n4⟩⟩:PV)] (enc:=encPV) elI_77 hOr (by rfl) (fun j u hu=>by rw[Nat.zero_add];exact hwr.cell hu) encPV_one (by simp only[List.length_cons,List.length_nil];omega) (by omega) ?_;intro vq wq hOq hgq hnq
      have hkq:Kept (fun j=>ov.ownBlock=some j) wr wq:=Kept.grown hgq (fun _ h=>h);have zq:=hkq.size;have Gq:=hQr.kept hkq (fun h=>by have:=hob _ h;omega);have hobq:=hOq.block;obtain⟨qa,qc,rfl⟩:=hOq.slice;push_cast -dsimp;refine storeK_of Gq (by simp) rfl ?_;intro ws hws;have zs:=hws.size
      have Qs:Blk ws w4.heap.size 79 [.slice qa (us++[(⟨c.brk,⟨a1,k1.sets.length,n1⟩,⟨a2,k1.ins.length,n2⟩,⟨a3,k2.sets.length,n3⟩,⟨a4,k2.ins.length,n4⟩⟩:PV)]).length qc,.bool f.els]:=hws.blk;have hOs:=hOq.keptX hws.kept (fun g hg h=>by have:=hobq g hg;have h':g=w4.heap.size:=h;omega)
      have krs:Kept (fun j=>j=w4.heap.size∨ov.ownBlock=some j) wr ws:=(hkq.weaken (fun j _ h=>.inr h)).trans hws.kept (fun j _ h=>.inl h);have hY:∃Y:Nat→Prop,Y=fun b=>(b=w4.heap.size∨b=w1.heap.size∨ov.ownBlock=some b∨(X b∧b<w.heap.size))∨wr.heap.size≤b:=⟨_,rfl⟩;obtain⟨Y,hY⟩:=hY;have hkY:∀j,(j=w4.heap.size∨ov.ownBlock=some j)→Y j:=fun j h=>by
       rw[hY];rcases h with h|h
       ·exact .inl (.inl h)
       ·exact .inl (.inr (.inr (.inl h)))
      have hYs:∀b,(b=w4.heap.size∨b=w1.heap.size∨(Value.slice qa (us++[(⟨c.brk,⟨a1,k1.sets.length,n1⟩,⟨a2,k1.ins.length,n2⟩,⟨a3,k2.sets.length,n3⟩,⟨a4,k2.ins.length,n4⟩⟩:PV)]).length qc).ownBlock=some b∨(X b∧b<w.heap.size))→Y b:=fun b hb=>by
       rw[hY];rcases hb with hb|hb|hb|hb
       ·exact .inl (.inl hb)
       ·exact .inl (.inr (.inl hb))
       ·rcases hnq b hb with h|h
        ·exact .inl (.inr (.inr (.inl h)))
        ·exact .inr h
       ·exact .inl (.inr (.inr (.inr hb)))
      have hcw:∀b,b<wr.heap.size→Y b→Xc b∧b<wb.heap.size:=fun b hb hy=>by
       rw[hY]at hy;rw[hXc];rcases hy with (hy|hy|hy|hy)|hy
       ·exact⟨.inr (.inr (by omega)),by omega⟩
       ·exact⟨.inr (.inl hy),by have:=hbw4.size;omega⟩
       ·have:=hob b hy;exact⟨.inr (.inr (by omega)),by omega⟩
       ·exact⟨.inl hy,by have:=hbw4.size;omega⟩
       ·omega
      have hbcr:Below wc.heap.size wc wr:=hbce.trans ((hbf.mono (by omega)).trans ((hbfh.mono (by omega)).trans (hwr.below.mono (by omega))));have hbfr:Below wf.heap.size wf wr:=hbfh.trans (hwr.below.mono (by omega));have hV1s:CodeV Y ws (.agg #[.slice a1 k1.sets.length n1,.slice a2 k1.ins.length n2]) k1:=CodeV.kept ((hV1.below hbcr).narrow hcw) krs hkY
      have hV2s:CodeV Y ws (.agg #[.slice a3 k2.sets.length n3,.slice a4 k2.ins.length n4]) k2:=CodeV.kept ((hV2.below hbfr).narrow (fun b hb hy=>by have:=hcw b hb hy;exact⟨this.1,by omega⟩)) krs hkY
      have hus':∀(k:Nat) (u:PV) (r:PairP),(us++[(⟨c.brk,⟨a1,k1.sets.length,n1⟩,⟨a2,k1.ins.length,n2⟩,⟨a3,k2.sets.length,n3⟩,⟨a4,k2.ins.length,n4⟩⟩:PV)])[k]?=some u→(l++[(⟨c.brk,k1,k2⟩:PairP)])[k]?=some r→PairR (fun b=>b=w4.heap.size∨b=w1.heap.size∨(Value.slice qa (us++[(⟨c.brk,⟨a1,k1.sets.length,n1⟩,⟨a2,k1.ins.length,n2⟩,⟨a3,k2.sets.length,n3⟩,⟨a4,k2.ins.length,n4⟩⟩:PV)]).length qc).ownBlock=some b∨(X b∧b<w.heap.size)) ws (encPV u) r:=fun k u r h1 h2=>by
       have hkl:k<(us++[(⟨c.brk,⟨a1,k1.sets.length,n1⟩,⟨a2,k1.ins.length,n2⟩,⟨a3,k2.sets.length,n3⟩,⟨a4,k2.ins.length,n4⟩⟩:PV)]).length:=(List.getElem?_eq_some_iff.1 h1).1;by_cases hk:k<us.length
       ·rw[List.getElem?_append_left hk]at h1;rw[List.getElem?_append_left (by omega)]at h2;have h3:=((hus k u r h1 h2).below hbxr).narrow (X':=Y) (fun b hb hy=>by
         rw[hY]at hy;rcases hy with hy|hy
         ·exact hy
         ·omega)
        exact(h3.keptK krs hkY).narrow (fun b _ hb=>hYs b hb)
       ·have hke:k=us.length:=by rw[List.length_append,List.length_cons,List.length_nil]at hkl;omega
        subst hke;rw[List.getElem?_append_right (Nat.le_refl _),Nat.sub_self]at h1;rw[hul,List.getElem?_append_right (Nat.le_refl _),Nat.sub_self]at h2;simp at h1 h2;subst h1;subst h2;exact⟨_,_,_,_,rfl,hV1s.narrow (fun b _ hb=>hYs b hb),hV2s.narrow (fun b _ hb=>hYs b hb)⟩
      have hb4s:Below w4.heap.size w4 ws:=hb4x.trans ((hbxr.mono (by omega)).trans (krs.below (by omega) (fun j h=>by
       rcases h with h|h
       ·omega
       ·have:=hob j h;omega)))
      push_cast -dsimp;refine⟨⟨by omega,by omega⟩,⟨i+1,_,_,l++[(⟨c.brk,k1,k2⟩:PairP)],rfl,by omega,Qs,hOs,by simp[hul],hus',by rw[ht];exact All2.snoc hA ⟨rfl,hC1,hC2⟩,hb4s,by omega⟩,by rw[h35];simp only[intOf];omega⟩
     ·skip;push_cast -dsimp;have r0:wh.drew.cell? ⟨wx.heap.size,0,none⟩=some (.int .i64 c.pos):=Rh.drew.cell rfl;have hRc:∀w'',Blk w'' wx.heap.size 50 [.int .i64 c.pos,.bool c.brk,.pointer (some ⟨x1,0,none⟩),.pointer (some ⟨x2,0,none⟩)]→w''.cell? ⟨wx.heap.size,0,none⟩=some (.int .i64 c.pos):=fun w'' h=>h.cell rfl
      refine wpL_treeN (.one 0 (.one 1 (.one 2 (.one 3 (.two 4 (.one 5 (.one 6 (.one 7 .done))) 6 (.one 4 (.one 5 (.one 7 .done)))))))) (fun w'=>Blk w' wx.heap.size 50 [.int .i64 c.pos,.bool c.brk,.pointer (some ⟨x1,0,none⟩),.pointer (some ⟨x2,0,none⟩)]) mixed (by kernel_rfl) Rh.drew ?_;push_cast -dsimp[r0];refine⟨fun w'' h=>by rw[hRc w'' h];exact rfl,?_,?_⟩
      ·refine boxK_of ?_;intro wi hwi;have hwi:New wh.drew wi 94 [.int .i64 4,.int .i64 c.pos]:=hwi;have zi:wi.heap.size=wh.heap.size+1:=hwi.size;have hbhi:Below wh.heap.size wh wi:=(below_drew wh).trans (hwi.below.mono (Nat.le_refl _));have Ri:=Rh.below hbhi (by omega);refine⟨Ri,?_⟩;have hb4i:=hb4h.trans (hbhi.mono (by omega));have Pi:=P4.below hb4i (by omega);push_cast -dsimp
       refine storeAgg (n:=2) (by kernel_rfl) Pi rfl (by simp) (by simp[Value.oneCell']) ?_;intro wj hwj;have Pj:Blk wj w1.heap.size 79 [.slice none 0 0,.bool false]:=hwj.blk;have dj:cellsAt wj ⟨w1.heap.size,0,none⟩ 0 2=some [.slice none 0 0,.bool false]:=Pj.cellsAt;refine⟨Ri.kept hwj.kept (by omega),?_⟩;push_cast -dsimp[dj]
       refine⟨?_,(hbw4.trans (hb4i.mono (by omega))).trans (hwj.kept.below (by have:=hb4i.size;omega) (fun i h=>by omega))⟩;unfold CompR;rw[hchk];exact .inr ⟨c,hcm,.inr hl2,_,rfl,wh.heap.size,by omega,rfl,hwi.blk.kept hwj.kept (by show ¬wh.heap.size=w1.heap.size;omega)⟩
      ·have Pd:=(P4.below hb4h (by omega)).drew;refine storeAgg (n:=2) (by kernel_rfl) Pd rfl (by simp) (by simp[Value.oneCell']) ?_;intro wi hwi;have zi:wi.heap.size=wh.heap.size:=hwi.size;have Pi:Blk wi w1.heap.size 79 [.slice none 0 0,.bool false]:=hwi.blk;have Ri:=Rh.drew.kept hwi.kept (by omega);refine⟨Ri,?_⟩;push_cast -dsimp;refine boxK_of ?_;intro wj hwj
       have hwj:New wi wj 94 [.int .i64 4,.int .i64 c.pos]:=hwj;have Pj:=Pi.below hwj.below Pi.lt;have dj:cellsAt wj ⟨w1.heap.size,0,none⟩ 0 2=some [.slice none 0 0,.bool false]:=Pj.cellsAt;refine⟨Ri.below hwj.below Ri.lt,?_⟩;push_cast -dsimp[dj];have hbwh:Below w.heap.size w wh:=hbw4.trans (hb4h.mono (by omega))
       have hkj:Kept (fun i=>i=w1.heap.size) wh wi:=((Kept.refl (fun i=>i=w1.heap.size) wh).drew).trans hwi.kept (fun _ _ h=>h);refine⟨?_,(hbwh.trans (hkj.below (by have:=hbwh.size;omega) (fun i h=>by omega))).trans (hwj.below.mono (by have:=hbwh.size;omega))⟩;unfold CompR;rw[hchk];exact .inr ⟨c,hcm,.inr hl2,_,rfl,wi.heap.size,by have:=hbwh.size;omega,rfl,hwj.blk⟩
    ·rcases hK2 with ⟨rfl,k2,hV2,hC2⟩|⟨rfl,hl2⟩
     ·skip;push_cast -dsimp;have r0:wh.drew.cell? ⟨wx.heap.size,0,none⟩=some (.int .i64 c.pos):=Rh.drew.cell rfl;have hRc:∀w'',Blk w'' wx.heap.size 50 [.int .i64 c.pos,.bool c.brk,.pointer (some ⟨x1,0,none⟩),.pointer (some ⟨x2,0,none⟩)]→w''.cell? ⟨wx.heap.size,0,none⟩=some (.int .i64 c.pos):=fun w'' h=>h.cell rfl
      refine wpL_treeN (.one 0 (.one 1 (.one 2 (.one 3 (.two 4 (.one 5 (.one 6 (.one 7 .done))) 6 (.one 4 (.one 5 (.one 7 .done)))))))) (fun w'=>Blk w' wx.heap.size 50 [.int .i64 c.pos,.bool c.brk,.pointer (some ⟨x1,0,none⟩),.pointer (some ⟨x2,0,none⟩)]) mixed (by kernel_rfl) Rh.drew ?_;push_cast -dsimp[r0];refine⟨fun w'' h=>by rw[hRc w'' h];exact rfl,?_,?_⟩
      ·refine boxK_of ?_;intro wi hwi;have hwi:New wh.drew wi 94 [.int .i64 4,.int .i64 c.pos]:=hwi;have zi:wi.heap.size=wh.heap.size+1:=hwi.size;have hbhi:Below wh.heap.size wh wi:=(below_drew wh).trans (hwi.below.mono (Nat.le_refl _));have Ri:=Rh.below hbhi (by omega);refine⟨Ri,?_⟩;have hb4i:=hb4h.trans (hbhi.mono (by omega));have Pi:=P4.below hb4i (by omega);push_cast -dsimp
       refine storeAgg (n:=2) (by kernel_rfl) Pi rfl (by simp) (by simp[Value.oneCell']) ?_;intro wj hwj;have Pj:Blk wj w1.heap.size 79 [.slice none 0 0,.bool false]:=hwj.blk;have dj:cellsAt wj ⟨w1.heap.size,0,none⟩ 0 2=some [.slice none 0 0,.bool false]:=Pj.cellsAt;refine⟨Ri.kept hwj.kept (by omega),?_⟩;push_cast -dsimp[dj]
       refine⟨?_,(hbw4.trans (hb4i.mono (by omega))).trans (hwj.kept.below (by have:=hb4i.size;omega) (fun i h=>by omega))⟩;unfold CompR;rw[hchk];exact .inr ⟨c,hcm,.inl hl1,_,rfl,wh.heap.size,by omega,rfl,hwi.blk.kept hwj.kept (by show ¬wh.heap.size=w1.heap.size;omega)⟩
      ·have Pd:=(P4.below hb4h (by omega)).drew;refine storeAgg (n:=2) (by kernel_rfl) Pd rfl (by simp) (by simp[Value.oneCell']) ?_;intro wi hwi;have zi:wi.heap.size=wh.heap.size:=hwi.size;have Pi:Blk wi w1.heap.size 79 [.slice none 0 0,.bool false]:=hwi.blk;have Ri:=Rh.drew.kept hwi.kept (by omega);refine⟨Ri,?_⟩;push_cast -dsimp;refine boxK_of ?_;intro wj hwj
       have hwj:New wi wj 94 [.int .i64 4,.int .i64 c.pos]:=hwj;have Pj:=Pi.below hwj.below Pi.lt;have dj:cellsAt wj ⟨w1.heap.size,0,none⟩ 0 2=some [.slice none 0 0,.bool false]:=Pj.cellsAt;refine⟨Ri.below hwj.below Ri.lt,?_⟩;push_cast -dsimp[dj];have hbwh:Below w.heap.size w wh:=hbw4.trans (hb4h.mono (by omega))
       have hkj:Kept (fun i=>i=w1.heap.size) wh wi:=((Kept.refl (fun i=>i=w1.heap.size) wh).drew).trans hwi.kept (fun _ _ h=>h);refine⟨?_,(hbwh.trans (hkj.below (by have:=hbwh.size;omega) (fun i h=>by omega))).trans (hwj.below.mono (by have:=hbwh.size;omega))⟩;unfold CompR;rw[hchk];exact .inr ⟨c,hcm,.inl hl1,_,rfl,wi.heap.size,by have:=hbwh.size;omega,rfl,hwj.blk⟩
     ·skip;push_cast -dsimp;have r0:wh.drew.cell? ⟨wx.heap.size,0,none⟩=some (.int .i64 c.pos):=Rh.drew.cell rfl;have hRc:∀w'',Blk w'' wx.heap.size 50 [.int .i64 c.pos,.bool c.brk,.pointer (some ⟨x1,0,none⟩),.pointer (some ⟨x2,0,none⟩)]→w''.cell? ⟨wx.heap.size,0,none⟩=some (.int .i64 c.pos):=fun w'' h=>h.cell rfl
      refine wpL_treeN (.one 0 (.one 1 (.one 2 (.one 3 (.two 4 (.one 5 (.one 6 (.one 7 .done))) 6 (.one 4 (.one 5 (.one 7 .done)))))))) (fun w'=>Blk w' wx.heap.size 50 [.int .i64 c.pos,.bool c.brk,.pointer (some ⟨x1,0,none⟩),.pointer (some ⟨x2,0,none⟩)]) mixed (by kernel_rfl) Rh.drew ?_;push_cast -dsimp[r0];refine⟨fun w'' h=>by rw[hRc w'' h];exact rfl,?_,?_⟩
      ·refine boxK_of ?_;intro wi hwi;have hwi:New wh.drew wi 94 [.int .i64 4,.int .i64 c.pos]:=hwi;have zi:wi.heap.size=wh.heap.size+1:=hwi.size;have hbhi:Below wh.heap.size wh wi:=(below_drew wh).trans (hwi.below.mono (Nat.le_refl _));have Ri:=Rh.below hbhi (by omega);refine⟨Ri,?_⟩;have hb4i:=hb4h.trans (hbhi.mono (by omega));have Pi:=P4.below hb4i (by omega);push_cast -dsimp
       refine storeAgg (n:=2) (by kernel_rfl) Pi rfl (by simp) (by simp[Value.oneCell']) ?_;intro wj hwj;have Pj:Blk wj w1.heap.size 79 [.slice none 0 0,.bool false]:=hwj.blk;have dj:cellsAt wj ⟨w1.heap.size,0,none⟩ 0 2=some [.slice none 0 0,.bool false]:=Pj.cellsAt;refine⟨Ri.kept hwj.kept (by omega),?_⟩;push_cast -dsimp[dj]
       refine⟨?_,(hbw4.trans (hb4i.mono (by omega))).trans (hwj.kept.below (by have:=hb4i.size;omega) (fun i h=>by omega))⟩;unfold CompR;rw[hchk];exact .inr ⟨c,hcm,.inl hl1,_,rfl,wh.heap.size,by omega,rfl,hwi.blk.kept hwj.kept (by show ¬wh.heap.size=w1.heap.size;omega)⟩
      ·have Pd:=(P4.below hb4h (by omega)).drew;refine storeAgg (n:=2) (by kernel_rfl) Pd rfl (by simp) (by simp[Value.oneCell']) ?_;intro wi hwi;have zi:wi.heap.size=wh.heap.size:=hwi.size;have Pi:Blk wi w1.heap.size 79 [.slice none 0 0,.bool false]:=hwi.blk;have Ri:=Rh.drew.kept hwi.kept (by omega);refine⟨Ri,?_⟩;push_cast -dsimp;refine boxK_of ?_;intro wj hwj
       have hwj:New wi wj 94 [.int .i64 4,.int .i64 c.pos]:=hwj;have Pj:=Pi.below hwj.below Pi.lt;have dj:cellsAt wj ⟨w1.heap.size,0,none⟩ 0 2=some [.slice none 0 0,.bool false]:=Pj.cellsAt;refine⟨Ri.below hwj.below Ri.lt,?_⟩;push_cast -dsimp[dj];have hbwh:Below w.heap.size w wh:=hbw4.trans (hb4h.mono (by omega))
       have hkj:Kept (fun i=>i=w1.heap.size) wh wi:=((Kept.refl (fun i=>i=w1.heap.size) wh).drew).trans hwi.kept (fun _ _ h=>h);refine⟨?_,(hbwh.trans (hkj.below (by have:=hbwh.size;omega) (fun i h=>by omega))).trans (hwj.below.mono (by have:=hbwh.size;omega))⟩;unfold CompR;rw[hchk];exact .inr ⟨c,hcm,.inl hl1,_,rfl,wi.heap.size,by have:=hbwh.size;omega,rfl,hwj.blk⟩
   ·rw[List.take_of_length_le (by omega)]at hA;obtain⟨oa,oc,rfl⟩:=hO.slice;have dQ:cellsAt wx ⟨w4.heap.size,0,none⟩ 0 2=some [.slice oa us.length oc,.bool f.els]:=hQ.cellsAt;have Px:=P4.below hb4x (by omega);push_cast -dsimp[dQ];refine storeAgg (n:=2) (by kernel_rfl) Px rfl (by simp) (by simp[Value.oneCell']) ?_;intro wj hwj
    have Pj:Blk wj w1.heap.size 79 [.slice oa us.length oc,.bool f.els]:=hwj.blk;have dj:cellsAt wj ⟨w1.heap.size,0,none⟩ 0 2=some [.slice oa us.length oc,.bool f.els]:=Pj.cellsAt;have hOj:=hO.keptX hwj.kept (fun g hg h=>by have:=hob g hg;have h':g=w1.heap.size:=h;omega);have hbwx:Below w.heap.size w wx:=hbw4.trans (hb4x.mono (by omega));push_cast -dsimp[dj]
    refine⟨?_,hbwx.trans (hwj.kept.below (by have:=hbwx.size;omega) (fun i h=>by omega))⟩;unfold CompR;rw[hchk];refine .inl ⟨nm,⟨l,f.els⟩,_,hnm,rfl,⟨_,rfl,(ownRead (R:=PairR (fun b=>X b∧b<w.heap.size) wj) hOj hul (fun k r hr=>?_)).weaken (fun b hb=>by have:=hb.2;omega)⟩,rfl,hA⟩;obtain⟨u,hu,_⟩:=lt_get (l:=us) (i:=k) (by have:=(List.getElem?_eq_some_iff.1 hr).1;omega)
    exact⟨u,hu,((hus k u r hu hr).keptK hwj.kept (fun j h=>.inr (.inl h))).narrow (fun b _ hb=>.inr (.inr (.inr hb)))⟩
theorem has_brace {s:List UInt8}{f:FileP}(hl:s.length≤900)(hp:parseR s=.ok f){r:RuleP}(hr:r∈f.rules)(h:2000<clen r.before+1∨2000<clen r.after+1):8<s.length∧((43:UInt8)∈s∨(123:UInt8)∈s):=by
 refine⟨?_,?_⟩
 ·by_cases h8:s.length≤8
  ·have:=clen_short h8 hp r hr;omega
  ·omega
 ·by_cases h1:(43:UInt8)∈s
  ·exact .inl h1
  ·by_cases h2:(123:UInt8)∈s
   ·exact .inr h2
   ·have:=clen_plain hl h1 h2 hp r hr;omega
theorem udec_le (n:Nat):∀(s:List UInt8) (a:Nat),s.length=n→∀u∈udec a s,u.p≤1114111:=by
 induction n using Nat.strongRecOn with
 | _ n ih =>
  intro s a hn u hu;by_cases h:s=[]
  ·subst h;rw[udec_nil]at hu;cases hu
  ·rw[udec_cons a s h]at hu;rcases List.mem_cons.1 hu with rfl|hu
   ·show (ustep s).1≤1114111
    unfold ustep;have:=(ufirst_le s).2.2.2;split<;>simp<;>omega
   ·have h1:=ustep_pos s;have h2:0<s.length:=List.length_pos_iff.2 h;exact ih (s.drop (ustep s).2).length (by simp;omega) _ _ rfl u hu
theorem pts_ok (t:List UInt8):∀p∈ptsU (udec 0 t),0≤p∧p≤1114111:=by
 intro p hp;unfold ptsU at hp;obtain⟨u,hu,rfl⟩:=List.mem_map.1 hp;have:=udec_le t.length t 0 rfl u hu;omega
theorem CodeOf.lens {has:KindP→Int→Prop}{back:Bool}{x:PatP}{c:CodeP}(h:CodeOf has back x c):SetsLen c∧c.ins.length<1000000000∧c.sets.length<1000000000:=by
 have h1:=h.most;have h2:=h.sets;exact⟨fun s hs=>by have:=right_len (h.right s hs);omega,by omega,by omega⟩
theorem reverse_c (l:List Int)(base:Nat)(v:Value)(w:World)(hn:l.length<1000000000)(ho:Vc.Own base 3 1 encZ w v l)(hb0:base≤w.heap.size) :
  Fun Tryz.prog 25 [v] w fun _ w'=>Vc.Own base 3 1 encZ w' v l.reverse∧Below base w w':=by
 obtain⟨a,c,rfl⟩:=ho.slice;refine fun_of_vc Tryz.func25 rfl (by kernel_rfl) [] rfl ?_;push_cast -dsimp(maxSteps:=4000000) [Tryz.ntmps25];refine⟨⟨by omega,by omega⟩,?_⟩
 refine wpL_loop [2,3,7,8,9,10,11,12,13,14,15,16,17,18,19,20,21,22,23,24,25,26,27] (fun z wx=>∃(i:Nat) (cur:List Int),z 2=.int .i64 i∧z 3=.int .i64 ((l.length:Int)-1-i)∧2*i≤l.length∧cur.length=l.length∧(∀k,k<l.length→cur[k]?=if k<i∨l.length-i≤k then l[l.length-1-k]? else l[k]?)∧Vc.Own base 3 1 encZ wx (.slice a l.length c) cur∧Below base w wx) (fun z _=>l.length-(intOf (z 2)).toNat) ?_ ?_
 ·exact⟨0,l,rfl,by simp[at_],by omega,rfl,fun k hk=>by rw[if_neg (by omega)],ho,Below.refl _ _⟩
 ·intro z wx hI;obtain⟨i,cur,h2,h3,hi,hcl,hcur,hox,hb⟩:=hI;have szx:=hb.size;push_cast -dsimp[h2,h3];refine⟨fun hlt=>?_,fun hge=>?_⟩
  ·have hex:∃(x y:Int) (g:Nat),cur[i]?=some x∧cur[l.length-1-i]?=some y∧a=some ⟨g,0,none⟩∧wx.cell? ⟨g,i,none⟩=some (.int .i64 x)∧wx.cell? ⟨g,l.length-1-i,none⟩=some (.int .i64 y):=by
    obtain⟨x,hx,_⟩:=lt_get (l:=cur) (i:=i) (by omega);obtain⟨y,hy,_⟩:=lt_get (l:=cur) (i:=l.length-1-i) (by omega);have hgx:=hox.sl.get hx;have hgy:=hox.sl.get hy;obtain⟨b,o,e,_,hcx⟩:=hgx;obtain⟨b',o',e',_,hcy⟩:=hgy;rw[e]at e';cases e';have ho0:o=0:=Vc.Own.at0 (by rw[←e];exact hox);subst ho0;exact⟨x,y,b,hx,hy,e,by simpa using hcx 0 _ rfl,by simpa using hcy 0 _ rfl⟩
   obtain⟨x,y,g,hx,hy,he,cx,cy⟩:=hex;subst he;have ej:((l.length:Int)-1-i)=((l.length-1-i:Nat):Int):=by omega
   rw[ej];refine wpL_told [0,1,2,3,4,5,6,7,8,9,10,11,12] 13 [14,15] (fun w'=>w'=wx.drew) mixed (by kernel_rfl) rfl ?_;have cx':wx.drew.cell? ⟨g,i,none⟩=some (.int .i64 x):=cx;have cy':wx.drew.cell? ⟨g,l.length-1-i,none⟩=some (.int .i64 y):=cy;have hod:Vc.Own base 3 1 encZ wx.drew (.slice (some ⟨g,0,none⟩) l.length c) cur:=hox.keptX (Kept.refl (fun _=>False) _).drew (fun _ _ h=>h)
   push_cast -dsimp[cx',cy'];refine⟨⟨by omega,by omega⟩,fun w'' hC=>by rw[hC,cy'];exact rfl,⟨by omega,by omega⟩,fun w'' hC=>by rw[hC,cx'];exact rfl,⟨by omega,by omega⟩,?_⟩;refine storeOwn (i:=i) (y:=y) hod rfl (by omega) rfl rfl ?_;intro w1 ho1 hk1 sz1;refine⟨trivial,?_⟩;push_cast -dsimp;refine⟨⟨by omega,by omega⟩,?_⟩;have hl1:l.length-1-i<(cur.set i y).length:=by rw[List.length_set];omega
   have el1:(cur.set i y).length=cur.length:=List.length_set;refine storeOwn (i:=l.length-1-i) (y:=x) ho1 rfl hl1 rfl rfl ?_;intro w2 ho2 hk2 sz2;have hkd:Kept (fun j=>j=g) wx w2:=(((Kept.refl (fun j=>j=g) wx).drew).trans hk1 (fun _ _ h=>h)).trans hk2 (fun _ _ h=>h);have hgb:base≤g:=(hox.block g rfl).1;refine⟨trivial,?_⟩;push_cast -dsimp
   refine⟨⟨by omega,by omega⟩,⟨by omega,by omega⟩,⟨i+1,(cur.set i y).set (l.length-1-i) x,rfl,by congr 1;omega,by omega,by rw[List.length_set,List.length_set];exact hcl,fun k hk=>?_,ho2,hb.trans (hkd.below (by omega) (fun j h=>by rw[show j=g from h];exact hgb))⟩,by rw[h2];simp only[intOf];omega⟩;rw[List.getElem?_set,List.getElem?_set];have hci:=hcur i (by omega)
   have hcj:=hcur (l.length-1-i) (by omega);rw[if_neg (by omega)]at hci hcj;rw[hx]at hci;rw[hy]at hcj;by_cases e1:l.length-1-i=k
   ·rw[if_pos e1,if_pos hl1,if_pos (by omega),hci];congr 1;omega
   ·rw[if_neg e1];by_cases e2:i=k
    ·rw[if_pos e2,if_pos (by omega),if_pos (by omega),hcj];congr 1;omega
    ·rw[if_neg e2,hcur k hk];by_cases e3:k<i∨l.length-i≤k
     ·rw[if_pos e3,if_pos (by omega)]
     ·rw[if_neg e3,if_neg (by omega)]
  ·have hrev:cur=l.reverse:=by
    apply List.ext_getElem?;intro k;by_cases hk:k<l.length
    ·rw[hcur k hk,List.getElem?_reverse hk];split
     ·rfl
     ·congr 1;omega
    ·rw[List.getElem?_eq_none (by omega),List.getElem?_eq_none (by rw[List.length_reverse];omega)]
   subst hrev;exact⟨hox,hb⟩
end Go.Proofs.YtledlfbbebodgaaGreatDoor
end
section
namespace Go.Proofs.YtledlfbbebodgaaGreatDoor
open Go.Vc Go.Proofs Go.RowKit Cae
attribute [local irreducible] wpL callK valK unitK runK Fun Sl Vc.Own vc vcOps opK pureK
attribute [local irreducible] breaksTo saysFrom isBreak ruleMet codeRight vmatch
theorem vmBreaks_c (p:ProgP)(ps:List Int)(hl:ProgLen p)(hps:ps.length<1000000)(X Xp:Nat→Prop)(v pv:Value)(w:World)(hv:ProgV X w v p)(hpv:Sl Xp 1 (En encZ) w pv ps)(hap:Arg pv) :
  Fun Tryz.prog 34 [v,pv] w fun r w'=>(if progRight p then ∃u,r=.tuple #[u,.nilIface]∧Vc.Own w.heap.size 3 1 encN w' u (breaksP p ps) else r=.tuple #[.slice none 0 0,.iface 83 (.int .i64 1)])∧Below w.heap.size w w':=by
 obtain⟨rv,rfl,hr⟩:=hv;obtain⟨a,c,rfl,hc⟩:=hr.shape;obtain⟨a3,c3,rfl,hc3⟩:=hpv.shape;refine fun_of_vc Tryz.func34 rfl (by kernel_rfl) [4,5] rfl ?_;push_cast -dsimp(maxSteps:=4000000) [Tryz.ntmps34];refine boxK_of ?_;intro w1 hw1;have hw1:New w w1 79 [.slice a p.rules.length c,.bool p.els]:=hw1;have sz1:=hw1.size
 have d1:cellsAt w1 ⟨w.heap.size,0,none⟩ 0 2=some [.slice a p.rules.length c,.bool p.els]:=hw1.blk.cellsAt;push_cast -dsimp[d1];refine callK_of (rightProgram_c p hl X _ w1 ⟨_,rfl,PairsV.below hr hw1.below⟩) ?_;rintro _ w2 ⟨rfl,hb2⟩;have sz2:=hb2.size;have hL2:=hw1.below.trans (hb2.mono (by omega));cases hR:progRight p with
 | false =>
  push_cast -dsimp[Bool.false_eq_true,if_false];exact hL2
 | true =>
  have hspec:=progRight_spec hR;obtain⟨hlen,hall⟩:=hspec;push_cast -dsimp
  refine wpL_loop [4,5,6,7,8,9,11,12,13,14,15,16,17,22,23,24,25,26,27,28,29,30,31,32,33,34,35,36,37,38,39,40,41,42,43,44,45,46,47,48,49,50,51,52,53,54,55,56,57,58,59,60,61,62,63,64,65,66,67,68,69,70,71,72,73,74,75,76,77,78,79,80,81,82,83,84,85,86,87,88,89,90,91,92,93] (fun z wx=>∃(i:Nat) (u:Value),z 7=.int .i64 i∧z 6=u∧i≤ps.length+1∧(ps=[]→i=0)∧Vc.Own w1.heap.size 3 1 encN wx u (breaksTo p ps i)∧Below w1.heap.size w1 wx) (fun z _=>ps.length+1-(intOf (z 7)).toNat) ?_ ?_
  ·refine⟨0,_,rfl,rfl,by omega,fun _=>rfl,?_,hb2⟩;rw[breaksTo_zero];exact Vc.Own.nil (enc:=encN) _ _ (fun _=>rfl) _
  ·intro z wx hI;obtain⟨i,u,h7,h6,hi,hnil,ho,hbx⟩:=hI;have hsl:=ho.slice;obtain⟨ua,uc,rfl⟩:=hsl;have hLx:Below w.heap.size w wx:=hw1.below.trans (hbx.mono (by omega));have szx:=hbx.size;have hbl:=breaksTo_len p ps i;push_cast -dsimp[h7,h6];have hdone:(ps=[]∨ps.length<i)→breaksTo p ps i=breaksP p ps:=fun h=>by
    unfold breaksP;by_cases h0:ps=[]
    ·rw[if_pos h0,hnil h0];exact breaksTo_zero p ps
    ·rw[if_neg h0];have:i=ps.length+1:=by
      rcases h with h|h
      ·exact absurd h h0
      ·omega
     rw[this]
   refine⟨fun hle=>⟨fun hpos=>?_,fun hzero=>?_⟩,fun hgt=>?_⟩
   ·have hi':i≤ps.length:=by omega
    have hpx:=hpv.below hLx;refine sliceHiK hpx hi' ?_;intro hs1;push_cast -dsimp;refine callK_of (clone_c (ps.take i) (by rw[List.length_take];omega) Xp _ wx hs1 (fun n c h=>by
     have:=hap ps.length c3 (by cases h;rfl);cases h;omega)) ?_
    rintro v1 w3 ⟨ho1,hb3⟩;have sz3:=hb3.size;push_cast -dsimp;refine callK_of (reverse_c (ps.take i) wx.heap.size v1 w3 (by rw[List.length_take];omega) ho1 (by omega)) ?_;rintro _ w4 ⟨ho2,hb4⟩;have sz4:=hb4.size;have hb34:Below wx.heap.size wx w4:=hb3.trans hb4;have hs1':=ho2.sl;have hb4':Below w1.heap.size w1 w4:=hbx.trans (hb34.mono (by omega))
    have hP4:Blk w4 w.heap.size 79 [.slice a p.rules.length c,.bool p.els]:=hw1.blk.below hb4' (by omega);have e0:w4.cell? ⟨w.heap.size,0,none⟩=some (.slice a p.rules.length c):=hP4.cell rfl;have e1:w4.cell? ⟨w.heap.size,1,none⟩=some (.bool p.els):=hP4.cell rfl;have hL4:=hLx.trans (hb34.mono (by omega));have ho3:=ho.below (hb34.mono (Nat.le_refl _));have hsb:∃sb,saysFrom p ps i 0=sb:=⟨_,rfl⟩
    obtain⟨sb,hsb⟩:=hsb;have hyes:(sb=true∨i=0∨i=ps.length)→breaksTo p ps (i+1)=breaksTo p ps i++[i]:=fun h=>by
     rw[breaksTo_succ,if_pos];unfold isBreak;rw[hsb];rcases h with h|h|h
     ·rw[h];rfl
     ·rw[decide_eq_true h,Bool.or_true,Bool.true_or]
     ·rw[decide_eq_true h,Bool.or_true]
    have hno:sb=false→i≠0→i≠ps.length→breaksTo p ps (i+1)=breaksTo p ps i:=fun h1 h2 h3=>by
     rw[breaksTo_succ,if_neg];unfold isBreak;rw[hsb,h1,decide_eq_false h2,decide_eq_false h3];simp
    have hnil1:ps=[]→i+1=0:=fun h=>by subst h;simp at hpos
    push_cast -dsimp[e0,e1];refine wpL_loop [4,5,9,11,12,13,14,15,16,17,44,45,46,47,48,49,50,51,52,53,54,55,56,57,58,59,60,61,62,63,64,65,66,67,68,69,70,71,72,73,74,75,76,77,78] (fun z' wy=>∃(k:Nat),z' 44=.int .i64 k∧z' 9=.bool p.els∧k≤p.rules.length∧saysFrom p ps i 0=saysFrom p ps i k∧Below w4.heap.size w4 wy) (fun z' _=>p.rules.length-(intOf (z' 44)).toNat) ?_ ?_
    ·exact⟨0,rfl,rfl,Nat.zero_le _,rfl,Below.refl _ _⟩
    ·intro z' wy hI;obtain⟨k,h44,h9,hk,hsk,hby⟩:=hI;have szy:=hby.size;have hLy:Below w.heap.size w wy:=hL4.trans (hby.mono (by omega));have hb1y:Below w1.heap.size w1 wy:=hb4'.trans (hby.mono (by omega));rcases Nat.lt_or_ge k p.rules.length with hlt|hge
     ·have hg:=lt_get (l:=p.rules) (i:=k) hlt;obtain⟨r,hrk,hrm,_⟩:=hg;have hg:=Sl.getR (PairsV.below hr hLy) hrk;obtain⟨b,o,cs,rfl,hX,hk5,hcell,hRr⟩:=hg;obtain⟨s1,i1,s2,i2,rfl,h1,h2⟩:=hRr;have ce:cellsAt wy ⟨b,o+k*5,none⟩ 0 5=some [.bool r.brk,s1,i1,s2,i2]:=cellsAt_of [.bool r.brk,s1,i1,s2,i2] 0 (fun j u hu=>by simpa using hcell j u hu);push_cast -dsimp[h44,h9,ce]
      refine⟨fun _=>⟨⟨by omega,by omega⟩,?_⟩,fun h=>absurd h (by omega)⟩;have hcr:=hall r hrm;have hlr:=hl.2 r hrm;refine allocK (z:=[.bool false,.slice none 0 0,.slice none 0 0,.slice none 0 0,.slice none 0 0]) (by kernel_rfl) ?_;intro wa hwa;push_cast -dsimp;refine storeAgg (n:=5) (by kernel_rfl) hwa.blk rfl (by simp) (by
       obtain⟨_,_,e1,g1,g2⟩:=h1;cases e1;obtain⟨_,_,rfl,_⟩:=g1.shape;obtain⟨_,_,rfl,_⟩:=g2.shape;obtain⟨_,_,e2,g3,g4⟩:=h2;cases e2;obtain⟨_,_,rfl,_⟩:=g3.shape;obtain⟨_,_,rfl,_⟩:=g4.shape;simp[Value.oneCell']) ?_
      intro wb hwb;have sza:=hwa.size;have szb:=hwb.size;have hbyb:Below wy.heap.size wy wb:=hwa.below.trans (hwb.kept.below (by omega) (fun _ h=>by omega));have hBb:Blk wb wy.heap.size 139 [.bool r.brk,s1,i1,s2,i2]:=hwb.blk;have f1:cellsAt wb ⟨wy.heap.size,1,none⟩ 0 2=some [s1,i1]:=blkSome (n:=2) (xs:=[s1,i1]) hBb 1 rfl rfl;have hLb:=hLy.trans (hbyb.mono (by omega))
      have hb4b:Below w4.heap.size w4 wb:=hby.trans (hbyb.mono szy);have hcon:=match_c r.before (ps.take i).reverse hlr.1.1 hlr.1.2.1 hlr.1.2.2 (by rw[List.length_reverse,List.length_take];omega) X _ _ v1 wb (h1.below hbyb) (hs1'.below hb4b);unfold MatchV at hcon;rw[if_pos hcr.1]at hcon;have e1:(vmatch r.before (ps.take i).reverse).1=decide ((vmatch r.before (ps.take i).reverse).1=true):=by simp
      rw[e1]at hcon;push_cast -dsimp[f1];refine callK_of hcon ?_;rintro _ wc ⟨rfl,hbc⟩;have szc:=hbc.size;have hBc:=hBb.below hbc (by omega);have hb4c:Below w4.heap.size w4 wc:=hb4b.trans (hbc.mono (by omega));have hst:=saysFrom_step (ps:=ps) (i:=i) hrk;have hyesr:(vmatch r.before (ps.take i).reverse).1=true→(vmatch r.after (ps.drop i)).1=true→r.brk=sb:=fun h1 h2=>by
       rw[←hsb,hsk,hst,if_pos];unfold ruleMet;rw[h1,h2];rfl
      have hnor:((vmatch r.before (ps.take i).reverse).1≠true∨(vmatch r.after (ps.drop i)).1≠true)→saysFrom p ps i 0=saysFrom p ps i (k+1):=fun h=>by
       rw[hsk,hst,if_neg];unfold ruleMet;rw[Bool.and_eq_true];rintro⟨h1,h2⟩;rcases h with h|h
       ·exact h h1
       ·exact h h2
      push_cast -dsimp;refine⟨fun hm1=>⟨⟨by omega,by omega⟩,⟨k+1,rfl,by omega,hnor (.inl hm1),hb4c⟩,by rw[h44];simp only[intOf];omega⟩,fun hm1=>?_⟩;have hm1:(vmatch r.before (ps.take i).reverse).1=true:=Classical.byContradiction hm1;refine wpL_draw (fun w'=>Blk w' wy.heap.size 139 [.bool r.brk,s1,i1,s2,i2]) mixed (by kernel_rfl) hBc.drew ?_
      have f2:∀w':World,Blk w' wy.heap.size 139 [.bool r.brk,s1,i1,s2,i2]→cellsAt w' ⟨wy.heap.size,3,none⟩ 0 2=some [s2,i2]:=fun w' h=>blkSome (n:=2) (xs:=[s2,i2]) h 3 rfl rfl;have f2d:=f2 wc.drew hBc.drew;have hLc:Below w.heap.size w wc.drew:=(hL4.trans (hb4c.mono (by omega))).drew;push_cast -dsimp[f2d];refine⟨fun w'' hC=>by rw[f2 w'' hC];exact rfl,?_⟩;refine sliceLoK (hpv.below hLc) hi' ?_
      intro a' c' hs2;push_cast -dsimp;have hcon:=match_c r.after (ps.drop i) hlr.2.1 hlr.2.2.1 hlr.2.2.2 (by rw[List.length_drop];omega) X _ _ _ wc.drew (h2.below (hbyb.trans ((hbc.mono (by omega)).drew))) hs2;unfold MatchV at hcon;rw[if_pos hcr.2]at hcon;have e2:(vmatch r.after (ps.drop i)).1=decide ((vmatch r.after (ps.drop i)).1=true):=by simp
      rw[e2]at hcon;refine callK_of hcon ?_;rintro _ we ⟨rfl,hbe0⟩;have hbe':Below wc.heap.size wc we:=(Below.refl _ _).drew.trans hbe0;have sze0:=hbe'.size;have hBe:=hBc.below hbe' (by omega);refine⟨hBe,?_⟩;have hb4e:Below w4.heap.size w4 we:=hb4c.trans (hbe'.mono (by omega));push_cast -dsimp
      refine⟨fun hm2=>?_,fun hm2=>⟨⟨by omega,by omega⟩,⟨k+1,rfl,by omega,hnor (.inr hm2),hb4e⟩,by rw[h44];simp only[intOf];omega⟩⟩;have hc0:we.cell? ⟨wy.heap.size,0,none⟩=some (.bool r.brk):=hBe.cell rfl;rw[hyesr hm1 hm2]at hc0;have ho4:=ho3.below (hb4e.mono (Nat.le_refl _));have hbe:Below w1.heap.size w1 we:=hb4'.trans (hb4e.mono (by omega));have sze:=hbe.size;cases sb with
      | true =>
       push_cast -dsimp[hc0];have hy:=hyes (.inl rfl);refine rowK elI_53 rfl rfl (by omega) ?_;intro w6 hw6;have sz6:=hw6.size;push_cast -dsimp;refine appendK2 (base:=w1.heap.size) [i] (enc:=encN) elI_53 (ho4.new hw6) (by rfl) (fun j u hu=>by simpa[encN] using hw6.cell hu) (by simp[encN,Value.oneCell']) (by simp only[List.length_cons,List.length_nil];omega) (by omega) ?_;intro v' w7 ho7 hg7 hn7
       have hk7:Kept (fun j=>(Value.slice ua (breaksTo p ps i).length uc).ownBlock=some j) w6 w7:=Kept.grown hg7 (fun _ h=>h);have hb7:Below w1.heap.size w1 w7:=hbe.trans ((hw6.below.mono sze).trans (hk7.below (by omega) (fun g h=>(ho4.block g h).1)));push_cast -dsimp;rw[←hy]at ho7;exact⟨⟨by omega,by omega⟩,⟨i+1,_,rfl,rfl,by omega,hnil1,ho7,hb7⟩,by rw[h7];simp only[intOf];omega⟩
      | false =>
       push_cast -dsimp[hc0];refine⟨fun hi0=>⟨fun hil=>?_,fun hil=>?_⟩,fun hi0=>?_⟩
       ·have hy:=hyes (.inr (.inr (by omega)));refine rowK elI_53 rfl rfl (by omega) ?_;intro w6 hw6;have sz6:=hw6.size;push_cast -dsimp;refine appendK2 (base:=w1.heap.size) [i] (enc:=encN) elI_53 (ho4.new hw6) (by rfl) (fun j u hu=>by simpa[encN] using hw6.cell hu) (by simp[encN,Value.oneCell']) (by simp only[List.length_cons,List.length_nil];omega) (by omega) ?_;intro v' w7 ho7 hg7 hn7
        have hk7:Kept (fun j=>(Value.slice ua (breaksTo p ps i).length uc).ownBlock=some j) w6 w7:=Kept.grown hg7 (fun _ h=>h);have hb7:Below w1.heap.size w1 w7:=hbe.trans ((hw6.below.mono sze).trans (hk7.below (by omega) (fun g h=>(ho4.block g h).1)));push_cast -dsimp;rw[←hy]at ho7;exact⟨⟨by omega,by omega⟩,⟨i+1,_,rfl,rfl,by omega,hnil1,ho7,hb7⟩,by rw[h7];simp only[intOf];omega⟩
       ·have hy:=hno rfl (by omega) (by omega);have ho5:Vc.Own w1.heap.size 3 1 encN we (.slice ua (breaksTo p ps i).length uc) (breaksTo p ps (i+1)):=by rw[hy];exact ho4
        exact⟨⟨by omega,by omega⟩,⟨i+1,_,rfl,rfl,by omega,hnil1,ho5,hbe⟩,by rw[h7];simp only[intOf];omega⟩
       ·have hy:=hyes (.inr (.inl (by omega)));refine rowK elI_53 rfl rfl (by omega) ?_;intro w6 hw6;have sz6:=hw6.size;push_cast -dsimp;refine appendK2 (base:=w1.heap.size) [i] (enc:=encN) elI_53 (ho4.new hw6) (by rfl) (fun j u hu=>by simpa[encN] using hw6.cell hu) (by simp[encN,Value.oneCell']) (by simp only[List.length_cons,List.length_nil];omega) (by omega) ?_;intro v' w7 ho7 hg7 hn7
        have hk7:Kept (fun j=>(Value.slice ua (breaksTo p ps i).length uc).ownBlock=some j) w6 w7:=Kept.grown hg7 (fun _ h=>h);have hb7:Below w1.heap.size w1 w7:=hbe.trans ((hw6.below.mono sze).trans (hk7.below (by omega) (fun g h=>(ho4.block g h).1)));push_cast -dsimp;rw[←hy]at ho7;exact⟨⟨by omega,by omega⟩,⟨i+1,_,rfl,rfl,by omega,hnil1,ho7,hb7⟩,by rw[h7];simp only[intOf];omega⟩
     ·have hke:p.els=sb:=by rw[←hsb,hsk,saysFrom_end p ps i k hge]
      rw[hke]at h9;push_cast -dsimp[h44,h9];refine⟨fun h=>absurd h (by omega),fun _=>?_⟩;have ho4:=ho3.below (hby.mono (Nat.le_refl _));have hbe:=hb1y;have sze:=hbe.size;cases sb with
      | true =>
       push_cast -dsimp[h44];have hy:=hyes (.inl rfl);refine rowK elI_53 rfl rfl (by omega) ?_;intro w6 hw6;have sz6:=hw6.size;push_cast -dsimp;refine appendK2 (base:=w1.heap.size) [i] (enc:=encN) elI_53 (ho4.new hw6) (by rfl) (fun j u hu=>by simpa[encN] using hw6.cell hu) (by simp[encN,Value.oneCell']) (by simp only[List.length_cons,List.length_nil];omega) (by omega) ?_;intro v' w7 ho7 hg7 hn7
       have hk7:Kept (fun j=>(Value.slice ua (breaksTo p ps i).length uc).ownBlock=some j) w6 w7:=Kept.grown hg7 (fun _ h=>h);have hb7:Below w1.heap.size w1 w7:=hbe.trans ((hw6.below.mono sze).trans (hk7.below (by omega) (fun g h=>(ho4.block g h).1)));push_cast -dsimp;rw[←hy]at ho7;exact⟨⟨by omega,by omega⟩,⟨i+1,_,rfl,rfl,by omega,hnil1,ho7,hb7⟩,by rw[h7];simp only[intOf];omega⟩
      | false =>
       push_cast -dsimp[h44];refine⟨fun hi0=>⟨fun hil=>?_,fun hil=>?_⟩,fun hi0=>?_⟩
       ·have hy:=hyes (.inr (.inr (by omega)));refine rowK elI_53 rfl rfl (by omega) ?_;intro w6 hw6;have sz6:=hw6.size;push_cast -dsimp;refine appendK2 (base:=w1.heap.size) [i] (enc:=encN) elI_53 (ho4.new hw6) (by rfl) (fun j u hu=>by simpa[encN] using hw6.cell hu) (by simp[encN,Value.oneCell']) (by simp only[List.length_cons,List.length_nil];omega) (by omega) ?_;intro v' w7 ho7 hg7 hn7
        have hk7:Kept (fun j=>(Value.slice ua (breaksTo p ps i).length uc).ownBlock=some j) w6 w7:=Kept.grown hg7 (fun _ h=>h);have hb7:Below w1.heap.size w1 w7:=hbe.trans ((hw6.below.mono sze).trans (hk7.below (by omega) (fun g h=>(ho4.block g h).1)));push_cast -dsimp;rw[←hy]at ho7;exact⟨⟨by omega,by omega⟩,⟨i+1,_,rfl,rfl,by omega,hnil1,ho7,hb7⟩,by rw[h7];simp only[intOf];omega⟩
       ·have hy:=hno rfl (by omega) (by omega);have ho5:Vc.Own w1.heap.size 3 1 encN wy (.slice ua (breaksTo p ps i).length uc) (breaksTo p ps (i+1)):=by rw[hy];exact ho4
        exact⟨⟨by omega,by omega⟩,⟨i+1,_,rfl,rfl,by omega,hnil1,ho5,hbe⟩,by rw[h7];simp only[intOf];omega⟩
       ·have hy:=hyes (.inr (.inl (by omega)));refine rowK elI_53 rfl rfl (by omega) ?_;intro w6 hw6;have sz6:=hw6.size;push_cast -dsimp;refine appendK2 (base:=w1.heap.size) [i] (enc:=encN) elI_53 (ho4.new hw6) (by rfl) (fun j u hu=>by simpa[encN] using hw6.cell hu) (by simp[encN,Value.oneCell']) (by simp only[List.length_cons,List.length_nil];omega) (by omega) ?_;intro v' w7 ho7 hg7 hn7
        have hk7:Kept (fun j=>(Value.slice ua (breaksTo p ps i).length uc).ownBlock=some j) w6 w7:=Kept.grown hg7 (fun _ h=>h);have hb7:Below w1.heap.size w1 w7:=hbe.trans ((hw6.below.mono sze).trans (hk7.below (by omega) (fun g h=>(ho4.block g h).1)));push_cast -dsimp;rw[←hy]at ho7;exact⟨⟨by omega,by omega⟩,⟨i+1,_,rfl,rfl,by omega,hnil1,ho7,hb7⟩,by rw[h7];simp only[intOf];omega⟩
   ·have h0:ps=[]:=List.eq_nil_of_length_eq_zero (by omega);rw[←hdone (.inl h0)];exact⟨⟨_,rfl,ho.mono (by omega)⟩,hLx⟩
   ·rw[←hdone (.inr (by omega))];exact⟨⟨_,rfl,ho.mono (by omega)⟩,hLx⟩
end Go.Proofs.YtledlfbbebodgaaGreatDoor
end
section
namespace Cae
theorem breaks_few {has:KindP→Int→Prop}{pts:List Int}(rules:List RuleP)(els:Bool):(breaksM has pts rules els).length≤pts.length+1:=by
 unfold breaksM;split
 ·simp
 ·exact Nat.le_trans (List.length_filter_le _ _) (by simp)
end Cae
end
