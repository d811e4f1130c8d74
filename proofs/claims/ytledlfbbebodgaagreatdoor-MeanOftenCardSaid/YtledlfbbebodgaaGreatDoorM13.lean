/- Texts of this claim, merged: Oft, Pmean6, MnC, MnD, Oft2. -/
import Derived.Test.YtledlfbbebodgaaGreatDoorM10
import Derived.Test.YtledlfbbebodgaaGreatDoorM12
import Derived.Test.YtledlfbbebodgaaGreatDoorM4
set_option maxRecDepth 100000
set_option linter.unusedSimpArgs false
set_option linter.unusedVariables false
set_option maxHeartbeats 8000000
section
namespace Go.Proofs.YtledlfbbebodgaaGreatDoor
open Go.Vc Go.Proofs Go.RowKit Cae
attribute [local irreducible] wpL callK valK unitK runK Fun Sl Vc.Own vc vcOps opK pureK
theorem manyO_c (x:PatP) (lo hi:Int) (cb u:Nat) (w:World) (hV:PatV (fun _=>False) w (ptrP u) x) (hc:w.cell? ⟨cb,0,none⟩=some (.pointer (some ⟨u,0,none⟩))) :
  Fun Tryz.prog 18 [.int .i64 lo,.int .i64 hi,.pointer (some ⟨cb,0,none⟩)] w fun r w'=>PatV (fun _=>False) w' r (.many x lo hi)∧Below w.heap.size w w':=by
 refine fun_of_vc Tryz.func18 rfl (by kernel_rfl) [5] rfl ?_;simp -dsimp (maxSteps:=4000000) only[push_cast,fr0,Tryz.ntmps18,List.length_cons,List.length_nil,Nat.reduceAdd,Nat.reduceSub,Nat.reduceBEq,List.replicate_succ,List.replicate_zero];push_cast -dsimp[hc];refine rowK elI_37 rfl rfl (by omega) ?_;intro w1 hw1;have z1:=hw1.size;push_cast -dsimp;refine boxK_of ?_;intro w2 hw2
 have hw2:New w1 w2 39 [.int .i64 6,.pointer none,.slice (some ⟨w.heap.size,0,none⟩) 1 1,.int .i64 lo,.int .i64 hi]:=hw2;have z2:=hw2.size;have O1:Vc.Own 0 35 1 encP w1 (.slice (some ⟨w.heap.size,0,none⟩) 1 1) [u]:=hw1.own (by rfl) rfl (fun _=>rfl) (by omega) (by omega);have hb2:Below w.heap.size w w2:=hw1.below.trans (hw2.below.mono (by omega));push_cast -dsimp;refine⟨?_,hb2⟩;simp only[PatV]
 exact⟨_,_,u,rfl,id,hw2.blk,(O1.sl.weaken (fun _ h=>h.elim)).below hw2.below,hV.below hb2⟩
theorem catO_c (l:List PatP) (vs:List Nat) (sv:Value) (w:World) (hs:Sl (fun _=>False) 1 (En encP) w sv vs) (hV:PatsV (fun _=>False) w vs l) :
  Fun Tryz.prog 19 [sv] w fun r w'=>PatV (fun _=>False) w' r (.cat l)∧Below w.heap.size w w':=by
 have hsh:=hs.shape;obtain⟨sa,sc,rfl,hsc⟩:=hsh;refine fun_of_vc Tryz.func19 rfl (by kernel_rfl) [2] rfl ?_;simp -dsimp (maxSteps:=4000000) only[push_cast,fr0,Tryz.ntmps19,List.length_cons,List.length_nil,Nat.reduceAdd,Nat.reduceSub,Nat.reduceBEq,List.replicate_succ,List.replicate_zero];push_cast -dsimp;refine boxK_of ?_;intro w2 hw2
 have hw2:New w w2 39 [.int .i64 4,.pointer none,.slice sa vs.length sc,.int .i64 0,.int .i64 0]:=hw2;have hb2:=hw2.below;push_cast -dsimp;refine⟨?_,hb2⟩;simp only[PatV];exact⟨_,_,vs,rfl,id,hw2.blk,hs.below hb2,hV.below hb2⟩
theorem altO_c (l:List PatP) (vs:List Nat) (sv:Value) (w:World) (hs:Sl (fun _=>False) 1 (En encP) w sv vs) (hV:PatsV (fun _=>False) w vs l) :
  Fun Tryz.prog 20 [sv] w fun r w'=>PatV (fun _=>False) w' r (.alt l)∧Below w.heap.size w w':=by
 have hsh:=hs.shape;obtain⟨sa,sc,rfl,hsc⟩:=hsh;refine fun_of_vc Tryz.func20 rfl (by kernel_rfl) [2] rfl ?_;simp -dsimp (maxSteps:=4000000) only[push_cast,fr0,Tryz.ntmps20,List.length_cons,List.length_nil,Nat.reduceAdd,Nat.reduceSub,Nat.reduceBEq,List.replicate_succ,List.replicate_zero];push_cast -dsimp;refine boxK_of ?_;intro w2 hw2
 have hw2:New w w2 39 [.int .i64 5,.pointer none,.slice sa vs.length sc,.int .i64 0,.int .i64 0]:=hw2;have hb2:=hw2.below;push_cast -dsimp;refine⟨?_,hb2⟩;simp only[PatV];exact⟨_,_,vs,rfl,id,hw2.blk,hs.below hb2,hV.below hb2⟩
theorem pats_two {X:Nat→Prop} {w:World} {u v:Nat} {x y:PatP} (h1:PatV X w (ptrP u) x) (h2:PatV X w (ptrP v) y):PatsV X w [u,v] [x,y]:=by
 simp only[PatsV];exact⟨h1,h2,trivial⟩
def catOV:Value:=.func (.func 19) #[] #[]
structure SameV (w:World) (cb eb bb mb ub pb mm ue:Nat) (back:Bool) (lv:Value) (us:List U) (nm:NamesP) (i:Nat):Prop where
 c:w.cell? ⟨cb,0,none⟩=some catOV
 e:w.cell? ⟨eb,0,none⟩=some (.pointer (some ⟨ue,0,none⟩))
 b:w.cell? ⟨bb,0,none⟩=some (.bool back)
 m:w.cell? ⟨mb,0,none⟩=some (.map (some mm))
 u:w.cell? ⟨ub,0,none⟩=some lv
 p:w.cell? ⟨pb,0,none⟩=some (.int .i64 i)
 pe:PatV (fun _=>False) w (ptrP ue) .edge
 nv:NamV (fun _=>False) w mm nm
 us:Sl (fun _=>False) 3 (En encU) w lv us
theorem SameV.below {w w':World} {cb eb bb mb ub pb mm ue:Nat} {back:Bool} {lv:Value} {us:List U} {nm:NamesP} {i:Nat} (h:SameV w cb eb bb mb ub pb mm ue back lv us nm i) (hb:Below w.heap.size w w'):SameV w' cb eb bb mb ub pb mm ue back lv us nm i :=
 ⟨(hb.cell (World.block_lt_of_cell? w _ h.c)).trans h.c,(hb.cell (World.block_lt_of_cell? w _ h.e)).trans h.e,(hb.cell (World.block_lt_of_cell? w _ h.b)).trans h.b,(hb.cell (World.block_lt_of_cell? w _ h.m)).trans h.m,(hb.cell (World.block_lt_of_cell? w _ h.u)).trans h.u,(hb.cell (World.block_lt_of_cell? w _ h.p)).trans h.p,h.pe.below hb,h.nv.below hb,h.us.below hb⟩
theorem wd_two (x y:PatP):wd (.cat [x,y])≤2+wd x+wd y:=by
 have h1:wd x≤2+wd x+wd y:=by omega
 have h2:wd y≤2+wd x+wd y:=by omega
 rw[wd];exact Nat.max_le.2 ⟨by simp only[List.length_cons,List.length_nil];omega,wds_le fun z hz=>by
  simp only[List.mem_cons,List.not_mem_nil,or_false]at hz;rcases hz with rfl|rfl
  ·exact h1
  ·exact h2⟩
theorem wd_twoA (x y:PatP):wd (.alt [x,y])≤2+wd x+wd y:=by
 have h1:wd x≤2+wd x+wd y:=by omega
 have h2:wd y≤2+wd x+wd y:=by omega
 rw[wd];exact Nat.max_le.2 ⟨by simp only[List.length_cons,List.length_nil];omega,wds_le fun z hz=>by
  simp only[List.mem_cons,List.not_mem_nil,or_false]at hz;rcases hz with rfl|rfl
  ·exact h1
  ·exact h2⟩
theorem rowP {w w':World} {u v:Nat} (h:New w w' 35 [.pointer (some ⟨u,0,none⟩),.pointer (some ⟨v,0,none⟩)]):Sl (fun _=>False) 1 (En encP) w' (.slice (some ⟨w.heap.size,0,none⟩) 2 2) [u,v] :=
 ((h.own (base:=0) (k:=1) (n:=2) (enc:=encP) (l:=[u,v]) rfl rfl (fun _=>rfl) (Nat.zero_le _) (by omega)).sl).weaken (fun _ h=>h.elim)
theorem sameO_c (x y : PatP) (hx : PatOk x) (hy : PatOk y) (hwx : wd x ≤ 99000) (hwy : wd y ≤ 99000) (nm : NamesP) (hr : RightN nm) (us : List U) (hlen : us.length ≤ 1000) (i : Nat) (hi : i ≤ us.length) (back : Bool) (hsame : Same (hasN nm) (ptsU us) back x y) (cb eb bb mb ub pb mm ue u v : Nat) (lv : Value) (w : World) (h : SameV w cb eb bb mb ub pb mm ue back lv us nm i) (hVx : PatV (fun _ => False) w (ptrP u) x) (hVy : PatV (fun _ => False) w (ptrP v) y) :
    Fun Tryz.prog 21 [ptrP u, ptrP v, .pointer (some ⟨cb, 0, none⟩), .pointer (some ⟨eb, 0, none⟩), .pointer (some ⟨bb, 0, none⟩), .pointer (some ⟨mb, 0, none⟩), .pointer (some ⟨ub, 0, none⟩), .pointer (some ⟨pb, 0, none⟩)] w fun r w' => r = .bool true ∧ Below w.heap.size w w' := by
  unfold ptrP
  refine fun_of_vc Tryz.func21 rfl (by kernel_rfl) [10] rfl ?_
  simp -dsimp (maxSteps := 4000000) only [push_cast, fr0, Tryz.ntmps21, List.length_cons, List.length_nil, Nat.reduceAdd, Nat.reduceSub, Nat.reduceBEq, List.replicate_succ, List.replicate_zero]
  have hS := h
  have P1 := pats_two hVx h.pe
  have P2 := pats_two hVy h.pe
  -- u ue: the first row; v ue: the second; [x, .edge] [y, .edge]: the patterns' parts; w: world; 13, 14, 15, 16, 17, 18, 19, 20, 21, 22, 11, 12: slots (P1, P2, hS at w)
  refine wpL_cut [13, 14, 15, 16, 17, 18, 19, 20, 21, 22, 11, 12] (fun z w' => ∃ pb qb : Nat, z 11 = .pointer (some ⟨pb, 0, none⟩) ∧ z 12 = .pointer (some ⟨qb, 0, none⟩) ∧ PatV (fun _ => False) w' (.pointer (some ⟨pb, 0, none⟩)) (.cat [x, .edge]) ∧ PatV (fun _ => False) w' (.pointer (some ⟨qb, 0, none⟩)) (.cat [y, .edge]) ∧ Below w.heap.size w w') ?_ ?_
  · have keepC : ∀ y, Below w.heap.size w y → y.cell? ⟨cb, 0, none⟩ = some catOV ∧ y.cell? ⟨eb, 0, none⟩ = some (.pointer (some ⟨ue, 0, none⟩)) := fun y hy => ⟨(hy.cell (World.block_lt_of_cell? w _ hS.c)).trans hS.c, (hy.cell (World.block_lt_of_cell? w _ hS.e)).trans hS.e⟩
    have hd := below_drew w
    have zd : w.drew.heap.size = w.heap.size := rfl
    have c1 := (keepC _ hd).1
    have c2 := (keepC _ hd).2
    refine wpL_tree (.one 0 (.one 1 (.one 2 (.one 5 (.one 6 (.one 7 (.two 3 (.two 4 (.one 8 (.one 9 (.one 10 (.one 11 .done)))) 8 (.one 4 (.one 9 (.one 10 (.one 11 .done))))) 8 (.one 3 (.one 4 (.one 9 (.one 10 (.one 11 .done)))))))))))) (fun y => y.cell? ⟨cb, 0, none⟩ = some catOV ∧ y.cell? ⟨eb, 0, none⟩ = some (.pointer (some ⟨ue, 0, none⟩))) mixed (by kernel_rfl) (keepC _ hd) ?_
    unfold catOV at c1
    push_cast -dsimp [c1, c2]
    refine ⟨fun w'' h => by rw [h.1]; exact rfl, fun w'' h => by rw [h.2]; exact rfl, fun w'' h => by rw [h.1]; exact rfl, fun w'' h => by rw [h.2]; exact rfl, ?_, ?_⟩
    · refine rowK elI_37 rfl rfl (by omega) ?_
      intro y1 n1
      have s1 := n1.size
      have b1 : Below w.heap.size w y1 := hd.trans (n1.below.mono (by omega))
      have r1 := rowP n1
      refine ⟨keepC _ b1, ?_⟩
      push_cast -dsimp
      constructor
      · refine callK_of (catO_c [x, .edge] _ _ y1 r1 (P1.below b1)) ?_
        rintro r y2 ⟨hp, k2⟩
        have s2 := k2.size
        have b2 := b1.trans (k2.mono (by omega))
        obtain ⟨pb, rfl, _, _⟩ := hp.ptr
        refine ⟨keepC _ b2, ?_⟩
        push_cast -dsimp
        refine rowK elI_37 rfl rfl (by omega) ?_
        intro y3 n3
        have s3 := n3.size
        have b3 := b2.trans (n3.below.mono (by omega))
        refine ⟨keepC _ b3, ?_⟩
        push_cast -dsimp
        refine callK_of (catO_c [y, .edge] _ _ y3 (rowP n3) (P2.below b3)) ?_
        rintro r y4 ⟨hq, k4⟩
        have s4 := k4.size
        have b4 := b3.trans (k4.mono (by omega))
        obtain ⟨qb, rfl, _, _⟩ := hq.ptr
        refine ⟨keepC _ b4, ?_⟩
        push_cast -dsimp
        exact ⟨pb, qb, rfl, rfl, (hp.below n3.below).below k4, hq, b4⟩
      · refine rowK elI_37 rfl rfl (by omega) ?_
        intro y2 n2
        have s2 := n2.size
        have b2 := b1.trans (n2.below.mono (by omega))
        refine ⟨keepC _ b2, ?_⟩
        push_cast -dsimp
        refine callK_of (catO_c [x, .edge] _ _ y2 (r1.below n2.below) (P1.below b2)) ?_
        rintro r y3 ⟨hp, k3⟩
        have s3 := k3.size
        have b3 := b2.trans (k3.mono (by omega))
        obtain ⟨pb, rfl, _, _⟩ := hp.ptr
        refine ⟨keepC _ b3, ?_⟩
        push_cast -dsimp
        refine callK_of (catO_c [y, .edge] _ _ y3 ((rowP n2).below k3) (P2.below b3)) ?_
        rintro r y4 ⟨hq, k4⟩
        have s4 := k4.size
        have b4 := b3.trans (k4.mono (by omega))
        obtain ⟨qb, rfl, _, _⟩ := hq.ptr
        refine ⟨keepC _ b4, ?_⟩
        push_cast -dsimp
        exact ⟨pb, qb, rfl, rfl, hp.below k4, hq, b4⟩
    · refine rowK elI_37 rfl rfl (by omega) ?_
      intro y1 n1
      have s1 := n1.size
      have b1 : Below w.heap.size w y1 := hd.trans (n1.below.mono (by omega))
      refine ⟨keepC _ b1, ?_⟩
      push_cast -dsimp
      refine rowK elI_37 rfl rfl (by omega) ?_
      intro y2 n2
      have s2 := n2.size
      have b2 := b1.trans (n2.below.mono (by omega))
      refine ⟨keepC _ b2, ?_⟩
      push_cast -dsimp
      refine callK_of (catO_c [x, .edge] _ _ y2 (rowP n2) (P1.below b2)) ?_
      rintro r y3 ⟨hp, k3⟩
      have s3 := k3.size
      have b3 := b2.trans (k3.mono (by omega))
      obtain ⟨pb, rfl, _, _⟩ := hp.ptr
      refine ⟨keepC _ b3, ?_⟩
      push_cast -dsimp
      refine callK_of (catO_c [y, .edge] _ _ y3 (((rowP n1).below n2.below).below k3) (P2.below b3)) ?_
      rintro r y4 ⟨hq, k4⟩
      have s4 := k4.size
      have b4 := b3.trans (k4.mono (by omega))
      obtain ⟨qb, rfl, _, _⟩ := hq.ptr
      refine ⟨keepC _ b4, ?_⟩
      push_cast -dsimp
      exact ⟨pb, qb, rfl, rfl, hp.below k4, hq, b4⟩
  · rintro z w1 ⟨p1, q1, h11, h12, hp, hq, hb1⟩
    have z1 := hb1.size
    have hS := h.below hb1
    have e3 := hS.b
    push_cast -dsimp [h11, h12, e3]
    have P1 := pats_two hS.pe (hVx.below hb1)
    have P2 := pats_two hS.pe (hVy.below hb1)
    have hVx1 := hVx.below hb1
    have hVy1 := hVy.below hb1
    cases back with
    | false =>
      push_cast -dsimp
      have hX := hVx1
      have hY := hVy1
      -- w1: world (hS, hp, hq, hX, hY there); [x, .edge] [y, .edge]: the lists; hb1: Below w w1; false: back; hsame.left .edge: Same of the two
      have hbE := hb1
      have keepD : ∀ y, Below w1.heap.size w1 y → SameV y cb eb bb mb ub pb mm ue false lv us nm i := fun y hy => hS.below hy
      have zd : w1.drew.heap.size = w1.heap.size := rfl
      have hd := below_drew w1
      have hSd := keepD _ hd
      have hsm : Same (hasN nm) (ptsU us) false (.cat [x, .edge]) (.cat [y, .edge]) := hsame.left .edge
      have hok2 : PatOk (.cat [x, .edge]) ∧ PatOk (.cat [y, .edge]) := by simp only [PatOk, PatsOk]; exact ⟨by simp [hx], by simp [hy]⟩
      have hwd2 : wd (.cat [x, .edge]) ≤ 100000 ∧ wd (.cat [y, .edge]) ≤ 100000 := by
        have h1 := wd_two ([x, .edge].headD .edge) ([x, .edge].getLastD .edge)
        have h2 := wd_two ([y, .edge].headD .edge) ([y, .edge].getLastD .edge)
        have h3 : wd .edge = 0 := rfl
        simp only [List.headD, List.getLastD, List.getLast] at h1 h2
        constructor <;> omega
      refine wpL_draw (fun y => y.cell? ⟨mb, 0, none⟩ = some (.map (some mm)) ∧ y.cell? ⟨ub, 0, none⟩ = some lv ∧ y.cell? ⟨pb, 0, none⟩ = some (.int .i64 i) ∧ y.cell? ⟨bb, 0, none⟩ = some (.bool false)) mixed (by kernel_rfl) ⟨hSd.m, hSd.u, hSd.p, hSd.b⟩ ?_
      have c1 := hSd.m
      have c2 := hSd.u
      have c3 := hSd.p
      have c4 := hSd.b
      push_cast -dsimp [c1, c2, c3, c4]
      refine ⟨fun w'' h => by rw [h.1]; exact rfl, fun w'' h => by rw [h.2.1]; exact rfl, fun w'' h => by rw [h.2.2.1]; exact rfl, fun w'' h => by rw [h.2.2.2]; exact rfl, ?_⟩
      refine callK_of (stands_c x hx (by omega) nm hr us hlen i hi false (fun _ => False) _ lv mm w1.drew (hX.below hd) hSd.nv hSd.us) ?_
      rintro _ y1 ⟨⟨b1, rfl, hb1'⟩, k1⟩
      have s1 : w1.heap.size ≤ y1.heap.size := k1.size
      have g1 : Below w1.heap.size w1 y1 := hd.trans (k1.mono (Nat.le_refl _))
      have S1 := keepD _ g1
      refine ⟨⟨S1.m, S1.u, S1.p, S1.b⟩, ?_⟩
      have c1 := S1.m
      have c2 := S1.u
      have c3 := S1.p
      have c4 := S1.b
      push_cast -dsimp [c1, c2, c3, c4]
      refine ⟨fun w'' h => by rw [h.1]; exact rfl, fun w'' h => by rw [h.2.1]; exact rfl, fun w'' h => by rw [h.2.2.1]; exact rfl, fun w'' h => by rw [h.2.2.2]; exact rfl, ?_⟩
      refine callK_of (stands_c y hy (by omega) nm hr us hlen i hi false (fun _ => False) _ lv mm y1 (hY.below g1) S1.nv S1.us) ?_
      rintro _ y2 ⟨⟨b2, rfl, hb2'⟩, k2⟩
      have g2 : Below w1.heap.size w1 y2 := g1.trans (k2.mono s1)
      have s2 := g2.size
      have S2 := keepD _ g2
      obtain rfl : b2 = b1 := by rw [Bool.eq_iff_iff]; exact hb2'.trans ((hsame.stands i).symm.trans hb1'.symm)
      refine ⟨⟨S2.m, S2.u, S2.p, S2.b⟩, ?_⟩
      have c1 := S2.m
      have c2 := S2.u
      have c3 := S2.p
      have c4 := S2.b
      have hee : (b2 == b2) = true := by simp
      push_cast -dsimp [c1, c2, c3, c4, hee]
      refine ⟨fun w'' h => by rw [h.1]; exact rfl, fun w'' h => by rw [h.2.1]; exact rfl, fun w'' h => by rw [h.2.2.1]; exact rfl, fun w'' h => by rw [h.2.2.2]; exact rfl, ?_⟩
      refine callK_of (stands_c (.cat [x, .edge]) hok2.1 hwd2.1 nm hr us hlen i hi false (fun _ => False) _ lv mm y2 (hp.below g2) S2.nv S2.us) ?_
      rintro _ y3 ⟨⟨b3, rfl, hb3'⟩, k3⟩
      have g3 : Below w1.heap.size w1 y3 := g2.trans (k3.mono s2)
      have s3 := g3.size
      have S3 := keepD _ g3
      refine ⟨⟨S3.m, S3.u, S3.p, S3.b⟩, ?_⟩
      have c1 := S3.m
      have c2 := S3.u
      have c3 := S3.p
      have c4 := S3.b
      push_cast -dsimp [c1, c2, c3, c4]
      refine ⟨fun w'' h => by rw [h.1]; exact rfl, fun w'' h => by rw [h.2.1]; exact rfl, fun w'' h => by rw [h.2.2.1]; exact rfl, fun w'' h => by rw [h.2.2.2]; exact rfl, ?_⟩
      refine callK_of (stands_c (.cat [y, .edge]) hok2.2 hwd2.2 nm hr us hlen i hi false (fun _ => False) _ lv mm y3 (hq.below g3) S3.nv S3.us) ?_
      rintro _ y4 ⟨⟨b4, rfl, hb4'⟩, k4⟩
      have g4 : Below w1.heap.size w1 y4 := g3.trans (k4.mono s3)
      have s4 := g4.size
      have S4 := keepD _ g4
      obtain rfl : b4 = b3 := by rw [Bool.eq_iff_iff]; exact hb4'.trans ((hsm.stands i).symm.trans hb3'.symm)
      refine ⟨⟨S4.m, S4.u, S4.p, S4.b⟩, ?_⟩
      have hef : (b4 == b4) = true := by simp
      push_cast -dsimp [hef]
      exact hbE.trans (g4.mono (by have := hbE.size; omega))
    | true =>
      push_cast -dsimp
      -- ue u: the first row; ue v: the second; [.edge, x] [.edge, y]: the patterns' parts; w1: world; 24, 25, 26, 27, 28, 29, 30, 31, 32, 33, 11, 12: slots (P1, P2, hS at w1)
      refine wpL_cut [24, 25, 26, 27, 28, 29, 30, 31, 32, 33, 11, 12] (fun z w' => ∃ pb qb : Nat, z 11 = .pointer (some ⟨pb, 0, none⟩) ∧ z 12 = .pointer (some ⟨qb, 0, none⟩) ∧ PatV (fun _ => False) w' (.pointer (some ⟨pb, 0, none⟩)) (.cat [.edge, x]) ∧ PatV (fun _ => False) w' (.pointer (some ⟨qb, 0, none⟩)) (.cat [.edge, y]) ∧ Below w1.heap.size w1 w') ?_ ?_
      · have keepC : ∀ y, Below w1.heap.size w1 y → y.cell? ⟨cb, 0, none⟩ = some catOV ∧ y.cell? ⟨eb, 0, none⟩ = some (.pointer (some ⟨ue, 0, none⟩)) := fun y hy => ⟨(hy.cell (World.block_lt_of_cell? w1 _ hS.c)).trans hS.c, (hy.cell (World.block_lt_of_cell? w1 _ hS.e)).trans hS.e⟩
        have hd := below_drew w1
        have zd : w1.drew.heap.size = w1.heap.size := rfl
        have c1 := (keepC _ hd).1
        have c2 := (keepC _ hd).2
        refine wpL_tree (.one 0 (.one 1 (.one 2 (.one 5 (.one 6 (.one 7 (.two 3 (.two 4 (.one 8 (.one 9 (.one 10 (.one 11 .done)))) 8 (.one 4 (.one 9 (.one 10 (.one 11 .done))))) 8 (.one 3 (.one 4 (.one 9 (.one 10 (.one 11 .done)))))))))))) (fun y => y.cell? ⟨cb, 0, none⟩ = some catOV ∧ y.cell? ⟨eb, 0, none⟩ = some (.pointer (some ⟨ue, 0, none⟩))) mixed (by kernel_rfl) (keepC _ hd) ?_
        unfold catOV at c1
        push_cast -dsimp [c1, c2]
        refine ⟨fun w'' h => by rw [h.1]; exact rfl, fun w'' h => by rw [h.2]; exact rfl, fun w'' h => by rw [h.1]; exact rfl, fun w'' h => by rw [h.2]; exact rfl, ?_, ?_⟩
        · refine rowK elI_37 rfl rfl (by omega) ?_
          intro y1 n1
          have s1 := n1.size
          have b1 : Below w1.heap.size w1 y1 := hd.trans (n1.below.mono (by omega))
          have r1 := rowP n1
          refine ⟨keepC _ b1, ?_⟩
          push_cast -dsimp
          constructor
          · refine callK_of (catO_c [.edge, x] _ _ y1 r1 (P1.below b1)) ?_
            rintro r y2 ⟨hp, k2⟩
            have s2 := k2.size
            have b2 := b1.trans (k2.mono (by omega))
            obtain ⟨pb, rfl, _, _⟩ := hp.ptr
            refine ⟨keepC _ b2, ?_⟩
            push_cast -dsimp
            refine rowK elI_37 rfl rfl (by omega) ?_
            intro y3 n3
            have s3 := n3.size
            have b3 := b2.trans (n3.below.mono (by omega))
            refine ⟨keepC _ b3, ?_⟩
            push_cast -dsimp
            refine callK_of (catO_c [.edge, y] _ _ y3 (rowP n3) (P2.below b3)) ?_
            rintro r y4 ⟨hq, k4⟩
            have s4 := k4.size
            have b4 := b3.trans (k4.mono (by omega))
            obtain ⟨qb, rfl, _, _⟩ := hq.ptr
            refine ⟨keepC _ b4, ?_⟩
            push_cast -dsimp
            exact ⟨pb, qb, rfl, rfl, (hp.below n3.below).below k4, hq, b4⟩
          · refine rowK elI_37 rfl rfl (by omega) ?_
            intro y2 n2
            have s2 := n2.size
            have b2 := b1.trans (n2.below.mono (by omega))
            refine ⟨keepC _ b2, ?_⟩
            push_cast -dsimp
            refine callK_of (catO_c [.edge, x] _ _ y2 (r1.below n2.below) (P1.below b2)) ?_
            rintro r y3 ⟨hp, k3⟩
            have s3 := k3.size
            have b3 := b2.trans (k3.mono (by omega))
            obtain ⟨pb, rfl, _, _⟩ := hp.ptr
            refine ⟨keepC _ b3, ?_⟩
            push_cast -dsimp
            refine callK_of (catO_c [.edge, y] _ _ y3 ((rowP n2).below k3) (P2.below b3)) ?_
            rintro r y4 ⟨hq, k4⟩
            have s4 := k4.size
            have b4 := b3.trans (k4.mono (by omega))
            obtain ⟨qb, rfl, _, _⟩ := hq.ptr
            refine ⟨keepC _ b4, ?_⟩
            push_cast -dsimp
            exact ⟨pb, qb, rfl, rfl, hp.below k4, hq, b4⟩
        · refine rowK elI_37 rfl rfl (by omega) ?_
          intro y1 n1
          have s1 := n1.size
          have b1 : Below w1.heap.size w1 y1 := hd.trans (n1.below.mono (by omega))
          refine ⟨keepC _ b1, ?_⟩
          push_cast -dsimp
          refine rowK elI_37 rfl rfl (by omega) ?_
          intro y2 n2
          have s2 := n2.size
          have b2 := b1.trans (n2.below.mono (by omega))
          refine ⟨keepC _ b2, ?_⟩
          push_cast -dsimp
          refine callK_of (catO_c [.edge, x] _ _ y2 (rowP n2) (P1.below b2)) ?_
          rintro r y3 ⟨hp, k3⟩
          have s3 := k3.size
          have b3 := b2.trans (k3.mono (by omega))
          obtain ⟨pb, rfl, _, _⟩ := hp.ptr
          refine ⟨keepC _ b3, ?_⟩
          push_cast -dsimp
          refine callK_of (catO_c [.edge, y] _ _ y3 (((rowP n1).below n2.below).below k3) (P2.below b3)) ?_
          rintro r y4 ⟨hq, k4⟩
          have s4 := k4.size
          have b4 := b3.trans (k4.mono (by omega))
          obtain ⟨qb, rfl, _, _⟩ := hq.ptr
          refine ⟨keepC _ b4, ?_⟩
          push_cast -dsimp
          exact ⟨pb, qb, rfl, rfl, hp.below k4, hq, b4⟩
      · rintro z w2 ⟨p2, q2, h11, h12, hp, hq, hb2⟩
        have z2 := hb2.size
        have hS := hS.below hb2
        have hVx2 := hVx1.below hb2
        have hVy2 := hVy1.below hb2
        push_cast -dsimp [h11, h12]
        have hX := hVx2
        have hY := hVy2
        -- w2: world (hS, hp, hq, hX, hY there); [.edge, x] [.edge, y]: the lists; (hb1.trans (hb2.mono (by omega))): Below w w2; true: back; hsame.right .edge: Same of the two
        have hbE := (hb1.trans (hb2.mono (by omega)))
        have keepD : ∀ y, Below w2.heap.size w2 y → SameV y cb eb bb mb ub pb mm ue true lv us nm i := fun y hy => hS.below hy
        have zd : w2.drew.heap.size = w2.heap.size := rfl
        have hd := below_drew w2
        have hSd := keepD _ hd
        have hsm : Same (hasN nm) (ptsU us) true (.cat [.edge, x]) (.cat [.edge, y]) := hsame.right .edge
        have hok2 : PatOk (.cat [.edge, x]) ∧ PatOk (.cat [.edge, y]) := by simp only [PatOk, PatsOk]; exact ⟨by simp [hx], by simp [hy]⟩
        have hwd2 : wd (.cat [.edge, x]) ≤ 100000 ∧ wd (.cat [.edge, y]) ≤ 100000 := by
          have h1 := wd_two ([.edge, x].headD .edge) ([.edge, x].getLastD .edge)
          have h2 := wd_two ([.edge, y].headD .edge) ([.edge, y].getLastD .edge)
          have h3 : wd .edge = 0 := rfl
          simp only [List.headD, List.getLastD, List.getLast] at h1 h2
          constructor <;> omega
        refine wpL_draw (fun y => y.cell? ⟨mb, 0, none⟩ = some (.map (some mm)) ∧ y.cell? ⟨ub, 0, none⟩ = some lv ∧ y.cell? ⟨pb, 0, none⟩ = some (.int .i64 i) ∧ y.cell? ⟨bb, 0, none⟩ = some (.bool true)) mixed (by kernel_rfl) ⟨hSd.m, hSd.u, hSd.p, hSd.b⟩ ?_
        have c1 := hSd.m
        have c2 := hSd.u
        have c3 := hSd.p
        have c4 := hSd.b
        push_cast -dsimp [c1, c2, c3, c4]
        refine ⟨fun w'' h => by rw [h.1]; exact rfl, fun w'' h => by rw [h.2.1]; exact rfl, fun w'' h => by rw [h.2.2.1]; exact rfl, fun w'' h => by rw [h.2.2.2]; exact rfl, ?_⟩
        refine callK_of (stands_c x hx (by omega) nm hr us hlen i hi true (fun _ => False) _ lv mm w2.drew (hX.below hd) hSd.nv hSd.us) ?_
        rintro _ y1 ⟨⟨b1, rfl, hb1'⟩, k1⟩
        have s1 : w2.heap.size ≤ y1.heap.size := k1.size
        have g1 : Below w2.heap.size w2 y1 := hd.trans (k1.mono (Nat.le_refl _))
        have S1 := keepD _ g1
        refine ⟨⟨S1.m, S1.u, S1.p, S1.b⟩, ?_⟩
        have c1 := S1.m
        have c2 := S1.u
        have c3 := S1.p
        have c4 := S1.b
        push_cast -dsimp [c1, c2, c3, c4]
        refine ⟨fun w'' h => by rw [h.1]; exact rfl, fun w'' h => by rw [h.2.1]; exact rfl, fun w'' h => by rw [h.2.2.1]; exact rfl, fun w'' h => by rw [h.2.2.2]; exact rfl, ?_⟩
        refine callK_of (stands_c y hy (by omega) nm hr us hlen i hi true (fun _ => False) _ lv mm y1 (hY.below g1) S1.nv S1.us) ?_
        rintro _ y2 ⟨⟨b2, rfl, hb2'⟩, k2⟩
        have g2 : Below w2.heap.size w2 y2 := g1.trans (k2.mono s1)
        have s2 := g2.size
        have S2 := keepD _ g2
        obtain rfl : b2 = b1 := by rw [Bool.eq_iff_iff]; exact hb2'.trans ((hsame.stands i).symm.trans hb1'.symm)
        refine ⟨⟨S2.m, S2.u, S2.p, S2.b⟩, ?_⟩
        have c1 := S2.m
        have c2 := S2.u
        have c3 := S2.p
        have c4 := S2.b
        have hee : (b2 == b2) = true := by simp
        push_cast -dsimp [c1, c2, c3, c4, hee]
        refine ⟨fun w'' h => by rw [h.1]; exact rfl, fun w'' h => by rw [h.2.1]; exact rfl, fun w'' h => by rw [h.2.2.1]; exact rfl, fun w'' h => by rw [h.2.2.2]; exact rfl, ?_⟩
        refine callK_of (stands_c (.cat [.edge, x]) hok2.1 hwd2.1 nm hr us hlen i hi true (fun _ => False) _ lv mm y2 (hp.below g2) S2.nv S2.us) ?_
        rintro _ y3 ⟨⟨b3, rfl, hb3'⟩, k3⟩
        have g3 : Below w2.heap.size w2 y3 := g2.trans (k3.mono s2)
        have s3 := g3.size
        have S3 := keepD _ g3
        refine ⟨⟨S3.m, S3.u, S3.p, S3.b⟩, ?_⟩
        have c1 := S3.m
        have c2 := S3.u
        have c3 := S3.p
        have c4 := S3.b
        push_cast -dsimp [c1, c2, c3, c4]
        refine ⟨fun w'' h => by rw [h.1]; exact rfl, fun w'' h => by rw [h.2.1]; exact rfl, fun w'' h => by rw [h.2.2.1]; exact rfl, fun w'' h => by rw [h.2.2.2]; exact rfl, ?_⟩
        refine callK_of (stands_c (.cat [.edge, y]) hok2.2 hwd2.2 nm hr us hlen i hi true (fun _ => False) _ lv mm y3 (hq.below g3) S3.nv S3.us) ?_
        rintro _ y4 ⟨⟨b4, rfl, hb4'⟩, k4⟩
        have g4 : Below w2.heap.size w2 y4 := g3.trans (k4.mono s3)
        have s4 := g4.size
        have S4 := keepD _ g4
        obtain rfl : b4 = b3 := by rw [Bool.eq_iff_iff]; exact hb4'.trans ((hsm.stands i).symm.trans hb3'.symm)
        refine ⟨⟨S4.m, S4.u, S4.p, S4.b⟩, ?_⟩
        have hef : (b4 == b4) = true := by simp
        push_cast -dsimp [hef]
        exact hbE.trans (g4.mono (by have := hbE.size; omega))
end Go.Proofs.YtledlfbbebodgaaGreatDoor
end
section
namespace Cae
open Go.Proofs.YtledlfbbebodgaaGreatDoor
def factC:List UInt8:=[99,108,97,115,115,32,97,32,61,32,91,54,49,93,59,32,99,108,97,115,115,32,98,32,61,32,97,32,124,32,91,54,50,93,59,32,107,101,101,112,32,98,58,59]
def factD:List UInt8:=[107,101,101,112,32,98,58,59]
def factE:List UInt8:=[99,108,97,115,115,32,97,32,61,32,91,54,49,45,55,97,93,59,32,107,101,101,112,32,97,58,32,97,59,32,98,114,101,97,107,58,59]
def factT:List UInt8:=[97,98,32,99,100]
def fileC:FileP:=⟨[⟨[97],0,(.lit 10 [(97,97)])⟩,⟨[98],16,(.bin 3 26 (.ref 26 [97]) (.lit 30 [(98,98)]))⟩],[⟨36,false,(.one (.ref 41 [98])),(.cat [])⟩],true⟩
def fileD:FileP:=⟨[],[⟨0,false,(.one (.ref 5 [98])),(.cat [])⟩],true⟩
def fileE:FileP:=⟨[⟨[97],0,(.lit 10 [(97,122)])⟩],[⟨19,false,(.one (.ref 24 [97])),(.one (.ref 27 [97]))⟩,⟨30,true,(.cat []),(.cat [])⟩],true⟩
theorem parse_C:parseR factC=.ok fileC:=by kernel_rfl
theorem parse_D:parseR factD=.ok fileD:=by kernel_rfl
theorem parse_E:parseR factE=.ok fileE:=by kernel_rfl
theorem chk_D:chkS fileD=some (7,5):=by kernel_rfl
theorem chk_E:chkS fileE=none:=by kernel_rfl
def namesC:NamesP:=[([97],[(97,97)]),([98],[(97,98)])]
def namesE:NamesP:=[([97],[(97,122)])]
theorem or_C:setOr [(97,97)] [(98,98)]=[(97,98)]:=by
 unfold setOr setOf;rw[List.mergeSort_of_pairwise (by decide)];kernel_rfl
theorem names_C:namesS [] fileC.classes=.ok namesC:=by
 show namesS [] (⟨[97],0,(.lit 10 [(97,97)])⟩ :: ⟨[98],16,(.bin 3 26 (.ref 26 [97]) (.lit 30 [(98,98)]))⟩ :: [])=_
 have e1:kindS [] (.lit 10 [(97,97)])=.ok [(97,97)]:=by kernel_rfl
 have e2:kindS [([97],[(97,97)])] (.bin 3 26 (.ref 26 [97]) (.lit 30 [(98,98)]))=.ok [(97,98)]:=by
  have e3:kindS [([97],[(97,97)])] (.ref 26 [97])=.ok [(97,97)]:=by kernel_rfl
  have e4:kindS [([97],[(97,97)])] (.lit 30 [(98,98)])=.ok [(98,98)]:=by kernel_rfl
  rw[kindS,e3,e4];dsimp only;rw[if_pos rfl,or_C]
 rw[names_step,if_neg (by decide),e1];dsimp only;rw[List.nil_append,names_step,if_neg (by decide),e2];dsimp only;rw[namesS];rfl
theorem chk_C:chkS fileC=none:=by
 unfold chkS;rw[names_C];kernel_rfl
theorem names_E:namesS [] fileE.classes=.ok namesE:=by kernel_rfl
theorem print_C:printP [(97,98)]=[91,54,49,45,54,50,93]:=by kernel_rfl
def ptsT:List Int:=[97,98,32,99,100]
theorem units_T:ptsU (udec 0 factT)=ptsT:=by kernel_rfl
theorem stands_one {has:KindP→Int→Prop} {pts:List Int} {k:KindP} {i:Nat} {back:Bool}:standsM has pts (.one k) i back↔∃j p,stepM pts back i=some (j,p)∧has k p:=by
 unfold standsM;simp only[Rch]
def stB (i:Nat) (back:Bool):Bool:=match stepM ptsT back i with
 | some (_,p)=>hasP [(97,122)] p
 | none=>false
theorem has_E {p:Nat} {q:Int}:hasN namesE (.ref p [97]) q↔hasP [(97,122)] q=true:=by
 unfold hasN;have e:kindS namesE (.ref p [97])=.ok [(97,122)]:=by kernel_rfl
 rw[e];constructor
 ·rintro⟨s,h,hh⟩;cases h;exact hh
 ·intro h;exact⟨_,rfl,h⟩
theorem st_E {p:Nat} {i:Nat} {back:Bool}:standsM (hasN namesE) ptsT (.one (.ref p [97])) i back↔stB i back=true:=by
 rw[stands_one];unfold stB;cases h:stepM ptsT back i with
 | none =>
  constructor
  ·rintro⟨j,q,h1,_⟩;cases h1
  ·intro h;cases h
 | some jp =>
  obtain⟨j,q⟩:=jp;constructor
  ·rintro⟨j',q',h1,h2⟩;cases h1;exact has_E.1 h2
  ·intro h;exact⟨j,q,rfl,has_E.2 h⟩
theorem is_E (i:Nat):isM (hasN namesE) ptsT fileE.rules true i=(!(stB i true && stB i false) || decide (i=0) || decide (i=5)):=by
 have hm:metM (hasN namesE) ptsT ⟨19,false,(.one (.ref 24 [97])),(.one (.ref 27 [97]))⟩ i↔(stB i true && stB i false)=true:=by
  unfold metM;rw[st_E,st_E,Bool.and_eq_true]
 have h2:metM (hasN namesE) ptsT ⟨30,true,(.cat []),(.cat [])⟩ i:=always_met true i;unfold isM
 show (saysM _ _ true i (⟨19,false,(.one (.ref 24 [97])),(.one (.ref 27 [97]))⟩ :: ⟨30,true,(.cat []),(.cat [])⟩ :: []) || decide (i=0) || decide (i=5))=_
 rw[saysM,saysM,if_pos h2];cases hb:(stB i true && stB i false) with
 | true=>rw[if_pos (hm.2 hb)];rfl
 | false=>rw[if_neg (fun h=>by have:=hm.1 h;rw[hb]at this;cases this)];rfl
theorem breaks_E:breaksM (hasN namesE) ptsT fileE.rules fileE.els=[0,2,3,5]:=by
 have e:isM (hasN namesE) ptsT fileE.rules true=fun i=>(!(stB i true && stB i false) || decide (i=0) || decide (i=5)):=funext is_E;unfold breaksM;rw[if_neg (by decide)]
 show (List.range 6).filter (isM (hasN namesE) ptsT fileE.rules true)=_
 rw[e];decide +kernel
end Cae
end
section
namespace Go.Proofs.YtledlfbbebodgaaGreatDoor
open Go.Vc Go.Proofs Go.RowKit Cae
attribute [local irreducible] wpL callK valK unitK runK Fun Sl Vc.Own vc vcOps opK pureK
theorem ErrVar.below {w w':World} (h:ErrVar w) (hb:Below w.heap.size w w'):ErrVar w':=(hb.cell (World.block_lt_of_cell? w _ h)).trans h
theorem checked_c (w : World) (hd : Db w) (he : SErrs w) (hv : ErrVar w) (hg : 11 ≤ w.heap.size) : Fun Tryz.prog 38 [] w fun r w' => r = .bool true ∧ Below w.heap.size w w' := by
  refine fun_of_vc Tryz.func38 rfl (by kernel_rfl) [0] rfl ?_
  simp -dsimp (maxSteps := 4000000) only [push_cast, fr0, Tryz.ntmps38, List.length_cons, List.length_nil, Nat.reduceAdd, Nat.reduceSub, Nat.reduceBEq, List.replicate_succ, List.replicate_zero]
  -- factC: bytes; parse_C: parse lemma; w: world of the call ((Below.refl w.heap.size w): Below from w); names: w$5 the world behind
  refine callK_of (ruleParse_c factC (by decide) (w) (hd.below ((Below.refl w.heap.size w)) hd.lt) (he.below ((Below.refl w.heap.size w))) (by have := ((Below.refl w.heap.size w)).size; omega)) ?_
  rintro _ w1 ⟨hP, hb1⟩
  rcases hP with ⟨f', v, e1, rfl, hV⟩ | ⟨e, pos, b, e1, _⟩
  rotate_left
  · rw [parse_C] at e1; cases e1
  rw [parse_C] at e1
  cases e1
  have hV0 := hV
  obtain ⟨cv, rv, cs, rs, rfl, S1, S2, A1, A2⟩ := hV
  obtain ⟨ca, cc, rfl, hcc⟩ := S1.shape
  obtain ⟨ra, rc, rfl, hrc⟩ := S2.shape
  have z1 := hb1.size
  simp -dsimp only [push_cast, Nat.reduceAdd, Nat.reduceLeDiff, Nat.reduceBEq, Int.reduceNe, Int.reduceEq, Int.reduceLT, Int.reduceLE]
  refine allocK (z := [.slice none 0 0, .slice none 0 0, .bool false]) (by kernel_rfl) ?_
  intro w2 hw2
  have z2 := hw2.size
  simp -dsimp only [push_cast, Nat.reduceAdd, Nat.reduceLeDiff, Nat.reduceBEq, Int.reduceNe, Int.reduceEq, Int.reduceLT, Int.reduceLE]
  refine storeAgg (n := 3) (by kernel_rfl) hw2.blk rfl (by simp) (by intro v hv; simp only [List.mem_cons, List.not_mem_nil, or_false] at hv; rcases hv with rfl | rfl | rfl <;> rfl) ?_
  intro w3 hw3
  have z3 := hw3.size
  have B3 : Blk w3 w1.heap.size 26 [.slice ca cs.length cc, .slice ra rs.length rc, .bool fileC.els] := hw3.blk
  have hb13 : Below w1.heap.size w1 w3 := hw2.below.trans (hw3.kept.below (by omega) (fun i h => by omega))
  have hbw3 := hb1.trans (hb13.mono z1)
  have d3 : cellsAt w3 ⟨w1.heap.size, 0, none⟩ 0 3 = some [.slice ca cs.length cc, .slice ra rs.length rc, .bool fileC.els] := B3.cellsAt
  have hpo := parse_ok (s := factC) (by decide) parse_C
  have hpp := parse_pn parse_C (by decide)
  have hV3 := hV0.below hb13
  simp -dsimp only [push_cast, Nat.reduceAdd, Nat.reduceLeDiff, Nat.reduceBEq, Int.reduceNe, Int.reduceEq, Int.reduceLT, Int.reduceLE, d3]
  refine callK_of (check_c fileC hpo.1 hpp (by omega) (by omega) _ _ w3 hV3) ?_
  rintro _ w4 ⟨hE, hb4⟩
  rw [chk_C] at hE
  obtain rfl : _ = Value.nilIface := hE
  have z4 := hb4.size
  have B4 := B3.below hb4 B3.lt
  have d4 : cellsAt w4 ⟨w1.heap.size, 0, none⟩ 0 3 = some [.slice ca cs.length cc, .slice ra rs.length rc, .bool fileC.els] := B4.cellsAt
  simp -dsimp only [push_cast, Nat.reduceAdd, Nat.reduceLeDiff, Nat.reduceBEq, Int.reduceNe, Int.reduceEq, Int.reduceLT, Int.reduceLE, d4]
  refine callK_of (names_c fileC hpo.1.1 (by omega) _ _ w4 (hV3.below hb4)) ?_
  rintro _ w5 ⟨hN, hb5⟩
  have z5 := hb5.size
  unfold NamesRes at hN
  rw [names_C] at hN
  obtain ⟨mb, hmb, rfl, ⟨kvs, hM, hA⟩, hRN⟩ := hN
  have hbw5 := (hbw3.trans (hb4.mono (by omega))).trans (hb5.mono (by omega))
  simp -dsimp only [push_cast, Nat.reduceAdd, Nat.reduceLeDiff, Nat.reduceBEq, Int.reduceNe, Int.reduceEq, Int.reduceLT, Int.reduceLE]
  have hf := NamV.find (n := [98]) hA
  rcases hf with ⟨f1, f2⟩ | ⟨s, u, f1, f2, hs, ha⟩
  · cases f1
  have hs97 : s = [(97, 98)] := by cases f1; rfl
  subst hs97
  refine lookupG (kt := 9) (et := 41) (z := .slice none 0 0) (c := false) (k := [98]) (by kernel_rfl) (keyStr (by kernel_rfl)) (by kernel_rfl) hM ?_
  rw [if_neg (by decide), f2]
  obtain ⟨sa, sc, rfl, _⟩ := hs.shape
  have hdb5 := hd.below hbw5 hd.lt
  simp -dsimp only [push_cast, Nat.reduceAdd, Nat.reduceLeDiff, Nat.reduceBEq, Int.reduceNe, Int.reduceEq, Int.reduceLT, Int.reduceLE, Option.getD_some]
  refine callK_of (print_c [(97, 98)] (by decide) (by intro r hr; simp at hr; subst hr; decide) _ _ w5 hs hdb5) ?_
  rintro _ w6 ⟨rfl, hb6⟩
  have z6 := hb6.size
  have hbw6 := hbw5.trans (hb6.mono (by omega))
  rw [print_C]
  have B6 := (B4.below hb5 B4.lt).below hb6 (by have := B4.lt; omega)
  have hd6 := hd.below hbw6 hd.lt
  have he6 := he.below hbw6
  have hv6 := hv.below hbw6
  simp -dsimp only [push_cast, Nat.reduceAdd, Nat.reduceLeDiff, Nat.reduceBEq, Int.reduceNe, Int.reduceEq, Int.reduceLT, Int.reduceLE]
  refine callK_of (ruleParse_c factD (by decide) w6 hd6 he6 (by omega)) ?_
  rintro _ w7 ⟨hP, hb7⟩
  have z7 := hb7.size
  rcases hP with ⟨f', v, e1, rfl, hV⟩ | ⟨e, pos, b, e1, _⟩
  rotate_left
  · rw [parse_D] at e1; cases e1
  rw [parse_D] at e1
  cases e1
  have hW0 := hV
  obtain ⟨cv', rv', cs', rs', rfl, S1', S2', A1', A2'⟩ := hV
  obtain ⟨ca', cc', rfl, hcc'⟩ := S1'.shape
  obtain ⟨ra', rc', rfl, hrc'⟩ := S2'.shape
  have B7 := B6.below hb7 B6.lt
  have hbw7 := hbw6.trans (hb7.mono (by omega))
  simp -dsimp only [push_cast, Nat.reduceAdd, Nat.reduceLeDiff, Nat.reduceBEq, Int.reduceNe, Int.reduceEq, Int.reduceLT, Int.reduceLE]
  refine storeAgg (n := 3) (by kernel_rfl) B7 rfl (by simp) (by intro v hv; simp only [List.mem_cons, List.not_mem_nil, or_false] at hv; rcases hv with rfl | rfl | rfl <;> rfl) ?_
  intro w8 hw8
  have z8 := hw8.size
  have B8 : Blk w8 w1.heap.size 26 [.slice ca' cs'.length cc', .slice ra' rs'.length rc', .bool fileD.els] := hw8.blk
  have d8 : cellsAt w8 ⟨w1.heap.size, 0, none⟩ 0 3 = some [.slice ca' cs'.length cc', .slice ra' rs'.length rc', .bool fileD.els] := B8.cellsAt
  have hpo' := parse_ok (s := factD) (by decide) parse_D
  have hpp' := parse_pn parse_D (by decide)
  have hbw8 : Below w.heap.size w w8 := hbw7.trans (hw8.kept.below (by omega) (fun i h => by omega))
  have hV8 : FileV (· = w1.heap.size) w8 (.agg #[.slice ca' cs'.length cc', .slice ra' rs'.length rc', .bool fileD.els]) fileD := hW0.mono hw8.kept (fun i h => by omega) (fun i h => by omega)
  simp -dsimp only [push_cast, Nat.reduceAdd, Nat.reduceLeDiff, Nat.reduceBEq, Int.reduceNe, Int.reduceEq, Int.reduceLT, Int.reduceLE, d8]
  refine callK_of (check_c fileD hpo'.1 hpp' (by omega) (by omega) _ _ w8 hV8) ?_
  rintro _ w9 ⟨hE, hb9⟩
  rw [chk_D] at hE
  obtain ⟨eb, heb, rfl, hEB⟩ := hE
  have hbw9 := hbw8.trans (hb9.mono (by omega))
  have c9 : w9.cell? ⟨eb, 0, none⟩ = some (.int .i64 7) := hEB.cell rfl
  simp -dsimp only [push_cast, Nat.reduceAdd, Nat.reduceLeDiff, Nat.reduceBEq, Int.reduceNe, Int.reduceEq, Int.reduceLT, Int.reduceLE]
  refine callK_of (tell_c _ 7 w9 (hv.below hbw9) (.at_ eb 7 c9)) ?_
  rintro _ wa ⟨rfl, hba⟩
  simp -dsimp only [push_cast, Nat.reduceAdd, Nat.reduceLeDiff, Nat.reduceBEq, Int.reduceNe, Int.reduceEq, Int.reduceLT, Int.reduceLE]
  exact hbw9.trans (hba.mono hbw9.size)
theorem meant_c (w:World) (hd:Db w) (he:SErrs w) (hv:ErrVar w) (hl:Least w) (hg:11≤w.heap.size):Fun Tryz.prog 8 [] w fun r w'=>r=.bool true∧Below w.heap.size w w':=by
 refine fun_of_vc Tryz.func8 rfl (by kernel_rfl) [0] rfl ?_;simp -dsimp (maxSteps:=4000000) only[push_cast,fr0,Tryz.ntmps8,List.length_cons,List.length_nil,Nat.reduceAdd,Nat.reduceSub,Nat.reduceBEq,List.replicate_succ,List.replicate_zero];refine callK_of (ruleParse_c factE (by decide) w hd he (by omega)) ?_;rintro _ w1 ⟨hP,hb1⟩;have z1:=hb1.size;rcases hP with ⟨f',v,e1,rfl,hV⟩|⟨e,pos,b,e1,_⟩
 rotate_left
 ·rw[parse_E]at e1;cases e1
 rw[parse_E]at e1;cases e1;have hV0:=hV;obtain⟨cv,rv,cs,rs,rfl,S1,S2,A1,A2⟩:=hV;obtain⟨ca,cc,rfl,hcc⟩:=S1.shape;obtain⟨ra,rc,rfl,hrc⟩:=S2.shape;simp -dsimp only[push_cast,Nat.reduceAdd,Nat.reduceLeDiff,Nat.reduceBEq,Int.reduceNe,Int.reduceEq,Int.reduceLT,Int.reduceLE];refine allocK (z:=[.slice none 0 0,.slice none 0 0,.bool false]) (by kernel_rfl) ?_;intro w2 hw2;have z2:=hw2.size
 simp -dsimp only[push_cast,Nat.reduceAdd,Nat.reduceLeDiff,Nat.reduceBEq,Int.reduceNe,Int.reduceEq,Int.reduceLT,Int.reduceLE];refine storeAgg (n:=3) (by kernel_rfl) hw2.blk rfl (by simp) (by intro v hv;simp only[List.mem_cons,List.not_mem_nil,or_false]at hv;rcases hv with rfl|rfl|rfl <;> rfl) ?_;intro w3 hw3;have z3:=hw3.size
 have B3:Blk w3 w1.heap.size 26 [.slice ca cs.length cc,.slice ra rs.length rc,.bool fileE.els]:=hw3.blk;have hb13:Below w1.heap.size w1 w3:=hw2.below.trans (hw3.kept.below (by omega) (fun i h=>by omega));have hbw3:=hb1.trans (hb13.mono z1);have hpo:=parse_ok (s:=factE) (by decide) parse_E;have hpp:=parse_pn parse_E (by decide);have hV3:=hV0.below hb13;have hd3:=hd.below hbw3 hd.lt
 simp -dsimp only[push_cast,Nat.reduceAdd,Nat.reduceLeDiff,Nat.reduceBEq,Int.reduceNe,Int.reduceEq,Int.reduceLT,Int.reduceLE];refine callK_of (checked_c w3 hd3 (he.below hbw3) (hv.below hbw3) (by omega)) ?_;rintro _ w4 ⟨rfl,hb4⟩;have z4:=hb4.size;have hbw4:=hbw3.trans (hb4.mono (by omega));have B4:=(B3.below hb4 B3.lt).drew;have hbd:=below_drew w4;have hV4:=(hV3.below hb4).below hbd
 have zd:w4.drew.heap.size=w4.heap.size:=rfl;have hcl:∀w'',Blk w'' w1.heap.size 26 [.slice ca cs.length cc,.slice ra rs.length rc,.bool fileE.els]→cellsAt w'' ⟨w1.heap.size,0,none⟩ 0 3=some [.slice ca cs.length cc,.slice ra rs.length rc,.bool fileE.els]:=fun w'' h=>h.cellsAt;have d4:=hcl _ B4
 simp -dsimp only[push_cast,Nat.reduceAdd,Nat.reduceLeDiff,Nat.reduceBEq,Int.reduceNe,Int.reduceEq,Int.reduceLT,Int.reduceLE];refine wpL_drawN (fun w'=>Blk w' w1.heap.size 26 [.slice ca cs.length cc,.slice ra rs.length rc,.bool fileE.els]) mixed (by kernel_rfl) B4 ?_;simp -dsimp only[push_cast,Nat.reduceAdd,Nat.reduceLeDiff,Nat.reduceBEq,Int.reduceNe,Int.reduceEq,Int.reduceLT,Int.reduceLE,d4]
 refine⟨fun w'' h=>by rw[hcl w'' h];exact rfl,?_⟩;have hbw4d:=hbw4.trans (hbd.mono (by omega));refine callK_of (decode_c factT (by decide) w4.drew (hl.below hbw4d)) ?_;rintro uv w5 ⟨hO,hb5⟩;have z5:=hb5.size;refine⟨B4.below hb5 B4.lt,?_⟩;obtain⟨ua,uc,rfl⟩:=hO.slice;simp -dsimp only[push_cast,Nat.reduceAdd,Nat.reduceLeDiff,Nat.reduceBEq,Int.reduceNe,Int.reduceEq,Int.reduceLT,Int.reduceLE]
 refine callK_of (breaks_c fileE hpo.1 hpp (by omega) (by omega) (udec 0 factT) (by decide +kernel) (fun _=>False) _ _ w5 ((hV4.below hb5).mono (Kept.refl (fun _=>False) _) (fun _ h=>h.elim) (fun _ h=>h.elim)) (hO.sl.weaken (fun _ h=>h.elim))) ?_;rintro _ w6 ⟨hB,hb6⟩;have z6:=hb6.size;refine⟨(B4.below hb5 B4.lt).below hb6 (by have:=B4.lt;omega),?_⟩
 have hbw6:=(hbw4d.trans (hb5.mono (by omega))).trans (hb6.mono (by omega));unfold BrkR at hB;rw[chk_E]at hB;obtain⟨nm,bv,hnm,rfl,hBO⟩:=hB;rw[names_E]at hnm;cases hnm;rw[units_T,breaks_E]at hBO;obtain⟨ba,bc,rfl⟩:=hBO.slice;simp -dsimp only[push_cast,Nat.reduceAdd,Nat.reduceLeDiff,Nat.reduceBEq,Int.reduceNe,Int.reduceEq,Int.reduceLT,Int.reduceLE];refine rowK elI_53 rfl rfl (by omega) ?_
 intro w7 hw7;have z7:=hw7.size;have hO7:Vc.Own w6.heap.size 3 1 encN w7 (.slice (some ⟨w6.heap.size,0,none⟩) 4 4) [0,2,3,5]:=hw7.own (by rfl) rfl (fun _=>rfl) (by omega) (by omega);simp -dsimp only[push_cast,Nat.reduceAdd,Nat.reduceLeDiff,Nat.reduceBEq,Int.reduceNe,Int.reduceEq,Int.reduceLT,Int.reduceLE]
 refine callK_of (equalN_c [0,2,3,5] [0,2,3,5] (by decide) _ _ _ _ w7 (hBO.new hw7).sl hO7.sl) ?_;rintro _ w8 ⟨rfl,hb8⟩;simp -dsimp only[push_cast,Nat.reduceAdd,Nat.reduceLeDiff,Nat.reduceBEq,Int.reduceNe,Int.reduceEq,Int.reduceLT,Int.reduceLE];exact((hbw6.trans (hw7.below.mono (by omega))).trans (hb8.mono (by omega)))
end Go.Proofs.YtledlfbbebodgaaGreatDoor
end
section
namespace Go.Vc
theorem opa_zero (a:Oper) (l m:List Oper):(List.append (a :: l) m)[0]?=some a:=(rfl)
theorem opa_succ (a:Oper) (l m:List Oper) (k:Nat):(List.append (a :: l) m)[k+1]?=(List.append l m)[k]?:=(rfl)
theorem opa_nil (m:List Oper) (k:Nat):(List.append [] m)[k]?=m[k]?:=(rfl)
theorem slo_zero (a:Oper) (l m:List Oper):slotOf (List.append (a :: l) m) 0=a.dst:=(rfl)
theorem slo_succ (a:Oper) (l m:List Oper) (k:Nat):slotOf (List.append (a :: l) m) (k+1)=slotOf (List.append l m) k:=(rfl)
theorem slo_nil (m:List Oper) (k:Nat):slotOf (List.append [] m) k=slotOf m k:=(rfl)
attribute [push_cast] opa_zero opa_succ opa_nil slo_zero slo_succ slo_nil
end Go.Vc
namespace Go.Proofs.YtledlfbbebodgaaGreatDoor
open Go.Vc Go.Proofs Go.RowKit Cae
attribute [local irreducible] wpL callK valK unitK runK Fun Sl Vc.Own vc vcOps opK pureK
theorem NamV.keptO {X Y X':Nat→Prop} {w w':World} {b:Nat} {nm:NamesP} (h:NamV X w b nm) (hk:Kept Y w w') (hY:∀i,Y i→X i) (hb:¬Y b) (hX:∀i,X' i→X i):NamV X' w' b nm:=by
 obtain⟨kvs,h2,h3⟩:=h;exact⟨kvs,h2.kept hk hb,h3.imp fun a b h=>⟨h.1,(h.2.1.kept hk hY).weaken hX,h.2.2⟩⟩
theorem meanOften_c (s t : List UInt8) (p : Int) (w : World) (hv : Vl w) (hE : ErrVar w) : Fun Tryz.prog 4 [str s, str t, .int .i64 p] w fun r w' => r = .bool true ∧ Below w.heap.size w w' := by
  refine fun_of_vc Tryz.func4 rfl (by kernel_rfl) [6] rfl ?_
  simp -dsimp (maxSteps := 4000000) only [push_cast, fr0, Tryz.ntmps4, List.length_cons, List.length_nil, Nat.reduceAdd, Nat.reduceSub, Nat.reduceBEq, List.replicate_succ, List.replicate_zero]
  push_cast -dsimp
  refine boxK_of ?_
  intro w0 hw0
  have hw0 : New w w0 3 [.int .i64 p] := hw0
  have z0 := hw0.size
  have hb0 := hw0.below
  have hv0 := hv.below hb0
  push_cast -dsimp
  refine ⟨fun hlong => hb0, fun hshort => ?_⟩
  refine callK_of (meant_c w0 hv0.d hv0.e (hE.on hb0) hv0.l hv0.g) ?_
  rintro _ w1 ⟨rfl, hb1'⟩
  have hb1 := hb0.trans (hb1'.mono (by omega))
  have z01 := hb1'.size
  have z1 := hb1.size
  have hv1 := hv.below hb1
  push_cast -dsimp
  refine callK_of (rightF_c s w1 hv1.d hv1.e hv1.g) ?_
  rintro _ w2 ⟨⟨a1, n1, k1, a2, n2, k2, e, b, rfl, hright⟩, hb2⟩
  have z2 := hb2.size
  have hbw2 := hb1.trans (hb2.mono z1)
  push_cast -dsimp
  refine allocK (z := [.slice none 0 0, .slice none 0 0, .bool false]) (by kernel_rfl) ?_
  intro w3 hw3
  have z3 := hw3.size
  push_cast -dsimp
  refine storeAgg (n := 3) (by kernel_rfl) hw3.blk rfl (by simp) cellsF3 ?_
  intro w4 hw4
  have z4 := hw4.size
  have B4 : Blk w4 w2.heap.size 26 [.slice a1 n1 k1, .slice a2 n2 k2, .bool e] := hw4.blk
  have hb24 : Below w2.heap.size w2 w4 := hw3.below.trans (hw4.kept.below (by omega) (fun i h => by omega))
  have hbw4 := hbw2.trans (hb24.mono (by omega))
  have hv4 := hv.below hbw4
  have d4 : cellsAt w4 ⟨w2.heap.size, 0, none⟩ 0 3 = some [.slice a1 n1 k1, .slice a2 n2 k2, .bool e] := B4.cellsAt
  cases b with
  | false =>
    push_cast -dsimp
    exact hbw4
  | true =>
    obtain ⟨hs5, f, hpar, hchk, hV⟩ := hright rfl
    have hpo := parse_ok (by omega) hpar
    have hpp := parse_pn hpar (by omega)
    have hV4 := hV.below hb24
    obtain ⟨cv, rv, cs, rs, hag, S1, S2, A1, A2⟩ := hV
    have hsh1 := S1.shape
    obtain ⟨_, _, rfl, hcc⟩ := hsh1
    have hsh2 := S2.shape
    obtain ⟨_, _, rfl, hrc⟩ := hsh2
    simp only [Value.agg.injEq, Array.mk.injEq, List.cons.injEq, Value.slice.injEq, Value.bool.injEq, and_true] at hag
    obtain ⟨⟨rfl, rfl, rfl⟩, ⟨rfl, rfl, rfl⟩, rfl⟩ := hag
    have hrl := All2.len A2
    have hcl := All2.len A1
    have f4 : w4.cell? ⟨w2.heap.size, 1, none⟩ = some (.slice a2 rs.length k2) := B4.cell rfl
    push_cast -dsimp [d4, f4]
    refine ⟨fun _ => hbw4, fun hne => ?_⟩
    refine callK_of (names_c f hpo.1.1 (by omega) _ _ w4 hV4) ?_
    rintro _ w5 ⟨hN, hb5⟩
    have z5 := hb5.size
    unfold NamesRes at hN
    have hnm : ∃ nm, namesS [] f.classes = .ok nm ∧ rulesS nm f.rules = none := by
      unfold chkS at hchk
      cases h : namesS [] f.classes with
      | error e => rw [h] at hchk; simp at hchk
      | ok nm => rw [h] at hchk; exact ⟨nm, rfl, by simpa using hchk⟩
    obtain ⟨nm, hnm, hrules⟩ := hnm
    rw [hnm] at hN
    obtain ⟨mb, hmb, rfl, hNam, hRN⟩ := hN
    have hbw5 := hbw4.trans (hb5.mono (by omega))
    have hv5 := hv.below hbw5
    push_cast -dsimp
    push_cast -dsimp
    refine allocK (z := [.map none]) (by kernel_rfl) ?_
    intro w6 hw6
    have z6 := hw6.size
    push_cast -dsimp
    refine storeK_of hw6.blk (by simp) rfl ?_
    intro w7 hw7
    have z7 := hw7.size
    have hb57 : Below w5.heap.size w5 w7 := hw6.below.trans (hw7.kept.below (by omega) (fun i h => by omega))
    have M7 : Blk w7 w5.heap.size 29 [.map (some mb)] := hw7.blk
    have hb47 := hb5.trans (hb57.mono (by omega))
    have hbw7 := hbw4.trans (hb47.mono (by omega))
    have hul := udec_length t.length t 0 rfl
    push_cast -dsimp
    refine callK_of (decode_c t (by omega) w7 (hv.below hbw7).l) ?_
    rintro uv w8 ⟨hU, hb8⟩
    have z8 := hb8.size
    have hbw8 := hbw7.trans (hb8.mono (by omega))
    obtain ⟨ua, uc, rfl⟩ := hU.slice
    push_cast -dsimp
    refine allocK (z := [.slice none 0 0]) (by kernel_rfl) ?_
    intro w9 hw9
    have z9 := hw9.size
    push_cast -dsimp
    refine storeK_of hw9.blk (by simp) rfl ?_
    intro wA hwA
    have zA := hwA.size
    have U9 : Blk wA w8.heap.size 51 [.slice ua (udec 0 t).length uc] := hwA.blk
    have hb8A : Below w8.heap.size w8 wA := hw9.below.trans (hwA.kept.below (by omega) (fun i h => by omega))
    have hb0A : Below w0.heap.size w0 wA := hb1'.trans ((hb2.mono (by have := hb1'.size; omega)).trans ((hb24.mono (by have := hb1'.size; omega)).trans ((hb47.mono (by have := hb1'.size; omega)).trans ((hb8.mono (by have := hb1'.size; omega)).trans (hb8A.mono (by have := hb1'.size; omega))))))
    have PA : Blk wA w.heap.size 3 [.int .i64 p] := hw0.blk.below hb0A (by omega)
    have pA : wA.cell? ⟨w.heap.size, 0, none⟩ = some (.int .i64 p) := PA.cell rfl
    have uA : wA.cell? ⟨w8.heap.size, 0, none⟩ = some (.slice ua (udec 0 t).length uc) := U9.cell rfl
    push_cast -dsimp [pA, uA]
    refine ⟨⟨by omega, by omega⟩, ?_⟩
    rw [show (((udec 0 t).length : Int) + 1) = ((udec 0 t).length + 1 : Nat) from by omega]
    refine callK_of (pick_c p ((udec 0 t).length + 1) (by omega) (by omega) wA) ?_
    rintro _ wA' ⟨rfl, eA⟩
    subst eA
    have hpl := pickP_lt p (n := (udec 0 t).length + 1) (by omega)
    have hi : ∃ i, i = pickP p ((udec 0 t).length + 1) := ⟨_, rfl⟩
    obtain ⟨i, hi⟩ := hi
    rw [← hi] at hpl ⊢
    clear hi
    push_cast -dsimp
    refine storeK_of PA (by simp) rfl ?_
    intro wB hwB
    have zB := hwB.size
    have PB : Blk wB w.heap.size 3 [.int .i64 i] := hwB.blk
    have kAB : Kept (fun j => j = w.heap.size) wA' wB := hwB.kept
    have FA : Blk wA' w2.heap.size 26 [.slice a1 cs.length k1, .slice a2 rs.length k2, .bool f.els] := B4.below (hb47.trans ((hb8.mono (by omega)).trans (hb8A.mono (by omega)))) (by omega)
    have FB := FA.kept kAB (fun h => by omega)
    have fB : wB.cell? ⟨w2.heap.size, 1, none⟩ = some (.slice a2 rs.length k2) := FB.cell rfl
    have hb2A : Below w2.heap.size w2 wA' := hb24.trans ((hb47.mono (by omega)).trans ((hb8.mono (by omega)).trans (hb8A.mono (by omega))))
    have hXw : ∀ j, j = w.heap.size → j < w1.heap.size := fun j h => by omega
    obtain ⟨c, hc, hcm, _, ht⟩ := lt_get (l := f.rules) (i := 0) (by omega)
    obtain ⟨x, hx, hxp, hxb, hx1, hx2⟩ := all2_nth A2 hc
    obtain ⟨xp, xb, x1, x2⟩ := x
    simp only at hxp hxb hx1 hx2
    have S2B := (S2.below hb2A).kept kAB hXw
    have hVx : PatV (fun _ => False) wB (ptrP x2) c.after := PatV.mono kAB hXw (fun _ h => h.elim) (hx2.below hb2A)
    obtain ⟨b1, o, rfl, hnb, hcell⟩ := S2B.get hx
    have g3 : wB.cell? ⟨b1, o + 3, none⟩ = some (.pointer (some ⟨x2, 0, none⟩)) := by have := hcell 3 (ptrP x2) rfl; simpa [ptrP] using this
    push_cast -dsimp [fB, g3]
    refine ⟨by omega, ?_⟩
    refine allocK (z := [.pointer none]) (by kernel_rfl) ?_
    intro wC hwC
    have zC := hwC.size
    push_cast -dsimp
    refine storeK_of hwC.blk (by simp) rfl ?_
    intro wD hwD
    have zD := hwD.size
    have XD : Blk wD wB.heap.size 35 [.pointer (some ⟨x2, 0, none⟩)] := hwD.blk
    have hbBD : Below wB.heap.size wB wD := hwC.below.trans (hwD.kept.below (by omega) (fun i h => by omega))
    push_cast -dsimp
    refine allocK (z := [.nilFunc]) (by kernel_rfl) ?_
    intro wE hwE
    have zE := hwE.size
    push_cast -dsimp
    refine storeK_of hwE.blk (by simp) rfl ?_
    intro wF hwF
    have zF := hwF.size
    have CF : Blk wF wD.heap.size 60 [catOV] := hwF.blk
    have hbDF : Below wD.heap.size wD wF := hwE.below.trans (hwF.kept.below (by omega) (fun i h => by omega))
    push_cast -dsimp
    refine boxK_of ?_
    intro wG hwG
    have hwG : New wF wG 39 [.int .i64 3, .pointer none, .slice none 0 0, .int .i64 0, .int .i64 0] := hwG
    have zG := hwG.size
    push_cast -dsimp
    refine allocK (z := [.pointer none]) (by kernel_rfl) ?_
    intro wH hwH
    have zH := hwH.size
    push_cast -dsimp
    refine storeK_of hwH.blk (by simp) rfl ?_
    intro wI hwI
    have zI := hwI.size
    have hbGI : Below wG.heap.size wG wI := hwH.below.trans (hwI.kept.below (by omega) (fun i h => by omega))
    have EI : Blk wI wG.heap.size 35 [.pointer (some ⟨wF.heap.size, 0, none⟩)] := hwI.blk
    push_cast -dsimp
    refine rowK elI_61 rfl rfl (by omega) ?_
    intro wJ hwJ
    have zJ := hwJ.size
    have hbBJ : Below wB.heap.size wB wJ := hbBD.trans ((hbDF.mono (by omega)).trans ((hwG.below.mono (by omega)).trans ((hbGI.mono (by omega)).trans (hwJ.below.mono (by omega)))))
    have hb7A : Below w7.heap.size w7 wA' := hb8.trans (hb8A.mono (by omega))
    have hbwB : Below w.heap.size w wB := hbw7.trans ((hb7A.mono (by omega)).trans (kAB.below (by omega) (fun j h => by omega)))
    have hbwJ := hbwB.trans (hbBJ.mono (by omega))
    have cJ : wJ.cell? ⟨wD.heap.size, 0, none⟩ = some catOV := (((CF.below hwG.below (by omega)).below hbGI (by omega)).below hwJ.below (by omega)).cell rfl
    have eJ : wJ.cell? ⟨wG.heap.size, 0, none⟩ = some (.pointer (some ⟨wF.heap.size, 0, none⟩)) := (EI.below hwJ.below (by omega)).cell rfl
    have mJ : wJ.cell? ⟨w5.heap.size, 0, none⟩ = some (.map (some mb)) := (((M7.below hb7A (by omega)).kept kAB (fun h => by omega)).below hbBJ (by omega)).cell rfl
    have uJ : wJ.cell? ⟨w8.heap.size, 0, none⟩ = some (.slice ua (udec 0 t).length uc) := ((U9.kept kAB (fun h => by omega)).below hbBJ (by omega)).cell rfl
    have pJ : wJ.cell? ⟨w.heap.size, 0, none⟩ = some (.int .i64 i) := (PB.below hbBJ (by omega)).cell rfl
    have peJ : PatV (fun _ => False) wJ (ptrP wF.heap.size) .edge := by
      simp only [PatV]
      exact ⟨_, rfl, id, ((hwG.blk.below hbGI (by omega)).below hwJ.below (by omega))⟩
    have nvJ : NamV (fun _ => False) wJ mb nm := ((hNam.below (hb57.trans (hb7A.mono (by omega)))).keptO kAB (fun j h => ⟨hXw j h, by omega⟩) (fun h => by omega) (fun _ h => h.elim)).below hbBJ
    have usJ : Sl (fun _ => False) 3 (En encU) wJ (.slice ua (udec 0 t).length uc) (udec 0 t) := (((hU.sl.below hb8A).kept kAB (fun j h => by omega)).weaken (fun _ h => h.elim)).below hbBJ
    have xJ : wJ.cell? ⟨wB.heap.size, 0, none⟩ = some (.pointer (some ⟨x2, 0, none⟩)) := ((((XD.below hbDF (by omega)).below hwG.below (by omega)).below hbGI (by omega)).below hwJ.below (by omega)).cell rfl
    have hVxJ := hVx.below hbBJ
    have rJ := hwJ.blk
    push_cast -dsimp
    refine wpL_loop [6, 18, 19, 62, 63, 64, 65, 66, 67, 68, 69, 70, 71, 72, 73, 74, 75, 76, 77, 78, 79, 80, 81, 82, 83, 84, 85, 86, 87, 88, 89, 90, 91, 92, 93, 94, 95, 96, 97, 98, 99, 100, 101, 102, 103, 104, 105, 106, 107, 108, 109, 110, 111, 112, 113, 114, 115, 116, 117, 118, 119, 120, 121, 122, 123, 124, 125, 126, 127, 128, 129, 130, 131, 132, 133, 134] (fun z wx => ∃ k : Nat, z 62 = .int .i64 k ∧ k ≤ 2 ∧ Below wJ.heap.size wJ wx) (fun z _ => 2 - (intOf (z 62)).toNat) ?_ ?_
    · exact ⟨0, rfl, by omega, Below.refl _ _⟩
    · intro z wx hI
      obtain ⟨k, h62, hk, hbx⟩ := hI
      have zx := hbx.size
      have hbwx := hbwJ.trans (hbx.mono (by omega))
      push_cast -dsimp [h62]
      refine ⟨fun hlt => ?_, fun hge => hbwx⟩
      · have hkk : k = 0 ∨ k = 1 := by omega
        have hback : ∃ back : Bool, wx.cell? ⟨wI.heap.size, k, none⟩ = some (.bool back) := by
          rcases hkk with rfl | rfl
          · exact ⟨false, (rJ.below hbx (by omega)).cell rfl⟩
          · exact ⟨true, (rJ.below hbx (by omega)).cell rfl⟩
        obtain ⟨back, hbk⟩ := hback
        push_cast -dsimp [hbk]
        refine ⟨⟨by omega, by omega⟩, ?_⟩
        refine allocK (z := [.bool false]) (by kernel_rfl) ?_
        intro wK hwK
        have zK := hwK.size
        push_cast -dsimp
        refine storeK_of hwK.blk (by simp) rfl ?_
        intro wL hwL
        have zL := hwL.size
        have hbxL : Below wx.heap.size wx wL := hwK.below.trans (hwL.kept.below (by omega) (fun i h => by omega))
        have hbJL := hbx.trans (hbxL.mono (by omega))
        have BL : Blk wL wx.heap.size 4 [.bool back] := hwL.blk
        have hlk : ∀ {a : Addr} {v : Value}, wJ.cell? a = some v → wL.cell? a = some v := fun h => (hbJL.cell (World.block_lt_of_cell? wJ _ h)).trans h
        have SL : SameV wL wD.heap.size wG.heap.size wx.heap.size w5.heap.size w8.heap.size w.heap.size mb wF.heap.size back (.slice ua (udec 0 t).length uc) (udec 0 t) nm i :=
          ⟨hlk cJ, hlk eJ, BL.cell rfl, hlk mJ, hlk uJ, hlk pJ, peJ.below hbJL, nvJ.below hbJL, usJ.below hbJL⟩
        have xL := hlk xJ
        have hVL := hVxJ.below hbJL
        have hbwL := hbwJ.trans (hbJL.mono (by omega))
        push_cast -dsimp
        have hw90 : wd c.after ≤ 20000 := by
          have h1 := text_len hpar
          have h2 := pn_text hcm
          have h3 := wd_pn c.after
          omega
        have hokc := (hpo.1.2 c hcm).2
        have keepC : ∀ y, Below wL.heap.size wL y → y.cell? ⟨wD.heap.size, 0, none⟩ = some catOV ∧ y.cell? ⟨wB.heap.size, 0, none⟩ = some (.pointer (some ⟨x2, 0, none⟩)) := fun y hy => ⟨(hy.cell (World.block_lt_of_cell? wL _ SL.c)).trans SL.c, (hy.cell (World.block_lt_of_cell? wL _ xL)).trans xL⟩
        have hd := below_drew wL
        have zd : wL.drew.heap.size = wL.heap.size := rfl
        have c1 := (keepC _ hd).1
        have c2 := (keepC _ hd).2
        refine wpL_tree (.one 0 (.one 1 (.one 3 (.one 4 (.one 6 (.one 7 (.one 8 (.one 2 (.one 5 (.one 9 (.one 10 (.one 11 (.one 12 (.one 13 (.one 14 (.one 15 (.one 16 (.one 17 (.one 18 (.one 20 (.one 21 (.one 22 (.two 19 (.one 23 (.one 24 (.one 25 (.one 26 (.one 27 (.one 28 (.one 29 (.one 30 (.one 32 (.one 33 (.one 34 (.one 31 (.one 35 (.one 36 (.one 37 (.one 38 (.one 39 (.one 40 (.one 41 (.one 42 (.one 43 (.one 45 (.one 46 (.one 48 (.one 44 (.one 47 (.one 49 (.one 50 (.one 51 (.one 52 (.one 53 (.one 54 (.one 55 (.one 56 (.one 58 (.one 59 (.one 60 (.one 57 (.one 61 (.one 62 (.one 63 (.one 64 (.one 65 (.one 66 .done)))))))))))))))))))))))))))))))))))))))))))) 23 (.one 19 (.one 24 (.one 25 (.one 26 (.one 27 (.one 28 (.one 29 (.one 30 (.one 32 (.one 33 (.one 34 (.one 31 (.one 35 (.one 36 (.one 37 (.one 38 (.one 39 (.one 40 (.one 41 (.one 42 (.one 43 (.one 45 (.one 46 (.one 48 (.one 44 (.one 47 (.one 49 (.one 50 (.one 51 (.one 52 (.one 53 (.one 54 (.one 55 (.one 56 (.one 58 (.one 59 (.one 60 (.one 57 (.one 61 (.one 62 (.one 63 (.one 64 (.one 65 (.one 66 .done))))))))))))))))))))))))))))))))))))))))))))))))))))))))))))))))))) (fun y => y.cell? ⟨wD.heap.size, 0, none⟩ = some catOV ∧ y.cell? ⟨wB.heap.size, 0, none⟩ = some (.pointer (some ⟨x2, 0, none⟩))) mixed ?_ (keepC _ hd) ?_
        · decide +kernel
        unfold catOV at c1
        push_cast -dsimp [c1, c2]
        refine ⟨fun w'' h => by rw [h.1]; exact rfl, fun w'' h => by rw [h.1]; exact rfl, fun w'' h => by rw [h.2]; exact rfl, ?_⟩
        have hmok : ∀ lo hi : Int, 0 ≤ lo → lo < 100 → hi < 100 → (hi < 0 ∨ lo ≤ hi) → PatOk (.many c.after lo hi) := fun lo hi h1 h2 h3 h4 => by simp only [PatOk]; exact ⟨hokc, h1, h2, h3, h4⟩
        have hcok : ∀ a b : PatP, PatOk a → PatOk b → PatOk (.cat [a, b]) ∧ PatOk (.alt [a, b]) := fun a b h1 h2 => by simp only [PatOk, PatsOk]; exact ⟨⟨h1, h2, trivial⟩, ⟨h1, h2, trivial⟩⟩
        have hn0 : PatOk (.cat []) := by simp only [PatOk, PatsOk]
        have w0c : wd (.cat []) = 0 := rfl
        have wm : ∀ lo hi : Int, wd (.many c.after lo hi) = wd c.after := fun lo hi => by rw [wd]
        have hul1 : (udec 0 t).length ≤ 1000 := by omega
        have hil : i ≤ (udec 0 t).length := by omega
        have hm0 := hmok 0 (-1) (by omega) (by omega) (by omega) (.inl (by omega))
        have hc1 := wd_two c.after (.many c.after 0 (-1))
        have hc2 := wd_twoA (.cat []) (.cat [c.after, .many c.after 0 (-1)])
        have hc3 := wd_two c.after c.after
        have hc4 := wd_twoA c.after (.cat [])
        have hc5 := wd_two (.many c.after 0 (-1)) c.after
        have hc6 := wd_two c.after (.many c.after 0 2)
        have m1 := wm 0 (-1)
        have m2 := wm 0 2
        have q1 := fun (y : World) (u v : Nat) (hy : Below wL.heap.size wL y) (hu : PatV (fun _ => False) y (ptrP u) (.many c.after 0 (-1))) (hv : PatV (fun _ => False) y (ptrP v) (.alt [.cat [], .cat [c.after, .many c.after 0 (-1)]])) => sameO_c _ _ hm0 (hcok _ _ hn0 (hcok _ _ hokc hm0).1).2 (by rw [wm]; omega) (by omega) nm hRN (udec 0 t) hul1 i hil back (same_any c.after) _ _ _ _ _ _ _ _ u v _ y (SL.below hy) hu hv
        have q2 := fun (y : World) (u v : Nat) (hy : Below wL.heap.size wL y) (hu : PatV (fun _ => False) y (ptrP u) (.many c.after 2 2)) (hv : PatV (fun _ => False) y (ptrP v) (.cat [c.after, c.after])) => sameO_c _ _ (hmok 2 2 (by omega) (by omega) (by omega) (.inr (by omega))) (hcok _ _ hokc hokc).1 (by rw [wm]; omega) (by omega) nm hRN (udec 0 t) hul1 i hil back (same_twice c.after) _ _ _ _ _ _ _ _ u v _ y (SL.below hy) hu hv
        have q3 := fun (y : World) (u v : Nat) (hy : Below wL.heap.size wL y) (hu : PatV (fun _ => False) y (ptrP u) (.many c.after 0 1)) (hv : PatV (fun _ => False) y (ptrP v) (.alt [c.after, .cat []])) => sameO_c _ _ (hmok 0 1 (by omega) (by omega) (by omega) (.inr (by omega))) (hcok _ _ hokc hn0).2 (by rw [wm]; omega) (by omega) nm hRN (udec 0 t) hul1 i hil back (same_maybe c.after) _ _ _ _ _ _ _ _ u v _ y (SL.below hy) hu hv
        have q4 := fun (y : World) (u v : Nat) (hy : Below wL.heap.size wL y) (hu : PatV (fun _ => False) y (ptrP u) (.many c.after 1 (-1))) (hv : PatV (fun _ => False) y (ptrP v) (.cat [.many c.after 0 (-1), c.after])) => sameO_c _ _ (hmok 1 (-1) (by omega) (by omega) (by omega) (.inl (by omega))) (hcok _ _ hm0 hokc).1 (by rw [wm]; omega) (by omega) nm hRN (udec 0 t) hul1 i hil back (same_some c.after) _ _ _ _ _ _ _ _ u v _ y (SL.below hy) hu hv
        have q5 := fun (y : World) (u v : Nat) (hy : Below wL.heap.size wL y) (hu : PatV (fun _ => False) y (ptrP u) (.many c.after 1 3)) (hv : PatV (fun _ => False) y (ptrP v) (.cat [c.after, .many c.after 0 2])) => sameO_c _ _ (hmok 1 3 (by omega) (by omega) (by omega) (.inr (by omega))) (hcok _ _ hokc (hmok 0 2 (by omega) (by omega) (by omega) (.inr (by omega)))).1 (by rw [wm]; omega) (by omega) nm hRN (udec 0 t) hul1 i hil back (same_three c.after) _ _ _ _ _ _ _ _ u v _ y (SL.below hy) hu hv
        -- 0 (-1): bounds; wL.drew: world, hd: Below wL wL.drew; y1: new world; b1: Below wL y1; p1: the pattern's block; hM1: what it is
        refine callK_of (manyO_c c.after 0 (-1) _ x2 wL.drew (hVL.below hd) (keepC _ hd).2) ?_
        rintro r y1 ⟨hM1, ky1⟩
        have b1 : Below wL.heap.size wL y1 := (hd).trans (ky1.mono (hd).size)
        obtain ⟨p1, rfl, _, _⟩ := (hM1).ptr
        refine ⟨keepC _ b1, ?_⟩
        push_cast -dsimp
        -- cat: cat or alt; []: the patterns; y1: world, b1: Below wL y1; y2: new world; b2: Below wL y2; c0b: the pattern's block; hC0: what it is; (Sl.nil _ _ _ _ _ _) (by simp only [PatsV]): its slice and its patterns
        refine callK_of (catO_c [] _ _ y1 (Sl.nil _ _ _ _ _ _) (by simp only [PatsV])) ?_
        rintro r y2 ⟨hC0, ky2⟩
        have b2 : Below wL.heap.size wL y2 := (b1).trans (ky2.mono (b1).size)
        obtain ⟨c0b, rfl, _, _⟩ := (hC0).ptr
        refine ⟨keepC _ b2, ?_⟩
        push_cast -dsimp
        -- 0 (-1): bounds; y2: world, b2: Below wL y2; y3: new world; b3: Below wL y3; p2: the pattern's block; hM2: what it is
        refine callK_of (manyO_c c.after 0 (-1) _ x2 y2 (hVL.below b2) (keepC _ b2).2) ?_
        rintro r y3 ⟨hM2, ky3⟩
        have b3 : Below wL.heap.size wL y3 := (b2).trans (ky3.mono (b2).size)
        obtain ⟨p2, rfl, _, _⟩ := (hM2).ptr
        refine ⟨keepC _ b3, ?_⟩
        push_cast -dsimp
        -- y3: world, b3: Below wL y3; y4: new world; b4: Below wL y4
        refine rowK elI_37 rfl rfl (by omega) ?_
        intro y4 ny4
        have sy4 := ny4.size
        have b4 : Below wL.heap.size wL y4 := (b3).trans (ny4.below.mono (b3).size)
        refine ⟨keepC _ b4, ?_⟩
        push_cast -dsimp
        -- cat: cat or alt; [c.after, .many c.after 0 (-1)]: the patterns; y4: world, b4: Below wL y4; y5: new world; b5: Below wL y5; p3: the pattern's block; hC3: what it is; (rowP ny4) (pats_two (hVL.below b4) (hM2.below ny4.below)): its slice and its patterns
        refine callK_of (catO_c [c.after, .many c.after 0 (-1)] _ _ y4 (rowP ny4) (pats_two (hVL.below b4) (hM2.below ny4.below))) ?_
        rintro r y5 ⟨hC3, ky5⟩
        have b5 : Below wL.heap.size wL y5 := (b4).trans (ky5.mono (b4).size)
        obtain ⟨p3, rfl, _, _⟩ := (hC3).ptr
        refine ⟨keepC _ b5, ?_⟩
        push_cast -dsimp
        -- y5: world, b5: Below wL y5; y6: new world; b6: Below wL y6
        refine rowK elI_37 rfl rfl (by omega) ?_
        intro y6 ny6
        have sy6 := ny6.size
        have b6 : Below wL.heap.size wL y6 := (b5).trans (ny6.below.mono (b5).size)
        refine ⟨keepC _ b6, ?_⟩
        push_cast -dsimp
        -- alt: cat or alt; [.cat [], .cat [c.after, .many c.after 0 (-1)]]: the patterns; y6: world, b6: Below wL y6; y7: new world; b7: Below wL y7; p4: the pattern's block; hA4: what it is; (rowP ny6) (pats_two ((((hC0.below ky3).below ny4.below).below ky5).below ny6.below) (hC3.below ny6.below)): its slice and its patterns
        refine callK_of (altO_c [.cat [], .cat [c.after, .many c.after 0 (-1)]] _ _ y6 (rowP ny6) (pats_two ((((hC0.below ky3).below ny4.below).below ky5).below ny6.below) (hC3.below ny6.below))) ?_
        rintro r y7 ⟨hA4, ky7⟩
        have b7 : Below wL.heap.size wL y7 := (b6).trans (ky7.mono (b6).size)
        obtain ⟨p4, rfl, _, _⟩ := (hA4).ptr
        refine ⟨keepC _ b7, ?_⟩
        push_cast -dsimp
        -- q1: which law; y7: world, b7: Below wL y7; y8: new world; b8: Below wL y8; ((((((hM1.below ky2).below ky3).below ny4.below).below ky5).below ny6.below).below ky7) hA4: the two patterns lie there
        refine callK_of (q1 y7 _ _ b7 ((((((hM1.below ky2).below ky3).below ny4.below).below ky5).below ny6.below).below ky7) hA4) ?_
        rintro _ y8 ⟨rfl, ky8⟩
        have b8 : Below wL.heap.size wL y8 := (b7).trans (ky8.mono (b7).size)
        refine ⟨keepC _ b8, ?_⟩
        have c1 := (keepC _ b8).1
        have c2 := (keepC _ b8).2
        unfold catOV at c1
        push_cast -dsimp [c1, c2]
        refine ⟨fun w'' h => by rw [h.1]; exact rfl, fun w'' h => by rw [h.2]; exact rfl, fun w'' h => by rw [h.2]; exact rfl, ?_, ?_⟩
        · skip
          -- 2 2: bounds; y8: world, b8: Below wL y8; y9: new world; b9: Below wL y9; p9: the pattern's block; hM9: what it is
          refine callK_of (manyO_c c.after 2 2 _ x2 y8 (hVL.below b8) (keepC _ b8).2) ?_
          rintro r y9 ⟨hM9, ky9⟩
          have b9 : Below wL.heap.size wL y9 := (b8).trans (ky9.mono (b8).size)
          obtain ⟨p9, rfl, _, _⟩ := (hM9).ptr
          refine ⟨keepC _ b9, ?_⟩
          push_cast -dsimp
          -- y9: world, b9: Below wL y9; yA: new world; bA: Below wL yA
          refine rowK elI_37 rfl rfl (by omega) ?_
          intro yA nyA
          have syA := nyA.size
          have bA : Below wL.heap.size wL yA := (b9).trans (nyA.below.mono (b9).size)
          refine ⟨keepC _ bA, ?_⟩
          push_cast -dsimp
          -- yA: world; bA: Below wL yA; (hM9.below nyA.below): the pattern that stands twice, there; rowP nyA: the row of both
          -- cat: cat or alt; [c.after, c.after]: the patterns; yA: world, bA: Below wL yA; yC: new world; bC: Below wL yC; c2b: the pattern's block; hC2: what it is; (rowP nyA) (pats_two (hVL.below bA) (hVL.below bA)): its slice and its patterns
          refine callK_of (catO_c [c.after, c.after] _ _ yA (rowP nyA) (pats_two (hVL.below bA) (hVL.below bA))) ?_
          rintro r yC ⟨hC2, kyC⟩
          have bC : Below wL.heap.size wL yC := (bA).trans (kyC.mono (bA).size)
          obtain ⟨c2b, rfl, _, _⟩ := (hC2).ptr
          refine ⟨keepC _ bC, ?_⟩
          push_cast -dsimp
          -- q2: which law; yC: world, bC: Below wL yC; yD: new world; bD: Below wL yD; (((hM9.below nyA.below)).below kyC) hC2: the two patterns lie there
          refine callK_of (q2 yC _ _ bC (((hM9.below nyA.below)).below kyC) hC2) ?_
          rintro _ yD ⟨rfl, kyD⟩
          have bD : Below wL.heap.size wL yD := (bC).trans (kyD.mono (bC).size)
          refine ⟨keepC _ bD, ?_⟩
          have c1 := (keepC _ bD).1
          have c2 := (keepC _ bD).2
          unfold catOV at c1
          push_cast -dsimp [c1, c2]
          refine ⟨fun w'' h => by rw [h.2]; exact rfl, fun w'' h => by rw [h.1]; exact rfl, ?_⟩
          -- 0 1: bounds; yD: world, bD: Below wL yD; z1: new world; d1: Below wL z1; m5: the pattern's block; hM5: what it is
          refine callK_of (manyO_c c.after 0 1 _ x2 yD (hVL.below bD) (keepC _ bD).2) ?_
          rintro r z1 ⟨hM5, kz1⟩
          have d1 : Below wL.heap.size wL z1 := (bD).trans (kz1.mono (bD).size)
          obtain ⟨m5, rfl, _, _⟩ := (hM5).ptr
          refine ⟨keepC _ d1, ?_⟩
          push_cast -dsimp
          -- cat: cat or alt; []: the patterns; z1: world, d1: Below wL z1; z2: new world; d2: Below wL z2; c5: the pattern's block; hC5: what it is; (Sl.nil _ _ _ _ _ _) (by simp only [PatsV]): its slice and its patterns
          refine callK_of (catO_c [] _ _ z1 (Sl.nil _ _ _ _ _ _) (by simp only [PatsV])) ?_
          rintro r z2 ⟨hC5, kz2⟩
          have d2 : Below wL.heap.size wL z2 := (d1).trans (kz2.mono (d1).size)
          obtain ⟨c5, rfl, _, _⟩ := (hC5).ptr
          refine ⟨keepC _ d2, ?_⟩
          push_cast -dsimp
          -- z2: world, d2: Below wL z2; z3: new world; d3: Below wL z3
          refine rowK elI_37 rfl rfl (by omega) ?_
          intro z3 nz3
          have sz3 := nz3.size
          have d3 : Below wL.heap.size wL z3 := (d2).trans (nz3.below.mono (d2).size)
          refine ⟨keepC _ d3, ?_⟩
          push_cast -dsimp
          -- alt: cat or alt; [c.after, .cat []]: the patterns; z3: world, d3: Below wL z3; z4: new world; d4': Below wL z4; a5: the pattern's block; hA5: what it is; (rowP nz3) (pats_two (hVL.below d3) (hC5.below nz3.below)): its slice and its patterns
          refine callK_of (altO_c [c.after, .cat []] _ _ z3 (rowP nz3) (pats_two (hVL.below d3) (hC5.below nz3.below))) ?_
          rintro r z4 ⟨hA5, kz4⟩
          have d4' : Below wL.heap.size wL z4 := (d3).trans (kz4.mono (d3).size)
          obtain ⟨a5, rfl, _, _⟩ := (hA5).ptr
          refine ⟨keepC _ d4', ?_⟩
          push_cast -dsimp
          -- q3: which law; z4: world, d4': Below wL z4; z5: new world; d5: Below wL z5; (((hM5.below kz2).below nz3.below).below kz4) hA5: the two patterns lie there
          refine callK_of (q3 z4 _ _ d4' (((hM5.below kz2).below nz3.below).below kz4) hA5) ?_
          rintro _ z5 ⟨rfl, kz5⟩
          have d5 : Below wL.heap.size wL z5 := (d4').trans (kz5.mono (d4').size)
          refine ⟨keepC _ d5, ?_⟩
          have c1 := (keepC _ d5).1
          have c2 := (keepC _ d5).2
          unfold catOV at c1
          push_cast -dsimp [c1, c2]
          refine ⟨fun w'' h => by rw [h.1]; exact rfl, fun w'' h => by rw [h.2]; exact rfl, ?_⟩
          -- 1 (-1): bounds; z5: world, d5: Below wL z5; z6: new world; d6: Below wL z6; m6: the pattern's block; hM6: what it is
          refine callK_of (manyO_c c.after 1 (-1) _ x2 z5 (hVL.below d5) (keepC _ d5).2) ?_
          rintro r z6 ⟨hM6, kz6⟩
          have d6 : Below wL.heap.size wL z6 := (d5).trans (kz6.mono (d5).size)
          obtain ⟨m6, rfl, _, _⟩ := (hM6).ptr
          refine ⟨keepC _ d6, ?_⟩
          push_cast -dsimp
          -- 0 (-1): bounds; z6: world, d6: Below wL z6; z7: new world; d7': Below wL z7; m7: the pattern's block; hM7: what it is
          refine callK_of (manyO_c c.after 0 (-1) _ x2 z6 (hVL.below d6) (keepC _ d6).2) ?_
          rintro r z7 ⟨hM7, kz7⟩
          have d7' : Below wL.heap.size wL z7 := (d6).trans (kz7.mono (d6).size)
          obtain ⟨m7, rfl, _, _⟩ := (hM7).ptr
          refine ⟨keepC _ d7', ?_⟩
          push_cast -dsimp
          -- z7: world, d7': Below wL z7; z8: new world; d8: Below wL z8
          refine rowK elI_37 rfl rfl (by omega) ?_
          intro z8 nz8
          have sz8 := nz8.size
          have d8 : Below wL.heap.size wL z8 := (d7').trans (nz8.below.mono (d7').size)
          refine ⟨keepC _ d8, ?_⟩
          push_cast -dsimp
          -- cat: cat or alt; [.many c.after 0 (-1), c.after]: the patterns; z8: world, d8: Below wL z8; z9: new world; d9: Below wL z9; c9: the pattern's block; hC9: what it is; (rowP nz8) (pats_two (hM7.below nz8.below) (hVL.below d8)): its slice and its patterns
          refine callK_of (catO_c [.many c.after 0 (-1), c.after] _ _ z8 (rowP nz8) (pats_two (hM7.below nz8.below) (hVL.below d8))) ?_
          rintro r z9 ⟨hC9, kz9⟩
          have d9 : Below wL.heap.size wL z9 := (d8).trans (kz9.mono (d8).size)
          obtain ⟨c9, rfl, _, _⟩ := (hC9).ptr
          refine ⟨keepC _ d9, ?_⟩
          push_cast -dsimp
          -- q4: which law; z9: world, d9: Below wL z9; za: new world; da: Below wL za; (((hM6.below kz7).below nz8.below).below kz9) hC9: the two patterns lie there
          refine callK_of (q4 z9 _ _ d9 (((hM6.below kz7).below nz8.below).below kz9) hC9) ?_
          rintro _ za ⟨rfl, kza⟩
          have da : Below wL.heap.size wL za := (d9).trans (kza.mono (d9).size)
          refine ⟨keepC _ da, ?_⟩
          have c1 := (keepC _ da).1
          have c2 := (keepC _ da).2
          unfold catOV at c1
          push_cast -dsimp [c1, c2]
          refine ⟨fun w'' h => by rw [h.1]; exact rfl, fun w'' h => by rw [h.2]; exact rfl, ?_⟩
          -- 1 3: bounds; za: world, da: Below wL za; zb: new world; db: Below wL zb; m8: the pattern's block; hM8: what it is
          refine callK_of (manyO_c c.after 1 3 _ x2 za (hVL.below da) (keepC _ da).2) ?_
          rintro r zb ⟨hM8, kzb⟩
          have db : Below wL.heap.size wL zb := (da).trans (kzb.mono (da).size)
          obtain ⟨m8, rfl, _, _⟩ := (hM8).ptr
          refine ⟨keepC _ db, ?_⟩
          push_cast -dsimp
          -- 0 2: bounds; zb: world, db: Below wL zb; zc: new world; dc: Below wL zc; m9: the pattern's block; hM9: what it is
          refine callK_of (manyO_c c.after 0 2 _ x2 zb (hVL.below db) (keepC _ db).2) ?_
          rintro r zc ⟨hM9, kzc⟩
          have dc : Below wL.heap.size wL zc := (db).trans (kzc.mono (db).size)
          obtain ⟨m9, rfl, _, _⟩ := (hM9).ptr
          refine ⟨keepC _ dc, ?_⟩
          push_cast -dsimp
          -- zc: world, dc: Below wL zc; zd': new world; dd: Below wL zd'
          refine rowK elI_37 rfl rfl (by omega) ?_
          intro zd' nzd'
          have szd' := nzd'.size
          have dd : Below wL.heap.size wL zd' := (dc).trans (nzd'.below.mono (dc).size)
          refine ⟨keepC _ dd, ?_⟩
          push_cast -dsimp
          -- cat: cat or alt; [c.after, .many c.after 0 2]: the patterns; zd': world, dd: Below wL zd'; ze': new world; de: Below wL ze'; ca: the pattern's block; hCa: what it is; (rowP nzd') (pats_two (hVL.below dd) (hM9.below nzd'.below)): its slice and its patterns
          refine callK_of (catO_c [c.after, .many c.after 0 2] _ _ zd' (rowP nzd') (pats_two (hVL.below dd) (hM9.below nzd'.below))) ?_
          rintro r ze' ⟨hCa, kze'⟩
          have de : Below wL.heap.size wL ze' := (dd).trans (kze'.mono (dd).size)
          obtain ⟨ca, rfl, _, _⟩ := (hCa).ptr
          refine ⟨keepC _ de, ?_⟩
          push_cast -dsimp
          -- q5: which law; ze': world, de: Below wL ze'; zf': new world; df: Below wL zf'; (((hM8.below kzc).below nzd'.below).below kze') hCa: the two patterns lie there
          refine callK_of (q5 ze' _ _ de (((hM8.below kzc).below nzd'.below).below kze') hCa) ?_
          rintro _ zf' ⟨rfl, kzf'⟩
          have df : Below wL.heap.size wL zf' := (de).trans (kzf'.mono (de).size)
          refine ⟨keepC _ df, ?_⟩
          have c1 := (keepC _ df).1
          have c2 := (keepC _ df).2
          unfold catOV at c1
          push_cast -dsimp [c1, c2]
          exact ⟨⟨by omega, by omega⟩, ⟨k + 1, rfl, by omega, hbJL.trans (df.mono (by have := hbJL.size; omega))⟩, by rw [h62]; simp only [intOf]; omega⟩
        · skip
          -- y8: world, b8: Below wL y8; y9: new world; b9: Below wL y9
          refine rowK elI_37 rfl rfl (by omega) ?_
          intro y9 ny9
          have sy9 := ny9.size
          have b9 : Below wL.heap.size wL y9 := (b8).trans (ny9.below.mono (b8).size)
          refine ⟨keepC _ b9, ?_⟩
          push_cast -dsimp
          -- 2 2: bounds; y9: world, b9: Below wL y9; yA: new world; bA: Below wL yA; p9: the pattern's block; hM9: what it is
          refine callK_of (manyO_c c.after 2 2 _ x2 y9 (hVL.below b9) (keepC _ b9).2) ?_
          rintro r yA ⟨hM9, kyA⟩
          have bA : Below wL.heap.size wL yA := (b9).trans (kyA.mono (b9).size)
          obtain ⟨p9, rfl, _, _⟩ := (hM9).ptr
          refine ⟨keepC _ bA, ?_⟩
          push_cast -dsimp
          -- yA: world; bA: Below wL yA; hM9: the pattern that stands twice, there; (rowP ny9).below kyA: the row of both
          -- cat: cat or alt; [c.after, c.after]: the patterns; yA: world, bA: Below wL yA; yC: new world; bC: Below wL yC; c2b: the pattern's block; hC2: what it is; ((rowP ny9).below kyA) (pats_two (hVL.below bA) (hVL.below bA)): its slice and its patterns
          refine callK_of (catO_c [c.after, c.after] _ _ yA ((rowP ny9).below kyA) (pats_two (hVL.below bA) (hVL.below bA))) ?_
          rintro r yC ⟨hC2, kyC⟩
          have bC : Below wL.heap.size wL yC := (bA).trans (kyC.mono (bA).size)
          obtain ⟨c2b, rfl, _, _⟩ := (hC2).ptr
          refine ⟨keepC _ bC, ?_⟩
          push_cast -dsimp
          -- q2: which law; yC: world, bC: Below wL yC; yD: new world; bD: Below wL yD; ((hM9).below kyC) hC2: the two patterns lie there
          refine callK_of (q2 yC _ _ bC ((hM9).below kyC) hC2) ?_
          rintro _ yD ⟨rfl, kyD⟩
          have bD : Below wL.heap.size wL yD := (bC).trans (kyD.mono (bC).size)
          refine ⟨keepC _ bD, ?_⟩
          have c1 := (keepC _ bD).1
          have c2 := (keepC _ bD).2
          unfold catOV at c1
          push_cast -dsimp [c1, c2]
          refine ⟨fun w'' h => by rw [h.2]; exact rfl, fun w'' h => by rw [h.1]; exact rfl, ?_⟩
          -- 0 1: bounds; yD: world, bD: Below wL yD; z1: new world; d1: Below wL z1; m5: the pattern's block; hM5: what it is
          refine callK_of (manyO_c c.after 0 1 _ x2 yD (hVL.below bD) (keepC _ bD).2) ?_
          rintro r z1 ⟨hM5, kz1⟩
          have d1 : Below wL.heap.size wL z1 := (bD).trans (kz1.mono (bD).size)
          obtain ⟨m5, rfl, _, _⟩ := (hM5).ptr
          refine ⟨keepC _ d1, ?_⟩
          push_cast -dsimp
          -- cat: cat or alt; []: the patterns; z1: world, d1: Below wL z1; z2: new world; d2: Below wL z2; c5: the pattern's block; hC5: what it is; (Sl.nil _ _ _ _ _ _) (by simp only [PatsV]): its slice and its patterns
          refine callK_of (catO_c [] _ _ z1 (Sl.nil _ _ _ _ _ _) (by simp only [PatsV])) ?_
          rintro r z2 ⟨hC5, kz2⟩
          have d2 : Below wL.heap.size wL z2 := (d1).trans (kz2.mono (d1).size)
          obtain ⟨c5, rfl, _, _⟩ := (hC5).ptr
          refine ⟨keepC _ d2, ?_⟩
          push_cast -dsimp
          -- z2: world, d2: Below wL z2; z3: new world; d3: Below wL z3
          refine rowK elI_37 rfl rfl (by omega) ?_
          intro z3 nz3
          have sz3 := nz3.size
          have d3 : Below wL.heap.size wL z3 := (d2).trans (nz3.below.mono (d2).size)
          refine ⟨keepC _ d3, ?_⟩
          push_cast -dsimp
          -- alt: cat or alt; [c.after, .cat []]: the patterns; z3: world, d3: Below wL z3; z4: new world; d4': Below wL z4; a5: the pattern's block; hA5: what it is; (rowP nz3) (pats_two (hVL.below d3) (hC5.below nz3.below)): its slice and its patterns
          refine callK_of (altO_c [c.after, .cat []] _ _ z3 (rowP nz3) (pats_two (hVL.below d3) (hC5.below nz3.below))) ?_
          rintro r z4 ⟨hA5, kz4⟩
          have d4' : Below wL.heap.size wL z4 := (d3).trans (kz4.mono (d3).size)
          obtain ⟨a5, rfl, _, _⟩ := (hA5).ptr
          refine ⟨keepC _ d4', ?_⟩
          push_cast -dsimp
          -- q3: which law; z4: world, d4': Below wL z4; z5: new world; d5: Below wL z5; (((hM5.below kz2).below nz3.below).below kz4) hA5: the two patterns lie there
          refine callK_of (q3 z4 _ _ d4' (((hM5.below kz2).below nz3.below).below kz4) hA5) ?_
          rintro _ z5 ⟨rfl, kz5⟩
          have d5 : Below wL.heap.size wL z5 := (d4').trans (kz5.mono (d4').size)
          refine ⟨keepC _ d5, ?_⟩
          have c1 := (keepC _ d5).1
          have c2 := (keepC _ d5).2
          unfold catOV at c1
          push_cast -dsimp [c1, c2]
          refine ⟨fun w'' h => by rw [h.1]; exact rfl, fun w'' h => by rw [h.2]; exact rfl, ?_⟩
          -- 1 (-1): bounds; z5: world, d5: Below wL z5; z6: new world; d6: Below wL z6; m6: the pattern's block; hM6: what it is
          refine callK_of (manyO_c c.after 1 (-1) _ x2 z5 (hVL.below d5) (keepC _ d5).2) ?_
          rintro r z6 ⟨hM6, kz6⟩
          have d6 : Below wL.heap.size wL z6 := (d5).trans (kz6.mono (d5).size)
          obtain ⟨m6, rfl, _, _⟩ := (hM6).ptr
          refine ⟨keepC _ d6, ?_⟩
          push_cast -dsimp
          -- 0 (-1): bounds; z6: world, d6: Below wL z6; z7: new world; d7': Below wL z7; m7: the pattern's block; hM7: what it is
          refine callK_of (manyO_c c.after 0 (-1) _ x2 z6 (hVL.below d6) (keepC _ d6).2) ?_
          rintro r z7 ⟨hM7, kz7⟩
          have d7' : Below wL.heap.size wL z7 := (d6).trans (kz7.mono (d6).size)
          obtain ⟨m7, rfl, _, _⟩ := (hM7).ptr
          refine ⟨keepC _ d7', ?_⟩
          push_cast -dsimp
          -- z7: world, d7': Below wL z7; z8: new world; d8: Below wL z8
          refine rowK elI_37 rfl rfl (by omega) ?_
          intro z8 nz8
          have sz8 := nz8.size
          have d8 : Below wL.heap.size wL z8 := (d7').trans (nz8.below.mono (d7').size)
          refine ⟨keepC _ d8, ?_⟩
          push_cast -dsimp
          -- cat: cat or alt; [.many c.after 0 (-1), c.after]: the patterns; z8: world, d8: Below wL z8; z9: new world; d9: Below wL z9; c9: the pattern's block; hC9: what it is; (rowP nz8) (pats_two (hM7.below nz8.below) (hVL.below d8)): its slice and its patterns
          refine callK_of (catO_c [.many c.after 0 (-1), c.after] _ _ z8 (rowP nz8) (pats_two (hM7.below nz8.below) (hVL.below d8))) ?_
          rintro r z9 ⟨hC9, kz9⟩
          have d9 : Below wL.heap.size wL z9 := (d8).trans (kz9.mono (d8).size)
          obtain ⟨c9, rfl, _, _⟩ := (hC9).ptr
          refine ⟨keepC _ d9, ?_⟩
          push_cast -dsimp
          -- q4: which law; z9: world, d9: Below wL z9; za: new world; da: Below wL za; (((hM6.below kz7).below nz8.below).below kz9) hC9: the two patterns lie there
          refine callK_of (q4 z9 _ _ d9 (((hM6.below kz7).below nz8.below).below kz9) hC9) ?_
          rintro _ za ⟨rfl, kza⟩
          have da : Below wL.heap.size wL za := (d9).trans (kza.mono (d9).size)
          refine ⟨keepC _ da, ?_⟩
          have c1 := (keepC _ da).1
          have c2 := (keepC _ da).2
          unfold catOV at c1
          push_cast -dsimp [c1, c2]
          refine ⟨fun w'' h => by rw [h.1]; exact rfl, fun w'' h => by rw [h.2]; exact rfl, ?_⟩
          -- 1 3: bounds; za: world, da: Below wL za; zb: new world; db: Below wL zb; m8: the pattern's block; hM8: what it is
          refine callK_of (manyO_c c.after 1 3 _ x2 za (hVL.below da) (keepC _ da).2) ?_
          rintro r zb ⟨hM8, kzb⟩
          have db : Below wL.heap.size wL zb := (da).trans (kzb.mono (da).size)
          obtain ⟨m8, rfl, _, _⟩ := (hM8).ptr
          refine ⟨keepC _ db, ?_⟩
          push_cast -dsimp
          -- 0 2: bounds; zb: world, db: Below wL zb; zc: new world; dc: Below wL zc; m9: the pattern's block; hM9: what it is
          refine callK_of (manyO_c c.after 0 2 _ x2 zb (hVL.below db) (keepC _ db).2) ?_
          rintro r zc ⟨hM9, kzc⟩
          have dc : Below wL.heap.size wL zc := (db).trans (kzc.mono (db).size)
          obtain ⟨m9, rfl, _, _⟩ := (hM9).ptr
          refine ⟨keepC _ dc, ?_⟩
          push_cast -dsimp
          -- zc: world, dc: Below wL zc; zd': new world; dd: Below wL zd'
          refine rowK elI_37 rfl rfl (by omega) ?_
          intro zd' nzd'
          have szd' := nzd'.size
          have dd : Below wL.heap.size wL zd' := (dc).trans (nzd'.below.mono (dc).size)
          refine ⟨keepC _ dd, ?_⟩
          push_cast -dsimp
          -- cat: cat or alt; [c.after, .many c.after 0 2]: the patterns; zd': world, dd: Below wL zd'; ze': new world; de: Below wL ze'; ca: the pattern's block; hCa: what it is; (rowP nzd') (pats_two (hVL.below dd) (hM9.below nzd'.below)): its slice and its patterns
          refine callK_of (catO_c [c.after, .many c.after 0 2] _ _ zd' (rowP nzd') (pats_two (hVL.below dd) (hM9.below nzd'.below))) ?_
          rintro r ze' ⟨hCa, kze'⟩
          have de : Below wL.heap.size wL ze' := (dd).trans (kze'.mono (dd).size)
          obtain ⟨ca, rfl, _, _⟩ := (hCa).ptr
          refine ⟨keepC _ de, ?_⟩
          push_cast -dsimp
          -- q5: which law; ze': world, de: Below wL ze'; zf': new world; df: Below wL zf'; (((hM8.below kzc).below nzd'.below).below kze') hCa: the two patterns lie there
          refine callK_of (q5 ze' _ _ de (((hM8.below kzc).below nzd'.below).below kze') hCa) ?_
          rintro _ zf' ⟨rfl, kzf'⟩
          have df : Below wL.heap.size wL zf' := (de).trans (kzf'.mono (de).size)
          refine ⟨keepC _ df, ?_⟩
          have c1 := (keepC _ df).1
          have c2 := (keepC _ df).2
          unfold catOV at c1
          push_cast -dsimp [c1, c2]
          exact ⟨⟨by omega, by omega⟩, ⟨k + 1, rfl, by omega, hbJL.trans (df.mono (by have := hbJL.size; omega))⟩, by rw [h62]; simp only [intOf]; omega⟩
end Go.Proofs.YtledlfbbebodgaaGreatDoor
end
