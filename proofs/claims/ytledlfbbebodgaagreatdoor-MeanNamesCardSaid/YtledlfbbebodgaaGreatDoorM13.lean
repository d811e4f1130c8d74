/- Texts of this claim, merged: Bare, Pmean6, MnC, MnD, Bf, Nms2. -/
import Derived.Test.YtledlfbbebodgaaGreatDoorM10
import Derived.Test.YtledlfbbebodgaaGreatDoorM12
import Derived.Test.YtledlfbbebodgaaGreatDoorM7
import Derived.Test.YtledlfbbebodgaaGreatDoorM4
import Derived.Test.YtledlfbbebodgaaGreatDoorM5
import Derived.Test.YtledlfbbebodgaaGreatDoorM11
section
namespace Go.Proofs.YtledlfbbebodgaaGreatDoor
open Go.Vc Go.Proofs Go.RowKit Cae
set_option maxRecDepth 100000
set_option linter.unusedSimpArgs false
set_option linter.unusedVariables false
attribute [local irreducible] wpL callK valK unitK runK Fun Sl Vc.Own vc vcOps opK pureK
set_option maxHeartbeats 8000000
/-- The cells of a pattern, its parts, and what a pattern without names is. -/
def PatCelB (X:Nat→Prop) (w:World) (v:Value) (x:PatP) (b:Nat) (code lo hi:Int) (ka:Option Addr) (sv:Value) (vs:List Nat):Prop :=
 v=.pointer (some ⟨b,0,none⟩)∧¬ X b∧Blk w b 39 [.int .i64 code,.pointer ka,sv,.int .i64 lo,.int .i64 hi]∧Sl X 1 (En encP) w sv vs∧PatsV X w vs (subsP x) ∧
 (code=1→∃ k,x=.one k∧KindV X w (.pointer ka) k∧lo=0∧hi=0) ∧
 (code≠1→∀ (S:KindP→List Rg) (X':Nat→Prop) (w':World) (b':Nat) (ov:Value) (us:List Nat),¬ X' b'→Blk w' b' 39 [.int .i64 code,.pointer none,ov,.int .i64 lo,.int .i64 hi]→Sl X' 1 (En encP) w' ov us→PatsV X' w' us ((subsP x).map (bareP S))→(subsP x=[]→ov=.slice none 0 0)→PatV X' w' (.pointer (some ⟨b',0,none⟩)) (bareP S x))
theorem PatV.partsB {X:Nat→Prop} {w:World} {v:Value} {x:PatP} (h:PatV X w v x):∃ b code lo hi ka sv vs,PatCelB X w v x b code lo hi ka sv vs:=by
 cases x with
 | one k =>
  simp only [PatV] at h
  obtain ⟨b,u,hv,hb,hB,hk⟩:=h
  obtain ⟨kb,rfl,hkb⟩:=hk.ptr
  exact ⟨b,_,_,_,_,_,[],hv,hb,hB,Sl.nil _ _ _ _ _ _,by simp only [subsP,PatsV],fun _=>⟨k,rfl,hk,rfl,rfl⟩,fun h=>absurd rfl h⟩
 | any =>
  simp only [PatV] at h
  obtain ⟨b,hv,hb,hB⟩:=h
  refine ⟨b,_,_,_,_,_,[],hv,hb,hB,Sl.nil _ _ _ _ _ _,by simp only [subsP,PatsV],fun h=>by simp at h,fun _ S X' w' b' ov us hb' hB' _ _ hov=>?_⟩
  rw [hov rfl] at hB'
  simp only [bareP,PatV]
  exact ⟨b',rfl,hb',hB'⟩
 | edge =>
  simp only [PatV] at h
  obtain ⟨b,hv,hb,hB⟩:=h
  refine ⟨b,_,_,_,_,_,[],hv,hb,hB,Sl.nil _ _ _ _ _ _,by simp only [subsP,PatsV],fun h=>by simp at h,fun _ S X' w' b' ov us hb' hB' _ _ hov=>?_⟩
  rw [hov rfl] at hB'
  simp only [bareP,PatV]
  exact ⟨b',rfl,hb',hB'⟩
 | cat l =>
  simp only [PatV] at h
  obtain ⟨b,sv,vs,hv,hb,hB,hs,hl⟩:=h
  refine ⟨b,_,_,_,_,_,vs,hv,hb,hB,hs,hl,fun h=>by simp at h,fun _ S X' w' b' ov us hb' hB' hs' hu _=>?_⟩
  simp only [bareP,PatV]
  simp only [subsP,←bareL_map] at hu
  exact ⟨b',ov,us,rfl,hb',hB',hs',hu⟩
 | alt l =>
  simp only [PatV] at h
  obtain ⟨b,sv,vs,hv,hb,hB,hs,hl⟩:=h
  refine ⟨b,_,_,_,_,_,vs,hv,hb,hB,hs,hl,fun h=>by simp at h,fun _ S X' w' b' ov us hb' hB' hs' hu _=>?_⟩
  simp only [bareP,PatV]
  simp only [subsP,←bareL_map] at hu
  exact ⟨b',ov,us,rfl,hb',hB',hs',hu⟩
 | many y lo hi =>
  simp only [PatV] at h
  obtain ⟨b,sv,u,hv,hb,hB,hs,hl⟩:=h
  refine ⟨b,_,_,_,_,_,[u],hv,hb,hB,hs,by simp only [subsP,PatsV];exact ⟨hl,trivial⟩,fun h=>by simp at h,fun _ S X' w' b' ov us hb' hB' hs' hu _=>?_⟩
  simp only [bareP,PatV]
  simp only [subsP,List.map_cons,List.map_nil] at hu
  match us,hu with
  | [u'],hu =>
   simp only [PatsV] at hu
   exact ⟨b',ov,u',rfl,hb',hB',hs',hu.1⟩
  | [],hu=>simp only [PatsV] at hu
  | _ :: _ :: _,hu=>simp only [PatsV] at hu;exact hu.2.elim
theorem NamV.topB {X:Nat→Prop} {w:World} {b:Nat} {nm:NamesP} (h:NamV X w b nm):NamV (fun b=>X b∨w.heap.size≤b) w b nm:=by
 obtain ⟨kvs,h2,h3⟩:=h
 exact ⟨kvs,h2,h3.imp fun a b h=>⟨h.1,Sl.top (by decide) h.2.1,h.2.2⟩⟩
theorem sub_ok {x y:PatP} (hok:PatOk x) (h:y∈subsP x):PatOk y:=by
 cases x with
 | one k=>cases h
 | any=>cases h
 | edge=>cases h
 | cat l=>simp only [PatOk] at hok;exact patsOk_mem hok h
 | alt l=>simp only [PatOk] at hok;exact patsOk_mem hok h
 | many x lo hi=>obtain rfl:=List.mem_singleton.1 h;simp only [PatOk] at hok;exact hok.1
theorem sub_pat {nm:NamesP} {x y:PatP} (hp:patS nm x=none) (h:y∈subsP x):patS nm y=none:=by
 cases x with
 | one k=>cases h
 | any=>cases h
 | edge=>cases h
 | cat l=>rw [patS] at hp;exact patsS_none.1 hp y h
 | alt l=>rw [patS] at hp;exact patsS_none.1 hp y h
 | many x lo hi=>obtain rfl:=List.mem_singleton.1 h;rw [patS] at hp;exact hp
/-- The closure 'bare' as a value. -/
def bareV (cb bb:Nat):Value:=.func (.func 11) #[] #[.pointer (some ⟨cb,0,none⟩),.pointer (some ⟨bb,0,none⟩)]
/-- A pattern without names is made. -/
def BareC (nm:NamesP) (mb cb bb:Nat) (x:PatP):Prop:=PatOk x→wd x≤100000→patS nm x=none→RightN nm→∀ (X:Nat→Prop) (v:Value) (w:World),PatV X w v x→NamV X w mb nm→w.cell? ⟨cb,0,none⟩=some (.map (some mb))→w.cell? ⟨bb,0,none⟩=some (bareV cb bb)→Fun Tryz.prog 11 [v,.pointer (some ⟨cb,0,none⟩),.pointer (some ⟨bb,0,none⟩)] w fun r w'=>PatV (fun b=>X b∧b<w.heap.size) w' r (bareP (setK nm) x)∧Below w.heap.size w w'
theorem bare_of (nm:NamesP) (mb cb bb:Nat) (x:PatP) (hall:∀ y∈subsP x,BareC nm mb cb bb y):BareC nm mb cb bb x:=by
 intro hok hpn hpat hrn X v w hV hN hcm hcb
 have hP0:=hV.top.partsB
 obtain ⟨xb,code,lo,hi,ka,sv,vs,rfl,hnX,hB,hs,hP,h1,hend⟩:=hP0
 have hsh:=hs.shape
 obtain ⟨sa,sc,rfl,hsc⟩:=hsh
 have hvl:=hP.len
 have hsl:=subs_len x
 have hxb:=hB.lt
 refine fun_of_vc Tryz.func11 rfl (by kernel_rfl) [4] rfl ?_
 simp -dsimp (maxSteps:=4000000) only [push_cast,fr0,Tryz.ntmps11,List.length_cons,List.length_nil,Nat.reduceAdd,Nat.reduceSub,Nat.reduceBEq,List.replicate_succ,List.replicate_zero]
 have f0:w.drew.cell? ⟨xb,0,none⟩=some (.int .i64 code):=hB.cell rfl
 have f3:w.drew.cell? ⟨xb,3,none⟩=some (.int .i64 lo):=hB.cell rfl
 have f4:w.drew.cell? ⟨xb,4,none⟩=some (.int .i64 hi):=hB.cell rfl
 refine wpL_drawN (fun w'=>Blk w' xb 39 [.int .i64 code,.pointer ka,.slice sa vs.length sc,.int .i64 lo,.int .i64 hi]) mixed (by kernel_rfl) hB.drew ?_
 push_cast -dsimp [f0,f3,f4]
 refine ⟨fun w'' h=>by rw [h.cell (o:=0) rfl];exact rfl,fun w'' h=>by rw [h.cell (o:=3) rfl];exact rfl,fun w'' h=>by rw [h.cell (o:=4) rfl];exact rfl,?_⟩
 refine boxK_of ?_
 intro w1 hw1
 have hw1:New w.drew w1 39 [.int .i64 code,.pointer none,.slice none 0 0,.int .i64 lo,.int .i64 hi]:=hw1
 have z1:w1.heap.size=w.heap.size+1:=hw1.size
 have hb1:Below w.heap.size w w1:=(below_drew w).trans (hw1.below.mono (Nat.le_refl _))
 have Y1:Blk w1 w.heap.size 39 [.int .i64 code,.pointer none,.slice none 0 0,.int .i64 lo,.int .i64 hi]:=hw1.blk
 have B1:=hB.below hb1 hB.lt
 refine ⟨B1,?_⟩
 have g0:w1.cell? ⟨xb,0,none⟩=some (.int .i64 code):=B1.cell rfl
 push_cast -dsimp [g0]
 have cm1:w1.cell? ⟨cb,0,none⟩=some (.map (some mb)):=(hb1.cell (World.block_lt_of_cell? w _ hcm)).trans hcm
 refine ⟨fun hc=>?_,fun hc=>?_⟩
 ·obtain ⟨k,rfl,hk,rfl,rfl⟩:=h1 hc
  simp only [PatOk] at hok
  rw [patS] at hpat
  have hks:∃ s,kindS nm k=.ok s:=by
   cases hk:kindS nm k with
   | error e=>rw [hk] at hpat;cases hpat
   | ok s=>exact ⟨s,rfl⟩
  obtain ⟨s,hks⟩:=hks
  have hsr:=kindS_right hrn hok hks
  have hsK:setK nm k=s:=by unfold setK;rw [hks]
  have hsl':=right_len hsr
  refine wpL_drawN (fun w'=>Blk w' xb 39 [.int .i64 code,.pointer ka,.slice sa vs.length sc,.int .i64 0,.int .i64 0]∧w'.cell? ⟨cb,0,none⟩=some (.map (some mb))) mixed (by kernel_rfl) ⟨B1.drew,cm1⟩ ?_
  have e1:w1.drew.cell? ⟨xb,1,none⟩=some (.pointer ka):=B1.drew.cell rfl
  have e2:w1.drew.cell? ⟨cb,0,none⟩=some (.map (some mb)):=cm1
  push_cast -dsimp [e1,e2]
  refine ⟨fun w'' h=>by rw [h.1.cell (o:=1) rfl];exact rfl,fun w'' h=>by rw [h.2];exact rfl,?_⟩
  have hb1d:Below w.heap.size w w1.drew:=hb1.trans ((below_drew w1).mono (by omega))
  refine callK_of (ckind_c k hok nm hrn _ _ mb w1.drew (hk.below hb1d) (hN.topB.below hb1d)) ?_
  rintro r w2 ⟨hR,hb2⟩
  unfold KindRes at hR
  rw [hks] at hR
  obtain ⟨sv,rfl,hS,hA⟩:=hR
  have z2:w1.heap.size≤w2.heap.size:=hb2.size
  have hb12:Below w1.heap.size w1 w2:=(below_drew w1).trans (hb2.mono (Nat.le_refl _))
  have B2:=B1.below hb12 B1.lt
  have cm2:w2.cell? ⟨cb,0,none⟩=some (.map (some mb)):=(hb12.cell (World.block_lt_of_cell? w1 _ cm1)).trans cm1
  refine ⟨⟨B2,cm2⟩,?_⟩
  have hsh2:=hS.shape
  obtain ⟨ka2,kc2,rfl,_⟩:=hsh2
  push_cast -dsimp
  refine callK_of (setRight_c s (by omega) _ _ w2 hS) ?_
  rintro _ w3 ⟨rfl,hb3⟩
  rw [hsr]
  have z3:=hb3.size
  have hb13:=hb12.trans (hb3.mono z2)
  have hY3:Blk w3 w.heap.size 39 [.int .i64 code,.pointer none,.slice none 0 0,.int .i64 0,.int .i64 0]:=Y1.below hb13 Y1.lt
  push_cast -dsimp
  refine boxK_of ?_
  intro w4 hw4
  have hw4:New w3 w4 48 [.int .i64 1,.int .i64 0,.slice ka2 s.length kc2,str [],.pointer none,.pointer none]:=hw4
  have z4:=hw4.size
  have hb14:=hb13.trans (hw4.below.mono (by omega))
  have hY4:=hY3.below hw4.below (by omega)
  push_cast -dsimp
  refine storeK_of hY4 (by simp) rfl ?_
  intro w5 hw5
  have z5:=hw5.size
  have hY5:Blk w5 w.heap.size 39 [.int .i64 code,.pointer (some ⟨w3.heap.size,0,none⟩),.slice none 0 0,.int .i64 0,.int .i64 0]:=hw5.blk
  have hK5:Blk w5 w3.heap.size 48 [.int .i64 1,.int .i64 0,.slice ka2 s.length kc2,str [],.pointer none,.pointer none]:=hw4.blk.kept hw5.kept (fun h=>by have h':w3.heap.size=w.heap.size:=h;omega)
  have hbw5:Below w.heap.size w w5:=hb1.trans ((hb14.mono (by omega)).trans (hw5.kept.below (by omega) (fun j h=>by have h':j=w.heap.size:=h;omega)))
  have hS3:=(hS.below hb3).below hw4.below
  have hS5:Sl (fun b=>X b∧b<w.heap.size) 2 (En encR) w5 (.slice ka2 s.length kc2) s:=by
   have hS4:Sl (fun b=>(X b∧b<w.heap.size)∨b=w.heap.size) 2 (En encR) w4 (.slice ka2 s.length kc2) s:=hS3.weaken (fun b h=>by
    rcases h with h | h
    ·exact ⟨.inl h.1,by show b<w1.heap.size;omega⟩
    ·exact ⟨.inr (by omega),by show b<w1.heap.size;omega⟩)
   exact (hS4.kept hw5.kept (fun j h=>.inr h)).weaken (fun _ h=>.inl h)
  have hv0:vs.length=0:=hvl
  have B5:Blk w5 xb 39 [.int .i64 code,.pointer ka,.slice sa vs.length sc,.int .i64 0,.int .i64 0]:=((B1.below hb14 B1.lt)).kept hw5.kept (fun h=>by have h':xb=w.heap.size:=h;omega)
  have g5:w5.cell? ⟨xb,2,none⟩=some (.slice sa vs.length sc):=B5.cell rfl
  push_cast -dsimp
  refine wpL_loop [8,52,53,54,55,56,57,58,59,60,61,62,63,64,65,66,67,68,69,70,71,72,73,74,75,76,77,78] (fun z wx=>z 8=.int .i64 0∧wx=w5) (fun z _=>0) ?_ ?_
  ·exact ⟨rfl,rfl⟩
  ·rintro z wx ⟨h8,rfl⟩
   push_cast -dsimp [h8,g5]
   refine ⟨fun hlt=>absurd hlt (by omega),fun _=>⟨?_,hbw5⟩⟩
   simp only [bareP,PatV,KindV]
   rw [hsK]
   obtain rfl:code=1:=hc
   exact ⟨_,_,rfl,fun h=>Nat.lt_irrefl _ h.2,hY5,_,_,rfl,fun h=>by have:=h.2;omega,hK5,hS5,hA⟩
 ·have hend:=hend hc
  refine wpL_loop [8,52,53,54,55,56,57,58,59,60,61,62,63,64,65,66,67,68,69,70,71,72,73,74,75,76,77,78] (fun z wx=>∃ (i:Nat) (ov:Value) (us:List Nat),z 8=.int .i64 i∧i≤vs.length∧Blk wx w.heap.size 39 [.int .i64 code,.pointer none,ov,.int .i64 lo,.int .i64 hi]∧Vc.Own w1.heap.size 35 1 encP wx ov us∧PatsV (fun b=>b=w.heap.size∨ov.ownBlock=some b∨(X b∧b<w.heap.size)) wx us (((subsP x).take i).map (bareP (setK nm)))∧Below w.heap.size w wx∧w1.heap.size≤wx.heap.size∧(i=0→ov=.slice none 0 0)) (fun z _=>vs.length - (intOf (z 8)).toNat) ?_ ?_
  ·exact ⟨0,_,[],rfl,Nat.zero_le _,Y1,Vc.Own.nil (enc:=encP) _ _ (fun _=>rfl) _,by simp only [List.take_zero,List.map_nil,PatsV],hb1,Nat.le_refl _,fun _=>rfl⟩
  ·intro z wx hI
   obtain ⟨i,ov,us,h8,hi',hY,hO,hU,hbx,zx,hov⟩:=hI
   have hBx:=hB.below hbx hB.lt
   have g2:wx.cell? ⟨xb,2,none⟩=some (.slice sa vs.length sc):=hBx.cell rfl
   push_cast -dsimp [h8,g2]
   refine ⟨fun hlt=>?_,fun hge=>?_⟩
   ·obtain ⟨y,hy,hym,_,ht⟩:=lt_get (l:=subsP x) (i:=i) (by omega)
    obtain ⟨u,hu,hVy⟩:=hP.nth hy
    have hVy:=hVy.below hbx
    obtain ⟨b1,o,rfl,hnb,hcell⟩:=(hs.below hbx).get hu
    have c0:wx.drew.cell? ⟨b1,o+i,none⟩=some (.pointer (some ⟨u,0,none⟩)):=by simpa [encP,ptrP] using hcell 0 _ rfl
    have hb1l:b1<w.heap.size:=by have h:=hs.get hu;obtain ⟨b1',o',e,_,hc'⟩:=h;cases e;exact World.block_lt_of_cell? w ⟨b1,o+i*1+0,none⟩ (hc' 0 _ rfl)
    have cbx:wx.drew.cell? ⟨bb,0,none⟩=some (bareV cb bb):=(hbx.cell (World.block_lt_of_cell? w _ hcb)).trans hcb
    have cmx:wx.cell? ⟨cb,0,none⟩=some (.map (some mb)):=(hbx.cell (World.block_lt_of_cell? w _ hcm)).trans hcm
    refine wpL_lastN (fun w'=>Blk w' w.heap.size 39 [.int .i64 code,.pointer none,ov,.int .i64 lo,.int .i64 hi]∧Blk w' xb 39 [.int .i64 code,.pointer ka,.slice (some ⟨b1,o,none⟩) vs.length sc,.int .i64 lo,.int .i64 hi]∧w'.cell? ⟨b1,o+i,none⟩=some (.pointer (some ⟨u,0,none⟩))∧w'.cell? ⟨bb,0,none⟩=some (bareV cb bb)) mixed (by kernel_rfl) (by simp) ⟨hY.drew,hBx.drew,c0,cbx⟩ ?_
    have d2:wx.drew.cell? ⟨w.drew.heap.size,2,none⟩=some ov:=hY.drew.cell rfl
    have e2:wx.drew.cell? ⟨xb,2,none⟩=some (.slice (some ⟨b1,o,none⟩) vs.length sc):=g2
    have hob:=hO.block
    obtain ⟨oa,oc,rfl⟩:=hO.slice
    unfold bareV at cbx
    push_cast -dsimp [d2,e2,c0,cbx]
    refine ⟨fun w'' h=>by have e:w''.cell? ⟨w.drew.heap.size,2,none⟩=some _:=h.1.cell (o:=2) rfl;rw [e];exact rfl,fun w'' h=>by rw [h.2.2.2];exact rfl,fun w'' h=>by rw [h.2.1.cell (o:=2) rfl];exact rfl,⟨by omega,by omega⟩,fun w'' h=>by rw [h.2.2.1];exact rfl,?_⟩
    have hbd:=below_drew wx
    have hyn:wd y≤100000:=by have:=wd_sub hym;omega
    refine callK_of (hall y hym (sub_ok hok hym) hyn (sub_pat hpat hym) hrn _ _ wx.drew (hVy.below hbd) (hN.topB.below (hbx.trans (hbd.mono (by omega)))) cmx cbx) ?_
    rintro r w2 ⟨hR,hb2⟩
    have hbx2:Below wx.heap.size wx w2:=hbd.trans (hb2.mono (Nat.le_refl _))
    have z2:=hbx2.size
    have hY2:=hY.below hbx2 hY.lt
    have hB2:=hBx.below hbx2 hBx.lt
    have c2:w2.cell? ⟨b1,o+i,none⟩=some (.pointer (some ⟨u,0,none⟩)):=(hbx2.cell (by show b1<_;omega)).trans c0
    have cb2:w2.cell? ⟨bb,0,none⟩=some (bareV cb bb):=(hbx2.cell (World.block_lt_of_cell? wx _ cbx)).trans cbx
    refine ⟨⟨hY2,hB2,c2,cb2⟩,?_⟩
    obtain ⟨rb,rfl,hrb,hrn⟩:=hR.ptr
    push_cast -dsimp
    refine rowK elI_37 rfl rfl (by omega) ?_
    intro w3 hw3
    have z3:=hw3.size
    have hbx3:=hbx2.trans (hw3.below.mono z2)
    have hY3:=hY.below hbx3 hY.lt
    refine ⟨⟨hY3,hBx.below hbx3 hBx.lt,(hbx3.cell (by show b1<_;omega)).trans c0,(hbx3.cell (World.block_lt_of_cell? wx _ cbx)).trans cbx⟩,?_⟩
    have hO3:=hO.below hbx3
    push_cast -dsimp
    refine appendK2 (base:=w1.heap.size) [rb] (enc:=encP) elI_37 hO3 (by rfl) (fun j u hu=>by rw [Nat.zero_add];exact hw3.cell hu) encP_one (by have:=hU.len;simp only [List.length_cons,List.length_nil,List.length_map,List.length_take] at this ⊢;omega) (by omega) ?_
    intro v4 w4 hO4 hg4 hn4
    have hk34:Kept (fun j=>(Value.slice oa us.length oc).ownBlock=some j) w3 w4:=Kept.grown hg4 (fun _ h=>h)
    have z4:=hk34.size
    have hY4:=hY3.kept hk34 (fun h=>by have:=hob _ h;omega)
    have hB4:=(hBx.below hbx3 hBx.lt).kept hk34 (fun h=>by have:=hob _ h;omega)
    have c4:w4.cell? ⟨b1,o+i,none⟩=some (.pointer (some ⟨u,0,none⟩)):=hk34.cell ((hbx3.cell (by show b1<_;omega)).trans c0) (fun h=>by have:=hob b1 h;omega)
    have hbl:bb<w.heap.size:=World.block_lt_of_cell? w _ hcb
    have cb4:w4.cell? ⟨bb,0,none⟩=some (bareV cb bb):=hk34.cell ((hbx3.cell (World.block_lt_of_cell? wx _ cbx)).trans cbx) (fun h=>by have:=hob bb h;omega)
    refine ⟨⟨hY4,hB4,c4,cb4⟩,?_⟩
    have hob4:=hO4.block
    obtain ⟨qa,qc,rfl⟩:=hO4.slice
    push_cast -dsimp
    refine storeK_of hY4 (by simp) rfl ?_
    intro w5 hw5
    have z5:=hw5.size
    have hY5:Blk w5 w.heap.size 39 [.int .i64 code,.pointer none,.slice qa (us++[rb]).length qc,.int .i64 lo,.int .i64 hi]:=hw5.blk
    have hO5:=hO4.keptX hw5.kept (fun g hg h=>by have:=hob4 g hg;have h':g=w.heap.size:=h;omega)
    have hnew:∀ g,(Value.slice qa (us++[rb]).length qc).ownBlock=some g→(Value.slice oa us.length oc).ownBlock=some g∨w3.heap.size≤g:=hn4
    have hU3:=(hU.top.below hbx3)
    have hU4:PatsV (fun b=>b=w.heap.size∨(Value.slice qa (us++[rb]).length qc).ownBlock=some b∨(X b∧b<w.heap.size)) w4 us (((subsP x).take i).map (bareP (setK nm))):=PatsV.mono hk34 (fun j h=>.inl (.inr (.inl h))) (fun b h=>by
     rcases h with h | h | h
     ·exact .inl (.inl h)
     ·rcases hnew b h with h | h
      ·exact .inl (.inr (.inl h))
      ·exact .inr (by omega)
     ·exact .inl (.inr (.inr h))) hU3
    have hR3:=(hR.top.below hw3.below)
    have hR4:PatV (fun b=>b=w.heap.size∨(Value.slice qa (us++[rb]).length qc).ownBlock=some b∨(X b∧b<w.heap.size)) w4 (ptrP rb) (bareP (setK nm) y):=PatV.mono hk34 (fun j h=>by
      have:=hob j h
      exact .inl ⟨.inr (by omega),by show j<wx.heap.size;omega⟩) (fun b h=>by
     rcases h with h | h | h
     ·exact .inl ⟨.inr (by omega),by show b<wx.heap.size;omega⟩
     ·rcases hnew b h with h | h
      ·have:=hob b h
       exact .inl ⟨.inr (by omega),by show b<wx.heap.size;omega⟩
      ·exact .inr (by omega)
     ·exact .inl ⟨.inl h.1,by show b<wx.heap.size;omega⟩) hR3
    have hbw4:Below w.heap.size w w4:=hbx.trans ((hbx3.mono (by omega)).trans (hk34.below (by omega) (fun j h=>by have:=hob j h;omega)))
    have hbw5:Below w.heap.size w w5:=hbw4.trans (hw5.kept.below (by omega) (fun j h=>by have h':j=w.heap.size:=h;omega))
    have hls:((subsP x).take (i+1)).map (bareP (setK nm))=((subsP x).take i).map (bareP (setK nm))++[bareP (setK nm) y]:=by rw [ht,List.map_append];rfl
    have hX5:∀ j,j=w.drew.heap.size→j=w.heap.size∨(Value.slice qa (us++[rb]).length qc).ownBlock=some j∨(X j∧j<w.heap.size):=fun j h=>.inl h
    have hU5:=PatsV.snoc (PatsV.mono hw5.kept hX5 (fun _ h=>h) hU4) (PatV.mono hw5.kept hX5 (fun _ h=>h) hR4)
    rw [←hls] at hU5
    push_cast -dsimp
    exact ⟨⟨by omega,by omega⟩,⟨i+1,_,_,rfl,by omega,hY5,hO5,hU5,hbw5,by omega,fun h=>by omega⟩,by rw [h8];simp only [intOf];omega⟩
   ·rw [List.take_of_length_le (by omega)] at hU
    have hul:=hU.len
    refine ⟨hend (setK nm) (fun b=>X b∧b<w.heap.size) wx _ _ us (fun h=>Nat.lt_irrefl _ h.2) hY (hO.sl.weaken (fun b h=>by have:=h.2;omega)) (PatsV.mono (Kept.refl (fun _=>False) _) (fun _ h=>h.elim) (fun b h=>.inr (.inr h)) hU) (fun h0=>?_),hbx⟩
    rw [h0] at hvl
    have hi0:i=0:=by have h3:([]:List PatP).length=0:=rfl;omega
    exact hov hi0
mutual
theorem bare_c {nm:NamesP} {mb cb bb:Nat}:∀ x,BareC nm mb cb bb x
 | .one k=>bare_of _ _ _ _ _ (fun y h=>by cases h)
 | .any=>bare_of _ _ _ _ _ (fun y h=>by cases h)
 | .edge=>bare_of _ _ _ _ _ (fun y h=>by cases h)
 | .cat l=>bare_of _ _ _ _ _ (bares_c l)
 | .alt l=>bare_of _ _ _ _ _ (bares_c l)
 | .many x lo hi=>bare_of _ _ _ _ _ (fun y h=>by
  have h1:=bare_c (nm:=nm) (mb:=mb) (cb:=cb) (bb:=bb) x
  obtain rfl:=List.mem_singleton.1 h
  exact h1)
theorem bares_c {nm:NamesP} {mb cb bb:Nat}:∀ (l:List PatP) (x:PatP),x∈l→BareC nm mb cb bb x
 | [],x,h=>by cases h
 | y :: l,x,h=>by
  have hy:=bare_c (nm:=nm) (mb:=mb) (cb:=cb) (bb:=bb) y
  rcases List.mem_cons.1 h with h | h
  ·rw [h];exact hy
  ·exact bares_c l x h
end
end Go.Proofs.YtledlfbbebodgaaGreatDoor
end
section
namespace Cae
open Go.Proofs.YtledlfbbebodgaaGreatDoor
/-! The program's own three files, read. -/
def factC:List UInt8:=[99,108,97,115,115,32,97,32,61,32,91,54,49,93,59,32,99,108,97,115,115,32,98,32,61,32,97,32,124,32,91,54,50,93,59,32,107,101,101,112,32,98,58,59]
def factD:List UInt8:=[107,101,101,112,32,98,58,59]
def factE:List UInt8:=[99,108,97,115,115,32,97,32,61,32,91,54,49,45,55,97,93,59,32,107,101,101,112,32,97,58,32,97,59,32,98,114,101,97,107,58,59]
def factT:List UInt8:=[97,98,32,99,100]
def fileC:FileP:=⟨[⟨[97],0,(.lit 10 [(97,97)])⟩,⟨[98],16,(.bin 3 26 (.ref 26 [97]) (.lit 30 [(98,98)]))⟩],[⟨36,false,(.one (.ref 41 [98])),(.cat [])⟩],true⟩
def fileD:FileP:=⟨[],[⟨0,false,(.one (.ref 5 [98])),(.cat [])⟩],true⟩
def fileE:FileP:=⟨[⟨[97],0,(.lit 10 [(97,122)])⟩],[⟨19,false,(.one (.ref 24 [97])),(.one (.ref 27 [97]))⟩,⟨30,true,(.cat []),(.cat [])⟩],true⟩
theorem parse_C:parseR factC=.ok fileC:=by kernel_rfl
theorem parse_D:parseR factD=.ok fileD:=by kernel_rfl
theorem parse_E:parseR factE=.ok fileE:=by kernel_rfl
theorem chk_D:chkS fileD=some (7,5):=by kernel_rfl
theorem chk_E:chkS fileE=none:=by kernel_rfl
def namesC:NamesP:=[([97],[(97,97)]),([98],[(97,98)])]
def namesE:NamesP:=[([97],[(97,122)])]
theorem or_C:setOr [(97,97)] [(98,98)]=[(97,98)]:=by
 unfold setOr setOf
 rw [List.mergeSort_of_pairwise (by decide)]
 kernel_rfl
theorem names_C:namesS [] fileC.classes=.ok namesC:=by
 show namesS [] (⟨[97],0,(.lit 10 [(97,97)])⟩ :: ⟨[98],16,(.bin 3 26 (.ref 26 [97]) (.lit 30 [(98,98)]))⟩ :: [])=_
 have e1:kindS [] (.lit 10 [(97,97)])=.ok [(97,97)]:=by kernel_rfl
 have e2:kindS [([97],[(97,97)])] (.bin 3 26 (.ref 26 [97]) (.lit 30 [(98,98)]))=.ok [(97,98)]:=by
  have e3:kindS [([97],[(97,97)])] (.ref 26 [97])=.ok [(97,97)]:=by kernel_rfl
  have e4:kindS [([97],[(97,97)])] (.lit 30 [(98,98)])=.ok [(98,98)]:=by kernel_rfl
  rw [kindS,e3,e4]
  dsimp only
  rw [if_pos rfl,or_C]
 rw [names_step,if_neg (by decide),e1]
 dsimp only
 rw [List.nil_append,names_step,if_neg (by decide),e2]
 dsimp only
 rw [namesS]
 rfl
theorem chk_C:chkS fileC=none:=by
 unfold chkS
 rw [names_C]
 kernel_rfl
theorem names_E:namesS [] fileE.classes=.ok namesE:=by kernel_rfl
theorem print_C:printP [(97,98)]=[91,54,49,45,54,50,93]:=by kernel_rfl
def ptsT:List Int:=[97,98,32,99,100]
theorem units_T:ptsU (udec 0 factT)=ptsT:=by kernel_rfl
theorem stands_one {has:KindP→Int→Prop} {pts:List Int} {k:KindP} {i:Nat} {back:Bool}:standsM has pts (.one k) i back↔∃ j p,stepM pts back i=some (j,p)∧has k p:=by
 unfold standsM
 simp only [Rch]
def stB (i:Nat) (back:Bool):Bool:=match stepM ptsT back i with
 | some (_,p)=>hasP [(97,122)] p
 | none=>false
theorem has_E {p:Nat} {q:Int}:hasN namesE (.ref p [97]) q↔hasP [(97,122)] q=true:=by
 unfold hasN
 have e:kindS namesE (.ref p [97])=.ok [(97,122)]:=by kernel_rfl
 rw [e]
 constructor
 ·rintro ⟨s,h,hh⟩;cases h;exact hh
 ·intro h;exact ⟨_,rfl,h⟩
theorem st_E {p:Nat} {i:Nat} {back:Bool}:standsM (hasN namesE) ptsT (.one (.ref p [97])) i back↔stB i back=true:=by
 rw [stands_one]
 unfold stB
 cases h:stepM ptsT back i with
 | none =>
  constructor
  ·rintro ⟨j,q,h1,_⟩;cases h1
  ·intro h;cases h
 | some jp =>
  obtain ⟨j,q⟩:=jp
  constructor
  ·rintro ⟨j',q',h1,h2⟩;cases h1;exact has_E.1 h2
  ·intro h;exact ⟨j,q,rfl,has_E.2 h⟩
theorem is_E (i:Nat):isM (hasN namesE) ptsT fileE.rules true i=(!(stB i true && stB i false) || decide (i=0) || decide (i=5)):=by
 have hm:metM (hasN namesE) ptsT ⟨19,false,(.one (.ref 24 [97])),(.one (.ref 27 [97]))⟩ i↔(stB i true && stB i false)=true:=by
  unfold metM
  rw [st_E,st_E,Bool.and_eq_true]
 have h2:metM (hasN namesE) ptsT ⟨30,true,(.cat []),(.cat [])⟩ i:=always_met true i
 unfold isM
 show (saysM _ _ true i (⟨19,false,(.one (.ref 24 [97])),(.one (.ref 27 [97]))⟩ :: ⟨30,true,(.cat []),(.cat [])⟩ :: []) || decide (i=0) || decide (i=5))=_
 rw [saysM,saysM,if_pos h2]
 cases hb:(stB i true && stB i false) with
 | true=>rw [if_pos (hm.2 hb)];rfl
 | false=>rw [if_neg (fun h=>by have:=hm.1 h;rw [hb] at this;cases this)];rfl
theorem breaks_E:breaksM (hasN namesE) ptsT fileE.rules fileE.els=[0,2,3,5]:=by
 have e:isM (hasN namesE) ptsT fileE.rules true=fun i=>(!(stB i true && stB i false) || decide (i=0) || decide (i=5)):=funext is_E
 unfold breaksM
 rw [if_neg (by decide)]
 show (List.range 6).filter (isM (hasN namesE) ptsT fileE.rules true)=_
 rw [e]
 decide +kernel
end Cae
end
section
namespace Go.Proofs.YtledlfbbebodgaaGreatDoor
open Go.Vc Go.Proofs Go.RowKit Cae
set_option maxRecDepth 100000
set_option linter.unusedSimpArgs false
set_option linter.unusedVariables false
attribute [local irreducible] wpL callK valK unitK runK Fun Sl Vc.Own vc vcOps opK pureK
set_option maxHeartbeats 8000000
theorem ErrVar.below {w w':World} (h:ErrVar w) (hb:Below w.heap.size w w'):ErrVar w':=(hb.cell (World.block_lt_of_cell? w _ h)).trans h
theorem checked_c (w : World) (hd : Db w) (he : SErrs w) (hv : ErrVar w) (hg : 11 ≤ w.heap.size) : Fun Tryz.prog 38 [] w fun r w' => r = .bool true ∧ Below w.heap.size w w' := by
  refine fun_of_vc Tryz.func38 rfl (by kernel_rfl) [0] rfl ?_
  simp -dsimp (maxSteps := 4000000) only [push_cast, fr0, Tryz.ntmps38, List.length_cons, List.length_nil, Nat.reduceAdd, Nat.reduceSub, Nat.reduceBEq, List.replicate_succ, List.replicate_zero]
  -- factC: bytes; parse_C: parse lemma; w: world of the call ((Below.refl w.heap.size w): Below from w); names: w$5 the world behind
  refine callK_of (ruleParse_c factC (by decide) (w) (hd.below ((Below.refl w.heap.size w)) hd.lt) (he.below ((Below.refl w.heap.size w))) (by have := ((Below.refl w.heap.size w)).size; omega)) ?_
  rintro _ w1 ⟨hP, hb1⟩
  rcases hP with ⟨f', v, e1, rfl, hV⟩ | ⟨e, pos, b, e1, _⟩
  rotate_left
  · rw [parse_C] at e1; cases e1
  rw [parse_C] at e1
  cases e1
  have hV0 := hV
  obtain ⟨cv, rv, cs, rs, rfl, S1, S2, A1, A2⟩ := hV
  obtain ⟨ca, cc, rfl, hcc⟩ := S1.shape
  obtain ⟨ra, rc, rfl, hrc⟩ := S2.shape
  have z1 := hb1.size
  simp -dsimp only [push_cast, Nat.reduceAdd, Nat.reduceLeDiff, Nat.reduceBEq, Int.reduceNe, Int.reduceEq, Int.reduceLT, Int.reduceLE]
  refine allocK (z := [.slice none 0 0, .slice none 0 0, .bool false]) (by kernel_rfl) ?_
  intro w2 hw2
  have z2 := hw2.size
  simp -dsimp only [push_cast, Nat.reduceAdd, Nat.reduceLeDiff, Nat.reduceBEq, Int.reduceNe, Int.reduceEq, Int.reduceLT, Int.reduceLE]
  refine storeAgg (n := 3) (by kernel_rfl) hw2.blk rfl (by simp) (by intro v hv; simp only [List.mem_cons, List.not_mem_nil, or_false] at hv; rcases hv with rfl | rfl | rfl <;> rfl) ?_
  intro w3 hw3
  have z3 := hw3.size
  have B3 : Blk w3 w1.heap.size 26 [.slice ca cs.length cc, .slice ra rs.length rc, .bool fileC.els] := hw3.blk
  have hb13 : Below w1.heap.size w1 w3 := hw2.below.trans (hw3.kept.below (by omega) (fun i h => by omega))
  have hbw3 := hb1.trans (hb13.mono z1)
  have d3 : cellsAt w3 ⟨w1.heap.size, 0, none⟩ 0 3 = some [.slice ca cs.length cc, .slice ra rs.length rc, .bool fileC.els] := B3.cellsAt
  have hpo := parse_ok (s := factC) (by decide) parse_C
  have hpp := parse_pn parse_C (by decide)
  have hV3 := hV0.below hb13
  simp -dsimp only [push_cast, Nat.reduceAdd, Nat.reduceLeDiff, Nat.reduceBEq, Int.reduceNe, Int.reduceEq, Int.reduceLT, Int.reduceLE, d3]
  refine callK_of (check_c fileC hpo.1 hpp (by omega) (by omega) _ _ w3 hV3) ?_
  rintro _ w4 ⟨hE, hb4⟩
  rw [chk_C] at hE
  obtain rfl : _ = Value.nilIface := hE
  have z4 := hb4.size
  have B4 := B3.below hb4 B3.lt
  have d4 : cellsAt w4 ⟨w1.heap.size, 0, none⟩ 0 3 = some [.slice ca cs.length cc, .slice ra rs.length rc, .bool fileC.els] := B4.cellsAt
  simp -dsimp only [push_cast, Nat.reduceAdd, Nat.reduceLeDiff, Nat.reduceBEq, Int.reduceNe, Int.reduceEq, Int.reduceLT, Int.reduceLE, d4]
  refine callK_of (names_c fileC hpo.1.1 (by omega) _ _ w4 (hV3.below hb4)) ?_
  rintro _ w5 ⟨hN, hb5⟩
  have z5 := hb5.size
  unfold NamesRes at hN
  rw [names_C] at hN
  obtain ⟨mb, hmb, rfl, ⟨kvs, hM, hA⟩, hRN⟩ := hN
  have hbw5 := (hbw3.trans (hb4.mono (by omega))).trans (hb5.mono (by omega))
  simp -dsimp only [push_cast, Nat.reduceAdd, Nat.reduceLeDiff, Nat.reduceBEq, Int.reduceNe, Int.reduceEq, Int.reduceLT, Int.reduceLE]
  have hf := NamV.find (n := [98]) hA
  rcases hf with ⟨f1, f2⟩ | ⟨s, u, f1, f2, hs, ha⟩
  · cases f1
  have hs97 : s = [(97, 98)] := by cases f1; rfl
  subst hs97
  refine lookupG (kt := 9) (et := 41) (z := .slice none 0 0) (c := false) (k := [98]) (by kernel_rfl) (keyStr (by kernel_rfl)) (by kernel_rfl) hM ?_
  rw [if_neg (by decide), f2]
  obtain ⟨sa, sc, rfl, _⟩ := hs.shape
  have hdb5 := hd.below hbw5 hd.lt
  simp -dsimp only [push_cast, Nat.reduceAdd, Nat.reduceLeDiff, Nat.reduceBEq, Int.reduceNe, Int.reduceEq, Int.reduceLT, Int.reduceLE, Option.getD_some]
  refine callK_of (print_c [(97, 98)] (by decide) (by intro r hr; simp at hr; subst hr; decide) _ _ w5 hs hdb5) ?_
  rintro _ w6 ⟨rfl, hb6⟩
  have z6 := hb6.size
  have hbw6 := hbw5.trans (hb6.mono (by omega))
  rw [print_C]
  have B6 := (B4.below hb5 B4.lt).below hb6 (by have := B4.lt; omega)
  have hd6 := hd.below hbw6 hd.lt
  have he6 := he.below hbw6
  have hv6 := hv.below hbw6
  simp -dsimp only [push_cast, Nat.reduceAdd, Nat.reduceLeDiff, Nat.reduceBEq, Int.reduceNe, Int.reduceEq, Int.reduceLT, Int.reduceLE]
  refine callK_of (ruleParse_c factD (by decide) w6 hd6 he6 (by omega)) ?_
  rintro _ w7 ⟨hP, hb7⟩
  have z7 := hb7.size
  rcases hP with ⟨f', v, e1, rfl, hV⟩ | ⟨e, pos, b, e1, _⟩
  rotate_left
  · rw [parse_D] at e1; cases e1
  rw [parse_D] at e1
  cases e1
  have hW0 := hV
  obtain ⟨cv', rv', cs', rs', rfl, S1', S2', A1', A2'⟩ := hV
  obtain ⟨ca', cc', rfl, hcc'⟩ := S1'.shape
  obtain ⟨ra', rc', rfl, hrc'⟩ := S2'.shape
  have B7 := B6.below hb7 B6.lt
  have hbw7 := hbw6.trans (hb7.mono (by omega))
  simp -dsimp only [push_cast, Nat.reduceAdd, Nat.reduceLeDiff, Nat.reduceBEq, Int.reduceNe, Int.reduceEq, Int.reduceLT, Int.reduceLE]
  refine storeAgg (n := 3) (by kernel_rfl) B7 rfl (by simp) (by intro v hv; simp only [List.mem_cons, List.not_mem_nil, or_false] at hv; rcases hv with rfl | rfl | rfl <;> rfl) ?_
  intro w8 hw8
  have z8 := hw8.size
  have B8 : Blk w8 w1.heap.size 26 [.slice ca' cs'.length cc', .slice ra' rs'.length rc', .bool fileD.els] := hw8.blk
  have d8 : cellsAt w8 ⟨w1.heap.size, 0, none⟩ 0 3 = some [.slice ca' cs'.length cc', .slice ra' rs'.length rc', .bool fileD.els] := B8.cellsAt
  have hpo' := parse_ok (s := factD) (by decide) parse_D
  have hpp' := parse_pn parse_D (by decide)
  have hbw8 : Below w.heap.size w w8 := hbw7.trans (hw8.kept.below (by omega) (fun i h => by omega))
  have hV8 : FileV (· = w1.heap.size) w8 (.agg #[.slice ca' cs'.length cc', .slice ra' rs'.length rc', .bool fileD.els]) fileD := hW0.mono hw8.kept (fun i h => by omega) (fun i h => by omega)
  simp -dsimp only [push_cast, Nat.reduceAdd, Nat.reduceLeDiff, Nat.reduceBEq, Int.reduceNe, Int.reduceEq, Int.reduceLT, Int.reduceLE, d8]
  refine callK_of (check_c fileD hpo'.1 hpp' (by omega) (by omega) _ _ w8 hV8) ?_
  rintro _ w9 ⟨hE, hb9⟩
  rw [chk_D] at hE
  obtain ⟨eb, heb, rfl, hEB⟩ := hE
  have hbw9 := hbw8.trans (hb9.mono (by omega))
  have c9 : w9.cell? ⟨eb, 0, none⟩ = some (.int .i64 7) := hEB.cell rfl
  simp -dsimp only [push_cast, Nat.reduceAdd, Nat.reduceLeDiff, Nat.reduceBEq, Int.reduceNe, Int.reduceEq, Int.reduceLT, Int.reduceLE]
  refine callK_of (tell_c _ 7 w9 (hv.below hbw9) (.at_ eb 7 c9)) ?_
  rintro _ wa ⟨rfl, hba⟩
  simp -dsimp only [push_cast, Nat.reduceAdd, Nat.reduceLeDiff, Nat.reduceBEq, Int.reduceNe, Int.reduceEq, Int.reduceLT, Int.reduceLE]
  exact hbw9.trans (hba.mono hbw9.size)
theorem meant_c (w:World) (hd:Db w) (he:SErrs w) (hv:ErrVar w) (hl:Least w) (hg:11≤w.heap.size):Fun Tryz.prog 8 [] w fun r w'=>r=.bool true∧Below w.heap.size w w':=by
 refine fun_of_vc Tryz.func8 rfl (by kernel_rfl) [0] rfl ?_
 simp -dsimp (maxSteps:=4000000) only [push_cast,fr0,Tryz.ntmps8,List.length_cons,List.length_nil,Nat.reduceAdd,Nat.reduceSub,Nat.reduceBEq,List.replicate_succ,List.replicate_zero]
 refine callK_of (ruleParse_c factE (by decide) w hd he (by omega)) ?_
 rintro _ w1 ⟨hP,hb1⟩
 have z1:=hb1.size
 rcases hP with ⟨f',v,e1,rfl,hV⟩ | ⟨e,pos,b,e1,_⟩
 rotate_left
 ·rw [parse_E] at e1;cases e1
 rw [parse_E] at e1
 cases e1
 have hV0:=hV
 obtain ⟨cv,rv,cs,rs,rfl,S1,S2,A1,A2⟩:=hV
 obtain ⟨ca,cc,rfl,hcc⟩:=S1.shape
 obtain ⟨ra,rc,rfl,hrc⟩:=S2.shape
 simp -dsimp only [push_cast,Nat.reduceAdd,Nat.reduceLeDiff,Nat.reduceBEq,Int.reduceNe,Int.reduceEq,Int.reduceLT,Int.reduceLE]
 refine allocK (z:=[.slice none 0 0,.slice none 0 0,.bool false]) (by kernel_rfl) ?_
 intro w2 hw2
 have z2:=hw2.size
 simp -dsimp only [push_cast,Nat.reduceAdd,Nat.reduceLeDiff,Nat.reduceBEq,Int.reduceNe,Int.reduceEq,Int.reduceLT,Int.reduceLE]
 refine storeAgg (n:=3) (by kernel_rfl) hw2.blk rfl (by simp) (by intro v hv;simp only [List.mem_cons,List.not_mem_nil,or_false] at hv;rcases hv with rfl | rfl | rfl <;> rfl) ?_
 intro w3 hw3
 have z3:=hw3.size
 have B3:Blk w3 w1.heap.size 26 [.slice ca cs.length cc,.slice ra rs.length rc,.bool fileE.els]:=hw3.blk
 have hb13:Below w1.heap.size w1 w3:=hw2.below.trans (hw3.kept.below (by omega) (fun i h=>by omega))
 have hbw3:=hb1.trans (hb13.mono z1)
 have hpo:=parse_ok (s:=factE) (by decide) parse_E
 have hpp:=parse_pn parse_E (by decide)
 have hV3:=hV0.below hb13
 have hd3:=hd.below hbw3 hd.lt
 simp -dsimp only [push_cast,Nat.reduceAdd,Nat.reduceLeDiff,Nat.reduceBEq,Int.reduceNe,Int.reduceEq,Int.reduceLT,Int.reduceLE]
 refine callK_of (checked_c w3 hd3 (he.below hbw3) (hv.below hbw3) (by omega)) ?_
 rintro _ w4 ⟨rfl,hb4⟩
 have z4:=hb4.size
 have hbw4:=hbw3.trans (hb4.mono (by omega))
 have B4:=(B3.below hb4 B3.lt).drew
 have hbd:=below_drew w4
 have hV4:=(hV3.below hb4).below hbd
 have zd:w4.drew.heap.size=w4.heap.size:=rfl
 have hcl:∀ w'',Blk w'' w1.heap.size 26 [.slice ca cs.length cc,.slice ra rs.length rc,.bool fileE.els]→cellsAt w'' ⟨w1.heap.size,0,none⟩ 0 3=some [.slice ca cs.length cc,.slice ra rs.length rc,.bool fileE.els]:=fun w'' h=>h.cellsAt
 have d4:=hcl _ B4
 simp -dsimp only [push_cast,Nat.reduceAdd,Nat.reduceLeDiff,Nat.reduceBEq,Int.reduceNe,Int.reduceEq,Int.reduceLT,Int.reduceLE]
 refine wpL_drawN (fun w'=>Blk w' w1.heap.size 26 [.slice ca cs.length cc,.slice ra rs.length rc,.bool fileE.els]) mixed (by kernel_rfl) B4 ?_
 simp -dsimp only [push_cast,Nat.reduceAdd,Nat.reduceLeDiff,Nat.reduceBEq,Int.reduceNe,Int.reduceEq,Int.reduceLT,Int.reduceLE,d4]
 refine ⟨fun w'' h=>by rw [hcl w'' h];exact rfl,?_⟩
 have hbw4d:=hbw4.trans (hbd.mono (by omega))
 refine callK_of (decode_c factT (by decide) w4.drew (hl.below hbw4d)) ?_
 rintro uv w5 ⟨hO,hb5⟩
 have z5:=hb5.size
 refine ⟨B4.below hb5 B4.lt,?_⟩
 obtain ⟨ua,uc,rfl⟩:=hO.slice
 simp -dsimp only [push_cast,Nat.reduceAdd,Nat.reduceLeDiff,Nat.reduceBEq,Int.reduceNe,Int.reduceEq,Int.reduceLT,Int.reduceLE]
 refine callK_of (breaks_c fileE hpo.1 hpp (by omega) (by omega) (udec 0 factT) (by decide +kernel) (fun _=>False) _ _ w5 ((hV4.below hb5).mono (Kept.refl (fun _=>False) _) (fun _ h=>h.elim) (fun _ h=>h.elim)) (hO.sl.weaken (fun _ h=>h.elim))) ?_
 rintro _ w6 ⟨hB,hb6⟩
 have z6:=hb6.size
 refine ⟨(B4.below hb5 B4.lt).below hb6 (by have:=B4.lt;omega),?_⟩
 have hbw6:=(hbw4d.trans (hb5.mono (by omega))).trans (hb6.mono (by omega))
 unfold BrkR at hB
 rw [chk_E] at hB
 obtain ⟨nm,bv,hnm,rfl,hBO⟩:=hB
 rw [names_E] at hnm
 cases hnm
 rw [units_T,breaks_E] at hBO
 obtain ⟨ba,bc,rfl⟩:=hBO.slice
 simp -dsimp only [push_cast,Nat.reduceAdd,Nat.reduceLeDiff,Nat.reduceBEq,Int.reduceNe,Int.reduceEq,Int.reduceLT,Int.reduceLE]
 refine rowK elI_53 rfl rfl (by omega) ?_
 intro w7 hw7
 have z7:=hw7.size
 have hO7:Vc.Own w6.heap.size 3 1 encN w7 (.slice (some ⟨w6.heap.size,0,none⟩) 4 4) [0,2,3,5]:=hw7.own (by rfl) rfl (fun _=>rfl) (by omega) (by omega)
 simp -dsimp only [push_cast,Nat.reduceAdd,Nat.reduceLeDiff,Nat.reduceBEq,Int.reduceNe,Int.reduceEq,Int.reduceLT,Int.reduceLE]
 refine callK_of (equalN_c [0,2,3,5] [0,2,3,5] (by decide) _ _ _ _ w7 (hBO.new hw7).sl hO7.sl) ?_
 rintro _ w8 ⟨rfl,hb8⟩
 simp -dsimp only [push_cast,Nat.reduceAdd,Nat.reduceLeDiff,Nat.reduceBEq,Int.reduceNe,Int.reduceEq,Int.reduceLT,Int.reduceLE]
 exact ((hbw6.trans (hw7.below.mono (by omega))).trans (hb8.mono (by omega)))
end Go.Proofs.YtledlfbbebodgaaGreatDoor
end
section
namespace Cae
theorem breaks_few {has:KindP→Int→Prop} {pts:List Int} (rules:List RuleP) (els:Bool):(breaksM has pts rules els).length≤pts.length+1:=by
 unfold breaksM
 split
 ·simp
 ·exact Nat.le_trans (List.length_filter_le _ _) (by simp)
end Cae
end
section
namespace Go.Vc
section
variable {P:Program}
/-- How many entries a map has. -/
theorem lenMapK {α:Type} {key:α→Value} {w:World} {b:Nat} {kvs:List (α×Value)} {d:Option Tmp} {x:Operand} {aty ty kt et:TypeId} {pos af g} {t:Fr} {K:VK} {Q:EP} {L:VP} {p} (hd:P.underlying aty=some (.map kt et)) (hx:ev t x=.map (some b)) (hm:MapG key w b kvs) (kk:K (.int .i64 kvs.length) w) :
  lenK (some (.map kt et)) (.map (some b)) L (runK P ⟨d,.call { callee:=.builtin .len,args:=#[x],argTypes:=#[aty] },ty,pos,af,g⟩ t w K Q .mk) p:=by
 show runK P _ t w K Q .mk
 refine runK_value (v:=.int .i64 kvs.length) ?_ kk
 obtain ⟨es,clock,hb,he⟩:=hm
 have hl:es.size=kvs.length:=by have:=congrArg List.length he;simpa using this
 have hg:(getObj b).run P w=.ok (.map es clock) w:=by simp [getObj,Sem.run,hb]
 unfold execOp
 simp [resolve,invoke,builtin,Builtin.len_,hx,run_underlying hd,goInt,hg,hl]
end
end Go.Vc
namespace Cae
theorem names_len:∀ {l:List ClassP} {acc nm:NamesP},namesS acc l=.ok nm→nm.length=acc.length+l.length
 | [],acc,nm,h=>by rw [namesS] at h;cases h;simp
 | c :: l,acc,nm,h=>by
  rw [namesS] at h
  split at h
  ·cases h
  ·split at h
   ·cases h
   ·have:=names_len h
    rw [this,List.length_append,List.length_cons,List.length_cons,List.length_nil]
    omega
end Cae
namespace Go.Proofs.YtledlfbbebodgaaGreatDoor
open Go.Vc Go.Proofs Go.RowKit Cae
set_option maxRecDepth 100000
set_option linter.unusedSimpArgs false
set_option linter.unusedVariables false
attribute [local irreducible] wpL callK valK unitK runK Fun Sl Vc.Own vc vcOps opK pureK
set_option maxHeartbeats 8000000
theorem meanNames_c (s t:List UInt8) (w:World) (hv:Vl w) (hE:ErrVar w):Fun Tryz.prog 3 [str s,str t] w fun r w'=>r=.bool true∧Below w.heap.size w w':=by
 refine fun_of_vc Tryz.func3 rfl (by kernel_rfl) [4] rfl ?_
 simp -dsimp (maxSteps:=4000000) only [push_cast,fr0,Tryz.ntmps3,List.length_cons,List.length_nil,Nat.reduceAdd,Nat.reduceSub,Nat.reduceBEq,List.replicate_succ,List.replicate_zero]
 refine ⟨fun hlong=>Below.refl _ _,fun hshort=>?_⟩
 refine callK_of (meant_c w hv.d hv.e hE hv.l hv.g) ?_
 rintro _ w1 ⟨rfl,hb1⟩
 have z1:=hb1.size
 have hv1:=hv.below hb1
 push_cast -dsimp
 refine callK_of (rightF_c s w1 hv1.d hv1.e hv1.g) ?_
 rintro _ w2 ⟨⟨a1,n1,k1,a2,n2,k2,e,b,rfl,hright⟩,hb2⟩
 have z2:=hb2.size
 have hbw2:=hb1.trans (hb2.mono z1)
 push_cast -dsimp
 refine allocK (z:=[.slice none 0 0,.slice none 0 0,.bool false]) (by kernel_rfl) ?_
 intro w3 hw3
 have z3:=hw3.size
 push_cast -dsimp
 refine storeAgg (n:=3) (by kernel_rfl) hw3.blk rfl (by simp) cellsF3 ?_
 intro w4 hw4
 have z4:=hw4.size
 have B4:Blk w4 w2.heap.size 26 [.slice a1 n1 k1,.slice a2 n2 k2,.bool e]:=hw4.blk
 have hb24:Below w2.heap.size w2 w4:=hw3.below.trans (hw4.kept.below (by omega) (fun i h=>by omega))
 have hbw4:=hbw2.trans (hb24.mono (by omega))
 have hv4:=hv.below hbw4
 have d4:cellsAt w4 ⟨w2.heap.size,0,none⟩ 0 3=some [.slice a1 n1 k1,.slice a2 n2 k2,.bool e]:=B4.cellsAt
 cases b with
 | false =>
  push_cast -dsimp
  exact hbw4
 | true =>
  obtain ⟨hs5,f,hpar,hchk,hV⟩:=hright rfl
  have hpo:=parse_ok (by omega) hpar
  have hpp:=parse_pn hpar (by omega)
  have hV4:=hV.below hb24
  obtain ⟨cv,rv,cs,rs,hag,S1,S2,A1,A2⟩:=hV
  have hsh1:=S1.shape
  obtain ⟨_,_,rfl,hcc⟩:=hsh1
  have hsh2:=S2.shape
  obtain ⟨_,_,rfl,hrc⟩:=hsh2
  simp only [Value.agg.injEq,Array.mk.injEq,List.cons.injEq,Value.slice.injEq,Value.bool.injEq,and_true] at hag
  obtain ⟨⟨rfl,rfl,rfl⟩,⟨rfl,rfl,rfl⟩,rfl⟩:=hag
  have hrl:=All2.len A2
  have hcl:=All2.len A1
  push_cast -dsimp [d4]
  refine callK_of (names_c f hpo.1.1 (by omega) _ _ w4 hV4) ?_
  rintro _ w5 ⟨hN,hb5⟩
  have z5:=hb5.size
  unfold NamesRes at hN
  have hnm:∃ nm,namesS [] f.classes=.ok nm∧rulesS nm f.rules=none:=by
   unfold chkS at hchk
   cases h:namesS [] f.classes with
   | error e=>rw [h] at hchk;simp at hchk
   | ok nm=>rw [h] at hchk;exact ⟨nm,rfl,by simpa using hchk⟩
  obtain ⟨nm,hnm,hrules⟩:=hnm
  rw [hnm] at hN
  obtain ⟨mb,hmb,rfl,hNam,hRN⟩:=hN
  have hbw5:=hbw4.trans (hb5.mono (by omega))
  have hv5:=hv.below hbw5
  push_cast -dsimp
  refine allocK (z:=[.map none]) (by kernel_rfl) ?_
  intro w6 hw6
  have z6:=hw6.size
  push_cast -dsimp
  refine storeK_of hw6.blk (by simp) rfl ?_
  intro w7 hw7
  have z7:=hw7.size
  have hb57:Below w5.heap.size w5 w7:=hw6.below.trans (hw7.kept.below (by omega) (fun i h=>by omega))
  have M7:Blk w7 w5.heap.size 29 [.map (some mb)]:=hw7.blk
  have hb47:=hb5.trans (hb57.mono (by omega))
  have m7:w7.cell? ⟨w5.heap.size,0,none⟩=some (.map (some mb)):=M7.cell rfl
  have hnl:nm.length=f.classes.length:=by have:=names_len hnm;simpa using this
  have hNam0:=hNam
  obtain ⟨kvs,hmg,hA⟩:=hNam0
  have hkl:=All2.len hA
  have B7:=B4.below hb47 (by omega)
  have d7:w7.cell? ⟨w2.heap.size,0,none⟩=some (.slice a1 cs.length k1):=B7.cell rfl
  push_cast -dsimp [m7]
  refine lenMapK (kvs:=kvs) rfl rfl (hmg.below hb57 hmg.lt) ?_
  have d7b:w7.cell? ⟨w2.heap.size,2,none⟩=some (.bool f.els):=B7.cell rfl
  push_cast -dsimp [d7,d7b]
  refine ⟨fun hne=>absurd (by omega) hne,fun _=>?_⟩
  refine allocK (z:=[.slice none 0 0,.slice none 0 0,.bool false]) (by kernel_rfl) ?_
  intro w8 hw8
  have z8:=hw8.size
  push_cast -dsimp
  refine storeAgg (n:=3) (by kernel_rfl) hw8.blk rfl (by simp) cellsF3 ?_
  intro w9 hw9
  have z9:=hw9.size
  have G9:Blk w9 w7.heap.size 26 [.slice none 0 0,.slice none 0 0,.bool f.els]:=hw9.blk
  have hb79:Below w7.heap.size w7 w9:=hw8.below.trans (hw9.kept.below (by omega) (fun i h=>by omega))
  push_cast -dsimp
  refine allocK (z:=[.nilFunc]) (by kernel_rfl) ?_
  intro wA hwA
  have zA:=hwA.size
  push_cast -dsimp
  refine storeK_of hwA.blk (by simp) rfl ?_
  intro wB hwB
  have zB:=hwB.size
  push_cast -dsimp
  have FB:Blk wB w9.heap.size 34 [bareV w5.heap.size w9.heap.size]:=hwB.blk
  have hb9B:Below w9.heap.size w9 wB:=hwA.below.trans (hwB.kept.below (by omega) (fun i h=>by omega))
  have hb7B:=hb79.trans (hb9B.mono (by omega))
  have GB:Blk wB w7.heap.size 26 [.slice none 0 0,.slice none 0 0,.bool f.els]:=G9.below hb9B (by omega)
  have hb4B:=hb47.trans (hb7B.mono (by omega))
  have hb5B:=hb57.trans (hb7B.mono (by omega))
  have MB:Blk wB w5.heap.size 29 [.map (some mb)]:=M7.below hb7B (by omega)
  have A2t:=A2.imp fun a c h=>RulR.top h
  refine wpL_loop [11,12,49,50,51,52,53,54,55,56,57,58,59,60,61,62,63,64,65,66,67,68,69,70,71,72,73,74,75,76] (fun z wx=>∃ (i:Nat) (ov:Value) (ls:List (Nat×Bool×Nat×Nat)),z 11=.int .i64 i∧i≤f.rules.length∧Blk wx w7.heap.size 26 [.slice none 0 0,ov,.bool f.els]∧Vc.Own wB.heap.size 50 4 encRu wx ov ls∧All2 (RulR (fun b=>b=w7.heap.size∨ov.ownBlock=some b) wx) ls ((f.rules.take i).map (bareR nm))∧wB.heap.size≤wx.heap.size∧Kept (fun b=>b=w7.heap.size) wB wx) (fun z _=>f.rules.length - (intOf (z 11)).toNat) ?_ ?_
  ·exact ⟨0,_,[],rfl,Nat.zero_le _,GB,Vc.Own.nil (enc:=encRu) _ _ (fun _=>rfl) _,.nil,Nat.le_refl _,Kept.refl _ _⟩
  ·intro z wx hI
   obtain ⟨i,ov,ls,h11,hi,hG,hO,hA,zx,hkx⟩:=hI
   have hb4x:Below w4.heap.size w4 wx:=hb4B.trans (hkx.below (by omega) (fun j h=>by omega))
   have F1:wx.cell? ⟨w2.heap.size,1,none⟩=some (.slice a2 rs.length k2):=(B4.below hb4x (by omega)).cell rfl
   push_cast -dsimp [h11,F1]
   refine ⟨fun hlt=>?_,fun hge=>?_⟩
   ·obtain ⟨c,hc,hcm,_,ht⟩:=lt_get (l:=f.rules) (i:=i) (by omega)
    obtain ⟨x,hx,hxp,hxb,hx1,hx2⟩:=all2_nth A2t hc
    have S2x:=(S2.below hb24).below hb4x
    obtain ⟨b1,o,rfl,hnb,hcell⟩:=S2x.get hx
    obtain ⟨xp,xb,x1,x2⟩:=x
    simp only at hxp hxb hx1 hx2
    subst hxp;subst hxb
    have c4:cellsAt wx ⟨b1,o+i*4,none⟩ 0 4=some [.int .i64 c.pos,.bool c.brk,.pointer (some ⟨x1,0,none⟩),.pointer (some ⟨x2,0,none⟩)]:=cellsAt_of _ 0 (fun j u hu=>by simpa [encRu,ptrP] using hcell j u hu)
    push_cast -dsimp [c4]
    refine ⟨⟨by omega,by omega⟩,?_⟩
    refine allocK (z:=[.int .i64 0,.bool false,.pointer none,.pointer none]) (by kernel_rfl) ?_
    intro wa hwa
    have za:=hwa.size
    push_cast -dsimp
    refine storeAgg (n:=4) (by kernel_rfl) hwa.blk rfl (by simp) (by simp [Value.oneCell']) ?_
    intro wb hwb
    have zb:=hwb.size
    have Rb:Blk wb wx.heap.size 50 [.int .i64 c.pos,.bool c.brk,.pointer (some ⟨x1,0,none⟩),.pointer (some ⟨x2,0,none⟩)]:=hwb.blk
    have hbxb:Below wx.heap.size wx wb:=hwa.below.trans (hwb.kept.below (by omega) (fun i h=>by omega))
    push_cast -dsimp
    have Mx:Blk wx w5.heap.size 29 [.map (some mb)]:=MB.kept hkx (fun h=>by omega)
    have Ex:Blk wx w9.heap.size 34 [bareV w5.heap.size w9.heap.size]:=FB.kept hkx (fun h=>by omega)
    have Eb:=Ex.below hbxb (by omega)
    refine wpL_told [0,1,2,3,4,5,6,7,8] 9 [10,11] (fun w'=>Blk w' wx.heap.size 50 [.int .i64 c.pos,.bool c.brk,.pointer (some ⟨x1,0,none⟩),.pointer (some ⟨x2,0,none⟩)]∧Blk w' w9.heap.size 34 [bareV w5.heap.size w9.heap.size]) mixed (by kernel_rfl) ⟨Rb.drew,Eb.drew⟩ ?_
    have r2:wb.drew.cell? ⟨wx.heap.size,2,none⟩=some (.pointer (some ⟨x1,0,none⟩)):=Rb.drew.cell rfl
    have ef:wb.drew.cell? ⟨w9.heap.size,0,none⟩=some (bareV w5.heap.size w9.heap.size):=Eb.drew.cell rfl
    have ef':=ef
    unfold bareV at ef'
    push_cast -dsimp [r2,ef']
    have hbd:=below_drew wb
    have hbxd:Below wx.heap.size wx wb.drew:=hbxb.trans (hbd.mono hbxb.size)
    have hb2d:Below w2.heap.size w2 wb.drew:=hb24.trans ((hb4x.mono (by omega)).trans (hbxd.mono (by omega)))
    have hb5d:Below w5.heap.size w5 wb.drew:=hb5B.trans ((hkx.below (by omega) (fun j h=>by omega)).trans (hbxd.mono (by omega)))
    have V1:PatV (fun b=>w5.heap.size≤b) wb.drew (.pointer (some ⟨x1,0,none⟩)) c.before:=PatV.weak (hx1.below hb2d) (fun b h=>.inr (by omega))
    have V2:PatV (fun b=>w5.heap.size≤b) wb.drew (.pointer (some ⟨x2,0,none⟩)) c.after:=PatV.weak (hx2.below hb2d) (fun b h=>.inr (by omega))
    have N1:NamV (fun b=>w5.heap.size≤b) wb.drew mb nm:=(hNam.topB.weak (fun b h=>.inr h)).below hb5d
    have hpc:=hpp c hcm
    have hpk:=hpo.1.2 c hcm
    have hpn:=rulesS_none.1 hrules c hcm
    have mcd:wb.drew.cell? ⟨w5.heap.size,0,none⟩=some (.map (some mb)):=(Mx.below hbxb (by omega)).drew.cell rfl
    refine ⟨fun w'' h=>by have e:=h.2.cell (o:=0) rfl;unfold bareV at e;rw [e];exact rfl,fun w'' h=>by rw [h.1.cell (o:=2) rfl];exact rfl,?_⟩
    refine callK_of (bare_c c.before hpk.1 hpc.1 hpn.1 hRN _ _ wb.drew V1 N1 mcd ef) ?_
    rintro y1 wc ⟨hY1,hbc⟩
    have zc:wb.heap.size≤wc.heap.size:=hbc.size
    have Rc:=Rb.drew.below hbc Rb.lt
    have Ec:=Eb.drew.below hbc Eb.lt
    have e3:wc.cell? ⟨wx.heap.size,3,none⟩=some (.pointer (some ⟨x2,0,none⟩)):=Rc.cell rfl
    have efc:wc.cell? ⟨w9.heap.size,0,none⟩=some (bareV w5.heap.size w9.heap.size):=Ec.cell rfl
    have efc':=efc
    unfold bareV at efc'
    refine ⟨⟨Rc,Ec⟩,?_⟩
    obtain ⟨yb1,rfl,hyl1,hyn1⟩:=hY1.ptr
    push_cast -dsimp [e3,efc']
    refine ⟨fun w'' h=>by have e:=h.2.cell (o:=0) rfl;unfold bareV at e;rw [e];exact rfl,fun w'' h=>by rw [h.1.cell (o:=3) rfl];exact rfl,?_⟩
    refine callK_of (bare_c c.after hpk.2 hpc.2 hpn.2 hRN _ _ wc (V2.below hbc) (N1.below hbc) ((hbc.cell (World.block_lt_of_cell? wb.drew _ mcd)).trans mcd) efc) ?_
    rintro y2 wd ⟨hY2,hbd'⟩
    have zd:=hbd'.size
    have Rd':=Rc.below hbd' Rc.lt
    refine ⟨⟨Rd',Ec.below hbd' Ec.lt⟩,?_⟩
    obtain ⟨yb2,rfl,hyl2,hyn2⟩:=hY2.ptr
    have hY1d:=hY1.below hbd'
    push_cast -dsimp
    refine storeK_of Rd' (by simp) rfl ?_
    intro we hwe
    have ze:=hwe.size
    push_cast -dsimp
    refine storeK_of hwe.blk (by simp) rfl ?_
    intro wf hwf
    have zf:=hwf.size
    have Rf:Blk wf wx.heap.size 50 [.int .i64 c.pos,.bool c.brk,.pointer (some ⟨yb1,0,none⟩),.pointer (some ⟨yb2,0,none⟩)]:=hwf.blk
    have kdf:Kept (fun j=>j=wx.heap.size) wd wf:=hwe.kept.trans hwf.kept (fun _ _ h=>h)
    have hbxf:Below wx.heap.size wx wf:=hbxd.trans ((hbc.mono (by show wx.heap.size≤wb.heap.size;omega)).trans ((hbd'.mono (by omega)).trans (kdf.below (by omega) (fun i h=>by omega))))
    have zxf:=hbxf.size
    have Gf:=hG.below hbxf (by omega)
    have hOf:=hO.below hbxf
    have g1:wf.cell? ⟨w7.heap.size,1,none⟩=some ov:=Gf.cell rfl
    have df:cellsAt wf ⟨wx.heap.size,0,none⟩ 0 4=some [.int .i64 c.pos,.bool c.brk,.pointer (some ⟨yb1,0,none⟩),.pointer (some ⟨yb2,0,none⟩)]:=Rf.cellsAt
    have hob:=hO.block
    have hY1f:PatV (fun b=>b=w7.heap.size∨ov.ownBlock=some b) wf (ptrP yb1) (bareP (setK nm) c.before):=PatV.mono kdf (fun i h=>by rw [h];exact ⟨by omega,by show wx.heap.size<wb.heap.size;omega⟩) (fun b h=>by
     rcases h with h | h
     ·exact ⟨by omega,by show b<wb.heap.size;omega⟩
     ·have:=hob b h;exact ⟨by omega,by show b<wb.heap.size;omega⟩) hY1d
    have hY2f:PatV (fun b=>b=w7.heap.size∨ov.ownBlock=some b) wf (ptrP yb2) (bareP (setK nm) c.after):=PatV.mono kdf (fun i h=>by rw [h];exact ⟨by omega,by omega⟩) (fun b h=>by
     rcases h with h | h
     ·exact ⟨by omega,by omega⟩
     ·have:=hob b h;exact ⟨by omega,by omega⟩) hY2
    have hAf:All2 (RulR (fun b=>b=w7.heap.size∨ov.ownBlock=some b) wf) (ls++[(c.pos,c.brk,yb1,yb2)]) ((f.rules.take (i+1)).map (bareR nm)):=by
     rw [ht,List.map_append]
     refine All2.snoc (hA.imp fun a d h=>⟨h.1,h.2.1,h.2.2.1.below hbxf,h.2.2.2.below hbxf⟩) ?_
     exact ⟨rfl,rfl,hY1f,hY2f⟩
    have hll:=All2.len hA
    rw [List.length_map,List.length_take] at hll
    push_cast -dsimp [g1,df]
    refine rowK elI_24 rfl rfl (by omega) ?_
    intro wr hwr
    have zr:=hwr.size
    push_cast -dsimp
    refine appendK2 (base:=wB.heap.size) [(c.pos,c.brk,yb1,yb2)] (enc:=encRu) elI_24 (hOf.new hwr) (by rfl) (fun j u hu=>by rw [Nat.zero_add];exact hwr.cell hu) encRu_one (by simp only [List.length_cons,List.length_nil];omega) (by omega) ?_
    intro vq wq hOq hgq hnq
    have hkq:Kept (fun j=>ov.ownBlock=some j) wr wq:=Kept.grown hgq (fun _ h=>h)
    have Gq:=(Gf.below hwr.below (by omega)).kept hkq (fun h=>by have:=hob _ h;omega)
    have zq:=hkq.size
    have hAr:All2 (RulR (fun b=>(b=w7.heap.size∨ov.ownBlock=some b)∨wf.heap.size≤b) wr) (ls++[(c.pos,c.brk,yb1,yb2)]) ((f.rules.take (i+1)).map (bareR nm)):=hAf.imp fun a d h=>⟨h.1,h.2.1,h.2.2.1.top.below hwr.below,h.2.2.2.top.below hwr.below⟩
    have hobq:=hOq.block
    obtain ⟨qa,qc,rfl⟩:=hOq.slice
    have hcl:∀ b,(b=w7.heap.size∨(Value.slice qa (ls++[(c.pos,c.brk,yb1,yb2)]).length qc).ownBlock=some b)→(b=w7.heap.size∨ov.ownBlock=some b)∨wf.heap.size≤b:=fun b h=>by
     rcases h with h | h
     ·exact .inl (.inl h)
     ·rcases hnq b h with h | h
      ·exact .inl (.inr h)
      ·exact .inr (by omega)
    push_cast -dsimp
    refine storeK_of Gq (by simp) rfl ?_
    intro wg hwg
    have zg:=hwg.size
    have Gg:Blk wg w7.heap.size 26 [.slice none 0 0,.slice qa (ls++[(c.pos,c.brk,yb1,yb2)]).length qc,.bool f.els]:=hwg.blk
    have hOg:=hOq.keptX hwg.kept (fun g hg h=>by have:=hobq g hg;have h':g=w7.heap.size:=h;omega)
    have krg:Kept (fun j=>j=w7.heap.size∨ov.ownBlock=some j) wr wg:=(hkq.weaken (fun j _ h=>.inr h)).trans hwg.kept (fun j _ h=>.inl h)
    have hAg:All2 (RulR (fun b=>b=w7.heap.size∨(Value.slice qa (ls++[(c.pos,c.brk,yb1,yb2)]).length qc).ownBlock=some b) wg) (ls++[(c.pos,c.brk,yb1,yb2)]) ((f.rules.take (i+1)).map (bareR nm)):=hAr.imp fun a d h=>RulR.mono krg (fun j h=>.inl h) hcl h
    have hkg:Kept (fun b=>b=w7.heap.size) wB wg:=hkx.trans ((((Kept.of_below hbxf (X:=fun _=>False) (fun i h1 h2=>by omega)).trans (Kept.new (X:=fun _=>False) hwr) (fun _ _ h=>h)).weaken (fun _ _ h=>h.elim)).trans krg (fun j _ h=>h)) (fun j hj h=>by
     rcases h with h | h
     ·exact h
     ·have:=hob j h;omega)
    push_cast -dsimp
    exact ⟨⟨by omega,by omega⟩,⟨i+1,_,_,rfl,by omega,Gg,hOg,hAg,by omega,hkg⟩,by rw [h11];simp only [intOf];omega⟩
   ·rw [List.take_of_length_le (by omega)] at hA
    have hll:=All2.len hA
    rw [List.length_map] at hll
    have hul:=udec_length t.length t 0 rfl
    have hbwx:Below w.heap.size w wx:=hbw4.trans (hb4x.mono (by omega))
    refine callK_of (decode_c t (by omega) wx (hv.below hbwx).l) ?_
    rintro uv wy ⟨hU,hby⟩
    have zy:=hby.size
    have hbwy:=hbwx.trans (hby.mono (by omega))
    have hb4y:=hb4x.trans (hby.mono (by omega))
    obtain ⟨ua,uc,rfl⟩:=hU.slice
    have dF:cellsAt wy ⟨w2.heap.size,0,none⟩ 0 3=some [.slice a1 cs.length k1,.slice a2 rs.length k2,.bool f.els]:=(B4.below hb4y (by omega)).cellsAt
    have hVy:FileV (fun _=>False) wy (.agg #[.slice a1 cs.length k1,.slice a2 rs.length k2,.bool f.els]) f:=(hV4.below hb4y).mono (Kept.refl (fun _=>False) _) (fun _ h=>h.elim) (fun _ h=>h.elim)
    push_cast -dsimp [dF]
    refine callK_of (breaks_c f hpo.1 hpp (by omega) (by omega) (udec 0 t) (by omega) (fun _=>False) _ _ wy hVy (hU.sl.weaken (fun _ h=>h.elim))) ?_
    rintro _ wa ⟨hAr,hba⟩
    have za:=hba.size
    unfold BrkR at hAr
    rw [hchk] at hAr
    obtain ⟨nm',av,hnm',rfl,hAO⟩:=hAr
    have hnn:nm'=nm:=by
     rw [hnm] at hnm'
     cases hnm'
     rfl
    subst hnn
    obtain ⟨aa,ac,rfl⟩:=hAO.slice
    obtain ⟨oa,oc,rfl⟩:=hO.slice
    have hbxa:=hby.trans (hba.mono (by omega))
    have dG:cellsAt wa ⟨w7.heap.size,0,none⟩ 0 3=some [.slice none 0 0,.slice oa ls.length oc,.bool f.els]:=(hG.below hbxa (by omega)).cellsAt
    have hOa:=hO.below hbxa
    have hVa:FileV (fun _=>False) wa (.agg #[.slice none 0 0,.slice oa ls.length oc,.bool f.els]) (bareF nm' f) :=
     ⟨_,_,[],ls,rfl,Sl.nil _ _ _ _ _ _,hOa.sl.weaken (fun _ h=>h.elim),.nil,hA.imp fun a c h=>⟨h.1,h.2.1,PatV.weak (h.2.2.1.below hbxa) (fun _ h=>h.elim),PatV.weak (h.2.2.2.below hbxa) (fun _ h=>h.elim)⟩⟩
    have hok':FileOk (bareF nm' f):=⟨fun c hc=>(by cases hc),fun r hr=>by
     obtain ⟨c,hc,rfl⟩:=List.mem_map.1 hr
     have h1:=rulesS_none.1 hrules c hc
     exact ⟨ok_bare hRN _ (hpo.1.2 c hc).1 h1.1,ok_bare hRN _ (hpo.1.2 c hc).2 h1.2⟩⟩
    have hpp':PnOk (bareF nm' f):=fun r hr=>by
     obtain ⟨c,hc,rfl⟩:=List.mem_map.1 hr
     show wd (bareP (setK nm') c.before)≤100000∧wd (bareP (setK nm') c.after)≤100000
     rw [wd_bare,wd_bare]
     exact hpp c hc
    have hchk':chkS (bareF nm' f)=none:=by
     unfold chkS bareF
     show (match namesS [] [] with | .error e=>some (errN e) | .ok nm=>(rulesS nm (f.rules.map (bareR nm'))).map fun e=>((7:Int),e))=none
     rw [namesS]
     dsimp only
     rw [rules_bare]
     rfl
    have hlr':(bareF nm' f).rules.length≤1000000:=by
     show (f.rules.map (bareR nm')).length≤1000000
     rw [List.length_map]
     omega
    have hUa:=hU.below hba
    push_cast -dsimp [dG]
    refine callK_of (breaks_c (bareF nm' f) hok' hpp' (by show ([]:List ClassP).length≤1000000;decide) hlr' (udec 0 t) (by omega) (fun _=>False) _ _ wa hVa (hUa.sl.weaken (fun _ h=>h.elim))) ?_
    rintro _ wb ⟨hBr,hbb⟩
    have zb:=hbb.size
    unfold BrkR at hBr
    rw [hchk'] at hBr
    obtain ⟨nm2,bv,hnm2,rfl,hBO⟩:=hBr
    have hn2:nm2=[]:=by
     have h1:namesS [] []=.ok nm2:=hnm2
     rw [namesS] at h1
     cases h1
     rfl
    subst hn2
    have hsame:breaksM (hasN []) (ptsU (udec 0 t)) (bareF nm' f).rules (bareF nm' f).els=breaksM (hasN nm') (ptsU (udec 0 t)) f.rules f.els:=breaks_bare (fun k s hk p=>by
     have hs:setK nm' k=s:=by unfold setK;rw [hk]
     unfold hasN
     rw [hs,hk]
     simp [kindS]) hrules f.els
    rw [hsame] at hBO
    obtain ⟨ba,bc,rfl⟩:=hBO.slice
    have hlA:(breaksM (hasN nm') (ptsU (udec 0 t)) f.rules f.els).length≤100000:=by have:=breaks_few (has:=hasN nm') (pts:=ptsU (udec 0 t)) f.rules f.els;rw [ptsU_len] at this;omega
    push_cast -dsimp
    refine callK_of (equalN_c _ _ (by omega) _ _ _ _ wb (hAO.below hbb).sl hBO.sl) ?_
    rintro _ wc ⟨rfl,hbc⟩
    rw [decide_eq_true rfl]
    push_cast -dsimp
    exact hbwy.trans ((hba.mono (by omega)).trans ((hbb.mono (by omega)).trans (hbc.mono (by omega))))
end Go.Proofs.YtledlfbbebodgaaGreatDoor
end
