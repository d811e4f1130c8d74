/- Texts of this claim, merged: Op4, Pop, Pv, Op5, Nev2, RowO, RowE, Match, At0, Rev. -/
import Derived.Test.YtemjejfpadnljaaGreatDoorM11
import Derived.Test.YtemjejfpadnljaaGreatDoorM10
set_option maxRecDepth 100000
set_option linter.unusedSimpArgs false
set_option linter.unusedVariables false
set_option maxHeartbeats 8000000
namespace Go.Proofs.YtemjejfpadnljaaGreatDoor
open Go.Vc Go.Proofs Go.RowKit Cae
attribute [local irreducible] cZ ab ai aX runK ar Sl Vc.Own vc aS bu aZ
def PU (c:aD)(is:List Bool)(i:Nat):List Nat:=(List.range (c.ins.length+1)).map λj=>if j<i then fV c is j else 0
def Dr (c:aD)(is:List Bool)(i:Nat):List Bool:=(List.range c.ins.length).map λj=>if j<i then eB c is j else decide (is[j]?=some true)
def rq (l:List Nat):List Value:=l.map λ(n:Nat)=>Value.int .i64 (n:Int)
theorem vR {c:aD}{is:List Bool}{i j:Nat}(h:j<c.ins.length+1):(PU c is i)[j]?=some (if j<i then fV c is j else 0):=by simp[PU,h]
theorem nK {c:aD}{is:List Bool}{i j:Nat}(h:j<c.ins.length):(Dr c is i)[j]?=some (if j<i then eB c is j else decide (is[j]?=some true)):=by simp[Dr,h]
theorem gC (c:aD)(is:List Bool)(i:Nat):(Dr c is i).length=c.ins.length:=by simp[Dr]
theorem r7 (c:aD)(is:List Bool)(i:Nat):(PU c is i).length=c.ins.length+1:=by simp[PU]
theorem ZE (c:aD)(is:List Bool):rq (PU c is 0)=List.replicate (c.ins.length+1) (.int .i64 0):=by
 apply List.ext_getElem?;intro j;unfold rq;rw[List.getElem?_map,List.getElem?_replicate];by_cases h:j<c.ins.length+1
 ·rw[vR h,if_pos h];rfl
 rw[List.getElem?_eq_none (by rw[r7];omega),if_neg h];rfl
theorem XP {c:aD}{is:List Bool}(h:is.length=c.ins.length):Dr c is 0=is:=by
 apply List.ext_getElem?;intro j;by_cases hj:j<c.ins.length
 ·rw[nK hj,if_neg (by omega),List.getElem?_eq_getElem (by omega)];cases is[j]<;>simp
 rw[List.getElem?_eq_none (by rw[gC];omega),List.getElem?_eq_none (by omega)]
theorem K3 {c:aD}{is:List Bool}{i:Nat}(h:i<c.ins.length+1):(rq (PU c is i)).set i (.int .i64 (fV c is i:Int))=rq (PU c is (i+1)):=by
 apply List.ext_getElem?;intro j;unfold rq;rw[List.getElem?_set,List.getElem?_map,List.getElem?_map,List.length_map,r7];by_cases hj:j<c.ins.length+1
 ·rw[vR hj,vR hj];by_cases e:i=j
  ·subst e;rw[if_pos rfl,if_pos h,if_pos (by omega)];rfl
  rw[if_neg e];by_cases h1:j<i
  ·rw[if_pos h1,if_pos (by omega)]
  rw[if_neg h1,if_neg (by omega)]
 rw[List.getElem?_eq_none (by rw[r7];omega),List.getElem?_eq_none (by rw[r7];omega),if_neg (by omega)]
theorem XO {c:aD}{is:List Bool}{i:Nat}(h:i<c.ins.length)(hs:nQ c is i=true):(xZ (Dr c is i)).set i (.bool false)=xZ (Dr c is (i+1)):=by
 apply List.ext_getElem?;intro j;unfold xZ;rw[List.getElem?_set,List.getElem?_map,List.getElem?_map,List.length_map,gC];by_cases hj:j<c.ins.length
 ·rw[nK hj,nK hj];by_cases e:i=j
  ·subst e;rw[if_pos rfl,if_pos h,if_pos (by omega)];unfold eB;rw[hs];simp
  rw[if_neg e];by_cases h1:j<i
  ·rw[if_pos h1,if_pos (by omega)]
  rw[if_neg h1,if_neg (by omega)]
 rw[List.getElem?_eq_none (by rw[gC];omega),List.getElem?_eq_none (by rw[gC];omega),if_neg (by omega)]
theorem ue {c:aD}{is:List Bool}{i:Nat}(h:i<c.ins.length)(hs:nQ c is i=false):Dr c is (i+1)=Dr c is i:=by
 apply List.ext_getElem?;intro j;by_cases hj:j<c.ins.length
 ·rw[nK hj,nK hj];by_cases e:i=j
  ·subst e;rw[if_pos (by omega),if_neg (by omega)];unfold eB;rw[hs];simp
  by_cases h1:j<i
  ·rw[if_pos h1,if_pos (by omega)]
  rw[if_neg h1,if_neg (by omega)]
 rw[List.getElem?_eq_none (by rw[gC];omega),List.getElem?_eq_none (by rw[gC];omega)]
theorem ql {is is':List Bool}(hl:is.length=is'.length):∀(f k:Nat),(∀j,k<=j->is[j]?=is'[j]?)->bS is f k=bS is' f k
 | 0,k,h=>by rw[bS,bS,hl]
 | f+1,k,h=>by
  rw[bS,bS,h k (Nat.le_refl _),hl,ql hl f (k+1) (λj hj=>h j (by omega))]
theorem SQ {c:aD}{is:List Bool}(hl:is.length=c.ins.length){i:Nat}:nL (Dr c is i) i=nL is i:=by
 unfold nL;rw[gC,<-hl];apply ql (by rw[gC,hl]);intro j hj;by_cases h:j<c.ins.length
 ·rw[nK h,if_neg (by omega),List.getElem?_eq_getElem (by omega)];cases is[j]<;>simp
 rw[List.getElem?_eq_none (by rw[gC];omega),List.getElem?_eq_none (by omega)]
theorem zM (k:Nat):∀(used:List Nat) (n:Nat),eA k ((used.zipIdx n).map λp=>(p.1,Value.int .i64 (p.2:Int)))=if k∈used then some (.int .i64 ((Rj k used+n:Nat):Int)) else none
 | [],n=>rfl
 | a::l,n=>by
  rw[List.zipIdx_cons,List.map_cons,eA,Rj];by_cases h:k=a
  ·subst h;simp
  rw[if_neg h,if_neg (Ne.symm h),zM k l (n+1)];simp only[List.mem_cons,h,false_or];congr 3;omega
theorem T4 (l:List Nat)(k:Nat):((l++[k]).zipIdx.map λp=>(p.1,Value.int .i64 (p.2:Int)))=(l.zipIdx.map λp=>(p.1,Value.int .i64 (p.2:Int)))++[(k,Value.int .i64 (l.length:Int))]:=by
 rw[List.zipIdx_append,List.map_append];simp
theorem aBI (c:aD)(hc:CR c)(X:Nat->Prop)(v:Value)(w:World)(hX:∀b,X b->b<w.heap.size)(hv:cM X w v c)(JF:jt c) :
  ar Tryz.prog 113 [v] w λr w'=>(∃is sv iv,r=.agg #[sv,iv]/\sS c is/\dq (λb=>X b\/iv.ownBlock=some b) w' sv (bb c is).sets/\Vc.Own w.heap.size 164 3 bR w' iv (bb c is).ins)/\Below w.heap.size w w':=by
 have hm:=hc.many;have sw:=hc.one;have RW:=hc.sets;have CZ:cM (λ_=>False) w v c:=hv.mono (λ_ _ _=>rfl) (λ_ h=>h.elim);obtain⟨sv,iv,rfl,tE,td⟩:=hv;obtain⟨a,cp,rfl,RG⟩:=td.shape;have G0:=tE.shape;obtain⟨sa,sc,rfl,CY⟩:=G0;refine gi Tryz.func113 rfl (by kernel_rfl) [.cell 2 127] rfl ?_;push_cast -dsimp(maxSteps:=9^7) [Tryz.ntmps113];refine aR ?_;intro w1 aU;have aU:mj w w1 127 [.slice sa c.sets.length sc,.slice a c.ins.length cp]:=aU;have pY:=aU.size;push_cast -dsimp;refine aq (z:=[.slice none 0 0,.slice none 0 0]) (by kernel_rfl) ?_;intro w2 bJ;have Bn:=bJ.size;have dh:Below w.heap.size w w2:=aU.below.trans (bJ.below.mono (by omega));have hC2:aM w2 w.heap.size 127 [.slice sa c.sets.length sc,.slice a c.ins.length cp]:=aU.aL.below bJ.below (by omega);have yO:aM w2 w1.heap.size 127 [.slice none 0 0,.slice none 0 0]:=bJ.aL;have q2:=hC2.aB;simp only[List.length_cons,List.length_nil,Nat.zero_add,Nat.reduceAdd]at q2;push_cast -dsimp[q2];refine aA (Sj c hc _ w2 (CZ.below dh)) ?_;rintro _ w3 ⟨⟨is,sb,rfl,hS3,hCl,uW⟩,gV⟩;have LF:=gV.size;have hC3:=hC2.below gV (by omega);have hR3:=yO.below gV (by omega);have c3:w3.cell? ⟨w.heap.size,1,none⟩=some (.slice a c.ins.length cp):=hC3.cell rfl;have pD:=hS3.lt;push_cast -dsimp[c3];refine⟨⟨by omega,by omega⟩,?_⟩;have aIa:((c.ins.length:Int)+1)=((c.ins.length+1:Nat):Int):=by omega
 rw[aIa];refine xd (z:=.int .i64 0) bo (by kernel_rfl) rfl (by omega) (by omega) ?_;intro w4 ah;have KZ:=ah.size;have hC4:=hC3.below ah.below (by omega);have hR4:=hR3.below ah.below (by omega);have hS4:=hS3.below ah.below (by omega);have hT4:aM w4 w3.heap.size 3 (rq (PU c is 0)):=by rw[ZE];exact ah.aL
 have nn:Below w.heap.size w w4:=dh.trans ((gV.mono (by omega)).trans (ah.below.mono (by omega)));have c4:w4.cell? ⟨w.heap.size,1,none⟩=some (.slice a c.ins.length cp):=hC4.cell rfl;push_cast -dsimp[c4];refine aK [5,6,7,8,25,26,27,28,29,30,31,32,33,34,35,36,37,38,39,40,41,42,43,44,45,46,47,48,49,50,51,52,53,54,55,56,57,58,59,60,61,62,63,64,65] (λz wx=>∃(i:Nat),z 25=.int .i64 i/\z 5=.int .i64 (fV c is i:Int)/\i<=c.ins.length/\aM wx sb 4 (xZ (Dr c is i))/\aM wx w3.heap.size 3 (rq (PU c is i)) /\
   aM wx w.heap.size 127 [.slice sa c.sets.length sc,.slice a c.ins.length cp]/\aM wx w1.heap.size 127 [.slice none 0 0,.slice none 0 0]/\Below w.heap.size w wx/\w4.heap.size<=wx.heap.size) (λz _=>c.ins.length-(intOf (z 25)).toNat) ?_ ?_
 ·exact⟨0,rfl,rfl,Nat.zero_le _,by rw[XP hCl.len];exact hS4,hT4,hC4,hR4,nn,Nat.le_refl _⟩
 intro z wx hI;obtain⟨i,WQ,h5,hi,hSx,hTx,hCx,vw,eV,ya⟩:=hI;push_cast -dsimp[WQ,h5];refine⟨λao=>?_,λeY=>?_⟩
 ·have hg:=ae (l:=c.ins) (i:=i) (by omega);obtain⟨x,hx,mR,_⟩:=hg;have hg:=(td.below eV).get hx;obtain⟨ib,io,rfl,_,hic⟩:=hg;have ci:aB wx ⟨ib,io+i*3,none⟩ 0 3=some [.int .i64 x.op,.int .i64 x.a,.int .i64 x.b]:=aj (bR x) 0 (λj u hu=>by simpa using hic j u hu);push_cast -dsimp[ci];refine⟨⟨by omega,by omega⟩,?_⟩;refine aq (z:=[.int .i64 0,.int .i64 0,.int .i64 0]) (by kernel_rfl) ?_;intro w5 cI;have NQ:=cI.size;push_cast -dsimp;refine aH (n:=3) (by kernel_rfl) cI.aL rfl (by simp) (by simp[Value.oneCell']) ?_;intro w6 bQ;have K0:=bQ.size;have hX6:aM w6 wx.heap.size 164 [.int .i64 x.op,.int .i64 x.a,.int .i64 x.b]:=bQ.aL;have k6:Kept (λj=>j=wx.heap.size) wx w6:=(Kept.new cI).trans bQ.kept (λ_ _ h=>h);have hS6:=hSx.kept k6 (by omega);have CN:=hTx.kept k6 (by omega);have WR:=hCx.kept k6 (by omega);have ZX:=vw.kept k6 (by omega);have ob:Below w.heap.size w w6:=eV.trans (k6.below (by omega) (λ_ h=>by omega));push_cast -dsimp;refine⟨⟨by omega,by omega⟩,?_⟩;refine aC CN (by unfold rq;rw[List.length_map,r7];omega) rfl ?_;intro w7 fB;have yP:=fB.aL;rw[K3 (by omega)]at yP;have K1:=fB.size;have Nz:=hS6.kept fB.kept (by omega);have OA:=hX6.kept fB.kept (by omega);have Tg:=WR.kept fB.kept (by omega);have Ig:=ZX.kept fB.kept (by omega);have lq:Below w.heap.size w w7:=ob.trans (fB.kept.below (by omega) (λ_ h=>by omega));push_cast -dsimp;refine b8 (λw'=>w'=w7.drew) mixed (by kernel_rfl) rfl ?_;have t0:w7.drew.cell? ⟨wx.heap.size,0,none⟩=some (.int .i64 x.op):=OA.drew.cell rfl
  have t1:w7.drew.cell? ⟨wx.heap.size,1,none⟩=some (.int .i64 x.a):=OA.drew.cell rfl;have CQ:∃bi,decide (is[i]?=some true)=bi:=⟨_,rfl⟩;obtain⟨bi,HZ⟩:=CQ;have b0:w7.drew.cell? ⟨sb,i,none⟩=some (.bool bi):=Nz.drew.cell (by unfold xZ;rw[List.getElem?_map,nK (by omega),if_neg (by omega),HZ];rfl);have aBp:nQ c is i=decide (x.op=3/\(nL is i:Int)=x.a/\(i:Int)<x.a):=by unfold nQ;rw[hx]
  push_cast -dsimp[t0,t1];refine⟨λbB hC=>by rw[hC];exact fZ OA.drew rfl,λh3=>?_,λh3=>?_⟩
  ·refine aA (Xr (Dr c is i) (by rw[gC];omega) i (λ_=>False) _ w7.drew ?_ (by rw[gC];omega)) ?_
   ·exact aKW (f:=Value.bool) Nz.drew (gC c is i).symm (by rw[gC];omega)
   rintro _ w8 ⟨rfl,rfl⟩;rw[SQ hCl.len];refine⟨rfl,?_⟩;by_cases H3:(i:Int)<x.a
   ·have he:decide ((i:Int)<x.a)=true:=decide_eq_true H3;push_cast -dsimp[t0,t1,he];refine⟨λbB hC=>by rw[hC];exact fZ OA.drew rfl,λjD=>⟨λbB hC=>by rw[hC];exact fZ OA.drew rfl,?_⟩,λjD=>?_⟩
    ·have JN:nQ c is i=true:=by rw[aBp];exact decide_eq_true ⟨h3,jD,H3⟩
     have CU:eB c is i=false:=by unfold eB;rw[JN];simp
     have rm:fV c is (i+1)=fV c is i:=by rw[fV,if_neg (by rw[CU];simp)]
     have aI2:aM w7.drew sb 4 (xZ (Dr c is i)):=Nz.drew;have kF:∀w8,yd w7.drew w8 sb 4 ((xZ (Dr c is i)).set i (.bool false))->aM w8 sb 4 (xZ (Dr c is (i+1)))/\aM w8 w3.heap.size 3 (rq (PU c is (i+1)))/\aM w8 w.heap.size 127 [.slice sa c.sets.length sc,.slice (some ⟨ib,io,none⟩) c.ins.length cp]/\aM w8 w1.heap.size 127 [.slice none 0 0,.slice none 0 0]/\Below w.heap.size w w8/\w4.heap.size<=w8.heap.size:=λw8 np=>by
      have sz8:w8.heap.size=w7.heap.size:=np.size;refine⟨by rw[<-XO (by omega) JN];exact np.aL,yP.drew.kept np.kept (by omega),Tg.drew.kept np.kept (by omega),Ig.drew.kept np.kept (by omega),lq.drew.trans (np.kept.below (by show w.heap.size<=w7.heap.size;omega) (λ_ h=>by omega)),by omega⟩
     cases bi with
     | true =>
      push_cast -dsimp[b0];refine⟨⟨by omega,by omega⟩,⟨by omega,by omega⟩,?_⟩;refine aC aI2 (by unfold xZ;rw[List.length_map,gC];omega) rfl ?_;intro w8 np;have hf:=kF w8 np;obtain⟨f1,f2,f3,f4,f5,f6⟩:=hf;push_cast -dsimp;exact⟨⟨by omega,by omega⟩,⟨i+1,rfl,by rw[rm],by omega,f1,f2,f3,f4,f5,f6⟩,by rw[WQ];simp only[intOf];omega⟩
     | false =>
      push_cast -dsimp[b0];refine⟨⟨by omega,by omega⟩,⟨by omega,by omega⟩,?_⟩;refine aC aI2 (by unfold xZ;rw[List.length_map,gC];omega) rfl ?_;intro w8 np;have hf:=kF w8 np;obtain⟨f1,f2,f3,f4,f5,f6⟩:=hf;push_cast -dsimp;exact⟨⟨by omega,by omega⟩,⟨i+1,rfl,by rw[rm],by omega,f1,f2,f3,f4,f5,f6⟩,by rw[WQ];simp only[intOf];omega⟩
    have JN:nQ c is i=false:=by rw[aBp];exact decide_eq_false λh=>jD h.2.1
    have CU:eB c is i=bi:=by unfold eB;rw[JN,HZ];simp
    have WY:aM w7.drew sb 4 (xZ (Dr c is (i+1))):=by rw[ue (by omega) JN];exact Nz.drew
    cases bi with
    | true =>
     have rm:fV c is (i+1)=fV c is i+1:=by rw[fV,if_pos CU]
     push_cast -dsimp[b0];have hle:=kl (c:=c) (is:=is) i;exact⟨⟨by omega,by omega⟩,⟨by omega,by omega⟩,⟨by omega,by omega⟩,⟨i+1,rfl,by rw[rm];rfl,by omega,WY,yP.drew,Tg.drew,Ig.drew,lq.drew,by show w4.heap.size<=w7.heap.size;omega⟩,by rw[WQ];simp only[intOf];omega⟩
    | false =>
     have rm:fV c is (i+1)=fV c is i:=by rw[fV,if_neg (by rw[CU];simp)]
     push_cast -dsimp[b0];exact⟨⟨by omega,by omega⟩,⟨by omega,by omega⟩,⟨i+1,rfl,by rw[rm],by omega,WY,yP.drew,Tg.drew,Ig.drew,lq.drew,by show w4.heap.size<=w7.heap.size;omega⟩,by rw[WQ];simp only[intOf];omega⟩
   have he:decide ((i:Int)<x.a)=false:=decide_eq_false H3;have JN:nQ c is i=false:=by rw[aBp];exact decide_eq_false λh=>H3 h.2.2
   push_cast -dsimp[t0,t1,he];refine⟨λbB hC=>by rw[hC];exact fZ OA.drew rfl,λjD=>⟨λbB hC=>by rw[hC];exact fZ OA.drew rfl,?_⟩,λjD=>?_⟩;·
    have CU:eB c is i=bi:=by unfold eB;rw[JN,HZ];simp
    have WY:aM w7.drew sb 4 (xZ (Dr c is (i+1))):=by rw[ue (by omega) JN];exact Nz.drew
    cases bi with
    | true =>
     have rm:fV c is (i+1)=fV c is i+1:=by rw[fV,if_pos CU]
     push_cast -dsimp[b0];have hle:=kl (c:=c) (is:=is) i;exact⟨⟨by omega,by omega⟩,⟨by omega,by omega⟩,⟨by omega,by omega⟩,⟨i+1,rfl,by rw[rm];rfl,by omega,WY,yP.drew,Tg.drew,Ig.drew,lq.drew,by show w4.heap.size<=w7.heap.size;omega⟩,by rw[WQ];simp only[intOf];omega⟩
    | false =>
     have rm:fV c is (i+1)=fV c is i:=by rw[fV,if_neg (by rw[CU];simp)]
     push_cast -dsimp[b0];exact⟨⟨by omega,by omega⟩,⟨by omega,by omega⟩,⟨i+1,rfl,by rw[rm],by omega,WY,yP.drew,Tg.drew,Ig.drew,lq.drew,by show w4.heap.size<=w7.heap.size;omega⟩,by rw[WQ];simp only[intOf];omega⟩
   ·
    have CU:eB c is i=bi:=by unfold eB;rw[JN,HZ];simp
    have WY:aM w7.drew sb 4 (xZ (Dr c is (i+1))):=by rw[ue (by omega) JN];exact Nz.drew
    cases bi with
    | true =>
     have rm:fV c is (i+1)=fV c is i+1:=by rw[fV,if_pos CU]
     push_cast -dsimp[b0];have hle:=kl (c:=c) (is:=is) i;exact⟨⟨by omega,by omega⟩,⟨by omega,by omega⟩,⟨by omega,by omega⟩,⟨i+1,rfl,by rw[rm];rfl,by omega,WY,yP.drew,Tg.drew,Ig.drew,lq.drew,by show w4.heap.size<=w7.heap.size;omega⟩,by rw[WQ];simp only[intOf];omega⟩
    | false =>
     have rm:fV c is (i+1)=fV c is i:=by rw[fV,if_neg (by rw[CU];simp)]
     push_cast -dsimp[b0];exact⟨⟨by omega,by omega⟩,⟨by omega,by omega⟩,⟨i+1,rfl,by rw[rm],by omega,WY,yP.drew,Tg.drew,Ig.drew,lq.drew,by show w4.heap.size<=w7.heap.size;omega⟩,by rw[WQ];simp only[intOf];omega⟩
  have JN:nQ c is i=false:=by rw[aBp];exact decide_eq_false λh=>h3 h.1
  have CU:eB c is i=bi:=by unfold eB;rw[JN,HZ];simp
  have WY:aM w7.drew sb 4 (xZ (Dr c is (i+1))):=by rw[ue (by omega) JN];exact Nz.drew
  cases bi with
  | true =>
   have rm:fV c is (i+1)=fV c is i+1:=by rw[fV,if_pos CU]
   push_cast -dsimp[b0];have hle:=kl (c:=c) (is:=is) i;exact⟨⟨by omega,by omega⟩,⟨by omega,by omega⟩,⟨by omega,by omega⟩,⟨i+1,rfl,by rw[rm];rfl,by omega,WY,yP.drew,Tg.drew,Ig.drew,lq.drew,by show w4.heap.size<=w7.heap.size;omega⟩,by rw[WQ];simp only[intOf];omega⟩
  | false =>
   have rm:fV c is (i+1)=fV c is i:=by rw[fV,if_neg (by rw[CU];simp)]
   push_cast -dsimp[b0];exact⟨⟨by omega,by omega⟩,⟨by omega,by omega⟩,⟨i+1,rfl,by rw[rm],by omega,WY,yP.drew,Tg.drew,Ig.drew,lq.drew,by show w4.heap.size<=w7.heap.size;omega⟩,by rw[WQ];simp only[intOf];omega⟩
 have nG:i=c.ins.length:=by omega
 subst nG;have c1:wx.cell? ⟨w.heap.size,1,none⟩=some (.slice a c.ins.length cp):=hCx.cell rfl;push_cast -dsimp[c1];refine⟨⟨by omega,by omega⟩,?_⟩;refine aC hTx (by unfold rq;rw[List.length_map,r7];omega) rfl ?_;intro w5 cI;have NQ:=cI.size;have hT5:=cI.aL;rw[K3 (by omega)]at hT5;have hS5:=hSx.kept cI.kept (by omega);have hC5:=hCx.kept cI.kept (by omega);have hR5:=vw.kept cI.kept (by omega);have mn:Below w.heap.size w w5:=eV.trans (cI.kept.below (by omega) (λ_ h=>by omega));push_cast -dsimp;refine aq (z:=[.slice none 0 0,.slice none 0 0]) (by kernel_rfl) ?_;intro w6 bQ;have K0:=bQ.size;have CN:=hT5.below bQ.below (by omega);have hS6:=hS5.below bQ.below (by omega);have WR:=hC5.below bQ.below (by omega);have ZX:=hR5.below bQ.below (by omega);have GJ:aM w6 w5.heap.size 127 [.slice none 0 0,.slice none 0 0]:=bQ.aL;have ob:Below w.heap.size w w6:=mn.trans (bQ.below.mono (by omega));push_cast -dsimp;refine Al (key:=λn:Nat=>Value.int .i64 (n:Int)) ?_;intro w7 hM7 Qy K1;have yP:=CN.below Qy (by omega);have Nz:=hS6.below Qy (by omega);have Tg:=WR.below Qy (by omega);have Ig:=ZX.below Qy (by omega);have hO7:=GJ.below Qy (by omega);have lq:Below w.heap.size w w7:=ob.trans (Qy.mono (by omega));have c7:w7.cell? ⟨w.heap.size,1,none⟩=some (.slice a c.ins.length cp):=Tg.cell rfl;push_cast -dsimp[c7];have qE:=dq.values tE;obtain⟨us,aO6,aFW,aFX⟩:=qE
 refine aK [11,12,13,14,76,77,78,79,80,81,82,83,84,85,86,87,88,89,90,91,92,93,94,95,96,97,98,99,100,101,102,103,104,105,106,107,108,109,110,111,112,113,114,115,116,117,118,119,120,121,122,123,124,125,126,127,128,129,130,131,132,133,134,135,136,137,138,139,140,141,142,143,144,145,146,147] (λz wx=>∃(i:Nat) (ov iv:Value),z 76=.int .i64 i/\i<=c.ins.length/\aM wx w5.heap.size 127 [ov,iv]/\Vc.Own w4.heap.size 139 1 jb wx ov ((a7 c is i).used.map λa=>us.getD a ⟨none,0,0⟩)/\Vc.Own w4.heap.size 164 3 bR wx iv (a7 c is i).ins /\
   mi (λn:Nat=>Value.int .i64 (n:Int)) wx w6.heap.size ((a7 c is i).used.zipIdx.map λp=>(p.1,.int .i64 (p.2:Int)))/\aM wx sb 4 (xZ (Dr c is c.ins.length))/\aM wx w3.heap.size 3 (rq (PU c is (c.ins.length+1))) /\
   aM wx w.heap.size 127 [.slice sa c.sets.length sc,.slice a c.ins.length cp]/\aM wx w1.heap.size 127 [.slice none 0 0,.slice none 0 0]/\Below w.heap.size w wx/\w7.heap.size<=wx.heap.size /\
   (∀g,ov.ownBlock=some g->w7.heap.size<=g)/\(∀g,iv.ownBlock=some g->w7.heap.size<=g)) (λz _=>c.ins.length-(intOf (z 76)).toNat) ?_ ?_
 ·exact⟨0,_,_,rfl,Nat.zero_le _,hO7,Vc.Own.nil (enc:=jb) _ _ (λ_=>rfl) _,Vc.Own.nil (enc:=bR) _ _ (λ_=>rfl) _,hM7,Nz,yP,Tg,Ig,lq,Nat.le_refl _,λg h=>by simp[Value.ownBlock]at h,λg h=>by simp[Value.ownBlock]at h⟩
 intro z wx hI;obtain⟨i,ov,iv',h76,hi,Qt,oI,jD,CL,hSx,hTx,hCx,vw,eV,ya,gH,JJ⟩:=hI;push_cast -dsimp[h76];refine⟨λao=>?_,λeY=>?_⟩
 ·have hg:=ae (l:=c.ins) (i:=i) (by omega);obtain⟨x,hx,mR,_⟩:=hg;have hg:=(td.below eV).get hx;obtain⟨ib,io,rfl,_,hic⟩:=hg;have ci:aB wx ⟨ib,io+i*3,none⟩ 0 3=some [.int .i64 x.op,.int .i64 x.a,.int .i64 x.b]:=aj (bR x) 0 (λj u hu=>by simpa using hic j u hu);push_cast -dsimp[ci];refine⟨⟨by omega,by omega⟩,?_⟩;refine aq (z:=[.int .i64 0,.int .i64 0,.int .i64 0]) (by kernel_rfl) ?_;intro wa fy;have Ty:=fy.size;push_cast -dsimp;refine aH (n:=3) (by kernel_rfl) fy.aL rfl (by simp) (by simp[Value.oneCell']) ?_;intro wb dH;have NR:=dH.size;have GK:aM wb wx.heap.size 164 [.int .i64 x.op,.int .i64 x.a,.int .i64 x.b]:=dH.aL;have kb:Kept (λj=>j=wx.heap.size) wx wb:=(Kept.new fy).trans dH.kept (λ_ _ h=>h);have hSb:=hSx.kept kb (by omega);have hTb:=hTx.kept kb (by omega);have hCb:=hCx.kept kb (by omega);have Nx:=vw.kept kb (by omega);have hOb:=Qt.kept kb (by omega);have hMb:=CL.kept kb (by omega);have uW:=oI.aJ kb (λg hg h=>by have:=oI.block g hg;omega);have mO:=jD.aJ kb (λg hg h=>by have:=jD.block g hg;omega);have j7:Below w.heap.size w wb:=eV.trans (kb.below (by omega) (λ_ h=>by omega));have CQ:∃bi,eB c is i=bi:=⟨_,rfl⟩;obtain⟨bi,HZ⟩:=CQ;have b0:wb.cell? ⟨sb,i,none⟩=some (.bool bi):=hSb.cell (by unfold xZ;rw[List.getElem?_map,nK (by omega),if_pos (by omega),HZ];rfl);have t0:wb.cell? ⟨wx.heap.size,0,none⟩=some (.int .i64 x.op):=GK.cell rfl;cases bi with
  | false =>
   have cJ:a7 c is (i+1)=a7 c is i:=by rw[a7];unfold uk;rw[hx];dsimp only;rw[if_neg (by rw[HZ];simp)]
   push_cast -dsimp[b0];rw[<-cJ]at uW mO hMb;exact⟨⟨by omega,by omega⟩,⟨by omega,by omega⟩,⟨i+1,ov,iv',rfl,by omega,hOb,uW,mO,hMb,hSb,hTb,hCb,Nx,j7,by omega,gH,JJ⟩,by rw[h76];simp only[intOf];omega⟩
  | true =>
   have cJ:a7 c is (i+1)=⟨qB (a7 c is i).used x,(a7 c is i).ins++[jX c is (a7 c is i).used x]⟩:=by rw[a7];unfold uk;rw[hx];dsimp only;rw[if_pos HZ]
   push_cast -dsimp[b0,t0];refine⟨⟨by omega,by omega⟩,λh1=>?_,λh1=>⟨λh3=>?_,λh3=>⟨λh2=>?_,λh2=>?_⟩⟩⟩
   ·have hop:x.op≠2/\x.op≠3/\x.op≠4/\x.op≠5:=by omega
    have hj:=iW hc hx hop;have GL:x.a=((x.a.toNat:Nat):Int):=by rw[Int.toNat_of_nonneg hj.2.1]
    have t1:wb.cell? ⟨wx.heap.size,1,none⟩=some (.int .i64 x.a):=GK.cell rfl;have AS:Value.int .i64 x.a=(λn:Nat=>Value.int .i64 (n:Int)) x.a.toNat:=by dsimp only;rw[<-GL]
    have has:=zM x.a.toNat (a7 c is i).used 0;push_cast -dsimp[t1];by_cases yU:x.a.toNat∈(a7 c is i).used
    ·rw[if_pos yU]at has;refine pK (kt:=3) (et:=3) (z:=.int .i64 0) (by kernel_rfl) (M5 (by kernel_rfl)) (by kernel_rfl) hMb AS has ?_;push_cast -dsimp;refine aC GK (by simp) rfl ?_;intro wc jW;have Za:=jW.size;have Cs:aM wc wx.heap.size 164 (bR (jX c is (a7 c is i).used x)):=by
      unfold jX;rw[if_pos h1,if_pos yU];exact jW.aL
     have FR:qB (a7 c is i).used x=(a7 c is i).used:=by unfold qB;rw[if_pos h1,if_pos yU]
     rw[FR]at cJ;have hk:=jW.kept;have hSc:=hSb.kept hk (by omega);have hTc:=hTb.kept hk (by omega);have hCc:=hCb.kept hk (by omega);have CM:=Nx.kept hk (by omega);have yN:=hOb.kept hk (by omega);have hMc:=hMb.kept hk (by omega);have CY:=uW.aJ hk (λg hg h=>by have:=oI.block g hg;omega);have wJ:=mO.aJ hk (λg hg h=>by have:=jD.block g hg;omega);have vy:Below w.heap.size w wc:=j7.trans (hk.below (by omega) (λ_ h=>by omega));have su:=gH;have OP:∃Gs,Gs=ov:=⟨_,rfl⟩;obtain⟨Gs,rfl⟩:=OP;have DA:∃y,jX c is (a7 c is i).used x=y:=⟨_,rfl⟩;obtain⟨y,hy⟩:=DA;rw[hy]at Cs;have hlen:=(dm hc (is:=is) i hi).len;have aA8:=kl (c:=c) (is:=is) i;have Zr:wc.cell? ⟨w5.heap.size,1,none⟩=some iv':=yN.cell rfl;have x33:aB wc ⟨wx.heap.size,0,none⟩ 0 3=some [.int .i64 y.op,.int .i64 y.a,.int .i64 y.b]:=Cs.aB;have hns:=wJ.slice;obtain⟨G3,inc,rfl⟩:=hns;push_cast -dsimp[Zr,x33];refine cH ep rfl rfl (by omega) ?_;intro wd iU;have Zb:=iU.size;push_cast -dsimp;refine aW (base:=w4.heap.size) [y] (enc:=bR) ep (wJ.new iU) (by rfl) (λj u hu=>by simpa[bR] using iU.cell hu) jB (by simp only[List.length_cons,List.length_nil];omega) (by omega) ?_;intro ve we yW eY DE;have qF:∀g,(Value.slice G3 (a7 c is i).ins.length inc).ownBlock=some g->g≠sb/\g≠w3.heap.size/\g≠w.heap.size/\g≠w1.heap.size/\g≠w5.heap.size/\g≠w6.heap.size:=λg hg=>by have:=JJ g hg;omega
     have eR:Kept (λj=>(Value.slice G3 (a7 c is i).ins.length inc).ownBlock=some j) wd we:=Kept.grown eY (λ_ h=>h);have lY:Kept (λj=>(Value.slice G3 (a7 c is i).ins.length inc).ownBlock=some j) wc we:=(Kept.new iU).trans eR (λ_ _ h=>h);have hSe:=hSc.kept lY (λh=>(qF _ h).1 rfl);have hTe:=hTc.kept lY (λh=>(qF _ h).2.1 rfl);have hCe:=hCc.kept lY (λh=>(qF _ h).2.2.1 rfl);have Ny:=CM.kept lY (λh=>(qF _ h).2.2.2.1 rfl);have Qr:=yN.kept lY (λh=>(qF _ h).2.2.2.2.1 rfl);have WV:=hMc.kept lY (λh=>(qF _ h).2.2.2.2.2 rfl);have DG:=CY.aJ lY (λg hg h=>qp CY wJ (by decide) g hg h);have so:Below w.heap.size w we:=vy.trans (lY.below (by omega) (λg h=>by have:=JJ g h;omega));have LG:=lY.size;have G1:=yW.slice;obtain⟨ea,ec,rfl⟩:=G1;push_cast -dsimp;refine aC Qr (by simp) rfl ?_;intro wf iH;have szf:=iH.size;push_cast -dsimp;have uT:∀g,(Value.slice ea ((a7 c is i).ins++[y]).length ec).ownBlock=some g->w7.heap.size<=g:=λg hg=>by
      rcases DE g hg with h|h
      ·exact JJ g h
      omega
     refine⟨⟨by omega,by omega⟩,⟨i+1,Gs,_,rfl,by omega,iH.aL,?_,?_,?_,hSe.kept iH.kept (by omega),hTe.kept iH.kept (by omega),hCe.kept iH.kept (by omega),Ny.kept iH.kept (by omega),so.trans (iH.kept.below (by omega) (λ_ h=>by omega)),by omega,su,uT⟩,by rw[h76];simp only[intOf];omega⟩
     ·rw[cJ];exact DG.aJ iH.kept (λg hg h=>by have:=su g hg;omega)
     ·rw[cJ,hy];exact yW.aJ iH.kept (λg hg h=>by have:=uT g hg;omega)
     rw[cJ];exact WV.kept iH.kept (by omega)
    rw[if_neg yU]at has;refine pJ (kt:=3) (et:=3) (z:=.int .i64 0) (by kernel_rfl) (M5 (by kernel_rfl)) (by kernel_rfl) hMb AS has ?_;have Hb:(a7 c is i).used.length<=c.sets.length:=nM _ _ (dm hc (is:=is) i hi).nodup (dm hc (is:=is) i hi).used;have hos:=uW.slice;obtain⟨oa,oc,rfl⟩:=hos;rw[List.length_map]at hOb gH uW;have c30:wb.cell? ⟨w5.heap.size,0,none⟩=some (.slice oa (a7 c is i).used.length oc):=hOb.cell rfl;have XH:=List.getElem?_eq_getElem (l:=us) (i:=x.a.toNat) (by omega);have hug:=aFW.get XH;obtain⟨ub,uo,rfl,_,huc⟩:=hug;have huv:∃u,us[x.a.toNat]'(by omega)=u:=⟨_,rfl⟩;obtain⟨u,hu⟩:=huv;rw[hu]at XH huc;have csv:w.cell? ⟨ub,uo+x.a.toNat,none⟩=some u.v:=by
     have:=huc 0 _ rfl;rwa [Nat.mul_one,Nat.add_zero]at this
    have aUV:ub<w.heap.size:=World.block_lt_of_cell? w _ csv;have csb:wb.cell? ⟨ub,uo+x.a.toNat,none⟩=some u.v:=(Kept.aN j7 (X:=λ_=>False) (λk hk hl=>by omega)).cell csv id;push_cast -dsimp[c30,t1];refine jH (kt:=3) (et:=3) (by kernel_rfl) (M5 (by kernel_rfl)) hMb AS has ?_;intro wm hMm vW szm;rw[<-T4]at hMm;have hOm:=hOb.kept vW (by omega);have hCm:=hCb.kept vW (by omega);have hXm:=GK.kept vW (by omega);have aOV:=uW.aJ vW (λg hg h=>by have:=gH g hg;omega);have csm:wm.cell? ⟨ub,uo+x.a.toNat,none⟩=some u.v:=vW.cell csb (by show ¬ub=_;omega)
    push_cast -dsimp;refine Bz [0,1,2,3,4,5,6,7,8] 9 [10,11] (λw'=>aM w' w5.heap.size 127 [.slice oa (a7 c is i).used.length oc,iv']/\aM w' w.heap.size 127 [.slice (some ⟨ub,uo,none⟩) c.sets.length sc,.slice (some ⟨ib,io,none⟩) c.ins.length cp]/\aM w' wx.heap.size 164 [.int .i64 x.op,.int .i64 x.a,.int .i64 x.b]/\w'.cell? ⟨ub,uo+x.a.toNat,none⟩=some u.v) mixed (by kernel_rfl) ⟨hOm.drew,hCm.drew,hXm.drew,csm⟩ ?_;have d1:wm.drew.cell? ⟨w5.heap.size,0,none⟩=some (.slice oa (a7 c is i).used.length oc):=hOm.drew.cell rfl;have d2:wm.drew.cell? ⟨w.heap.size,0,none⟩=some (.slice (some ⟨ub,uo,none⟩) c.sets.length sc):=hCm.drew.cell rfl;have d3:wm.drew.cell? ⟨wx.heap.size,1,none⟩=some (.int .i64 x.a):=hXm.drew.cell rfl;have d4:wm.drew.cell? ⟨ub,uo+x.a.toNat,none⟩=some u.v:=csm;push_cast -dsimp[d1,d2,d3,d4];refine⟨λbB hC=>fZ hC.1 rfl,λbB hC=>fZ hC.2.1 rfl,λbB hC=>fZ hC.2.2.1 rfl,⟨by omega,by omega⟩,λbB hC=>by rw[hC.2.2.2];exact rfl,?_⟩;refine cH nD rfl rfl (by omega) ?_;intro wn hwn;have szn:wn.heap.size=wm.heap.size+1:=hwn.size;have kn:Kept (λ_=>False) wm wn:=((Kept.refl (λ_=>False) wm).drew).trans (Kept.new (X:=λ_=>False) hwn) (λ_ _ h=>h);have hOn:=hOm.kept kn id;have W0:=hXm.kept kn id;refine⟨⟨hOn,hCm.kept kn id,W0,kn.cell csm id⟩,?_⟩;push_cast -dsimp;have hsn:=aOV.aJ kn (λg hg h=>h.elim)
    refine aW (base:=w4.heap.size) [u] (enc:=jb) nD hsn (by rfl) (λj v' OU=>by simpa[jb] using hwn.cell OU) vr (by simp only[List.length_cons,List.length_nil,List.length_map];omega) (by omega) ?_;intro ov' wo hoo Kw aFE;have aFJ:=hoo.slice;obtain⟨oa',oc',rfl⟩:=aFJ;have il:∃X,X=(λj=>(Value.slice oa (a7 c is i).used.length oc).ownBlock=some j):=⟨_,rfl⟩;obtain⟨Xo,hXo⟩:=il;have ko:Kept Xo wn wo:=Kept.grown Kw (λk h=>by rw[hXo];exact h);have OA:∀g,Xo g->w7.heap.size<=g/\g<wx.heap.size:=λg hg=>by
     rw[hXo]at hg;exact⟨gH g hg,(oI.block g (by rw[List.length_map];exact hg)).2⟩
    have szo:=ko.size;have hOo:=hOn.kept ko (λh=>by have:=OA _ h;omega);have aM9:=W0.kept ko (λh=>by have:=OA _ h;omega);refine⟨trivial,?_⟩;push_cast -dsimp;refine aC hOo (by simp) rfl ?_;intro wp hwp;have szp:wp.heap.size=wo.heap.size:=hwp.size;have hXp:=aM9.kept hwp.kept (by omega);refine⟨trivial,?_⟩;push_cast -dsimp;refine aC hXp (by simp) rfl ?_;intro wc jW;have Za:wc.heap.size=wp.heap.size:=jW.size;have Rt:Kept (λj=>j=w6.heap.size\/j=w5.heap.size\/j=wx.heap.size\/Xo j) wb wc:=by
     refine((((vW.trans kn (λ_ _ h=>h.elim)).weaken (Y:=λj=>j=w6.heap.size\/j=w5.heap.size\/j=wx.heap.size\/Xo j) (λ_ _ h=>.inl h)).trans ko (λ_ _ h=>.inr (.inr (.inr h)))).trans hwp.kept (λ_ _ h=>.inr (.inl h))).trans jW.kept (λ_ _ h=>.inr (.inr (.inl h)))
    have aBf:∀k,k<w7.heap.size->k≠w6.heap.size->k≠w5.heap.size->¬(k=w6.heap.size\/k=w5.heap.size\/k=wx.heap.size\/Xo k):=λk h1 h2 h3 h=>by
     rcases h with h|h|h|h
     ·exact h2 h
     ·exact h3 h
     ·omega
     have:=OA k h;omega
    have Cs:aM wc wx.heap.size 164 (bR (jX c is (a7 c is i).used x)):=by
     unfold jX;rw[if_pos h1,if_neg yU];exact jW.aL
    have FR:qB (a7 c is i).used x=(a7 c is i).used++[x.a.toNat]:=by unfold qB;rw[if_pos h1,if_neg yU]
    rw[FR]at cJ;have hSc:=hSb.kept Rt (aBf _ (by omega) (by omega) (by omega));have hTc:=hTb.kept Rt (aBf _ (by omega) (by omega) (by omega));have hCc:=hCb.kept Rt (aBf _ (by omega) (by omega) (by omega));have CM:=Nx.kept Rt (aBf _ (by omega) (by omega) (by omega));have yN:=hwp.aL.kept jW.kept (by omega);have hMc:=(((hMm.kept kn id).kept ko (λh=>by have:=OA _ h;omega)).kept hwp.kept (by omega)).kept jW.kept (by omega);have aBd:∀g,(Value.slice oa' (((a7 c is i).used.map λa=>us.getD a ⟨none,0,0⟩)++[u]).length oc').ownBlock=some g->w7.heap.size<=g/\g≠wx.heap.size:=λg hg=>by
     rcases aFE g hg with h|h
     ·have:=OA g (by rw[hXo];simpa using h);omega
     omega
    have CY:=(hoo.aJ hwp.kept (λg hg h=>by have:=aBd g hg;omega)).aJ jW.kept (λg hg h=>by have:=aBd g hg;omega);have wJ:=mO.aJ Rt (λg hg h=>by
     have h1:=JJ g hg;have h2:=(jD.block g hg).2;rcases h with h|h|h|h
     ·omega
     ·omega
     ·omega
     rw[hXo]at h;exact qp jD oI (by decide) g hg (by rw[List.length_map];exact h))
    have vy:Below w.heap.size w wc:=j7.trans (Rt.below (by omega) (λk h=>by
     rcases h with h|h|h|h
     ·omega
     ·omega
     ·omega
     have:=OA k h;omega))
    have ems:((a7 c is i).used.map λa=>us.getD a ⟨none,0,0⟩)++[u]=((a7 c is i).used++[x.a.toNat]).map λa=>us.getD a ⟨none,0,0⟩:=by
     rw[List.map_append];simp only[List.map_cons,List.map_nil,List.getD_eq_getElem?_getD,XH,Option.getD_some]
    rw[ems]at CY yN aBd;have su:=λg hg=>(aBd g hg).1;have OP:∃Gs,Gs=Value.slice oa' (((a7 c is i).used++[x.a.toNat]).map λa=>us.getD a ⟨none,0,0⟩).length oc':=⟨_,rfl⟩;obtain⟨Gs,aOF⟩:=OP;rw[<-aOF]at CY yN su;have DA:∃y,jX c is (a7 c is i).used x=y:=⟨_,rfl⟩;obtain⟨y,hy⟩:=DA;rw[hy]at Cs;have hlen:=(dm hc (is:=is) i hi).len;have aA8:=kl (c:=c) (is:=is) i;have Zr:wc.cell? ⟨w5.heap.size,1,none⟩=some iv':=yN.cell rfl;have x33:aB wc ⟨wx.heap.size,0,none⟩ 0 3=some [.int .i64 y.op,.int .i64 y.a,.int .i64 y.b]:=Cs.aB;have hns:=wJ.slice;obtain⟨G3,inc,rfl⟩:=hns;push_cast -dsimp[Zr,x33];refine cH ep rfl rfl (by omega) ?_;intro wd iU;have Zb:=iU.size;push_cast -dsimp;refine aW (base:=w4.heap.size) [y] (enc:=bR) ep (wJ.new iU) (by rfl) (λj u hu=>by simpa[bR] using iU.cell hu) jB (by simp only[List.length_cons,List.length_nil];omega) (by omega) ?_;intro ve we yW eY DE;have qF:∀g,(Value.slice G3 (a7 c is i).ins.length inc).ownBlock=some g->g≠sb/\g≠w3.heap.size/\g≠w.heap.size/\g≠w1.heap.size/\g≠w5.heap.size/\g≠w6.heap.size:=λg hg=>by have:=JJ g hg;omega
    have eR:Kept (λj=>(Value.slice G3 (a7 c is i).ins.length inc).ownBlock=some j) wd we:=Kept.grown eY (λ_ h=>h);have lY:Kept (λj=>(Value.slice G3 (a7 c is i).ins.length inc).ownBlock=some j) wc we:=(Kept.new iU).trans eR (λ_ _ h=>h);have hSe:=hSc.kept lY (λh=>(qF _ h).1 rfl);have hTe:=hTc.kept lY (λh=>(qF _ h).2.1 rfl);have hCe:=hCc.kept lY (λh=>(qF _ h).2.2.1 rfl);have Ny:=CM.kept lY (λh=>(qF _ h).2.2.2.1 rfl);have Qr:=yN.kept lY (λh=>(qF _ h).2.2.2.2.1 rfl);have WV:=hMc.kept lY (λh=>(qF _ h).2.2.2.2.2 rfl);have DG:=CY.aJ lY (λg hg h=>qp CY wJ (by decide) g hg h);have so:Below w.heap.size w we:=vy.trans (lY.below (by omega) (λg h=>by have:=JJ g h;omega));have LG:=lY.size;have G1:=yW.slice;obtain⟨ea,ec,rfl⟩:=G1;push_cast -dsimp;refine aC Qr (by simp) rfl ?_;intro wf iH;have szf:=iH.size;push_cast -dsimp;have uT:∀g,(Value.slice ea ((a7 c is i).ins++[y]).length ec).ownBlock=some g->w7.heap.size<=g:=λg hg=>by
     rcases DE g hg with h|h
     ·exact JJ g h
     omega
    refine⟨⟨by omega,by omega⟩,⟨i+1,Gs,_,rfl,by omega,iH.aL,?_,?_,?_,hSe.kept iH.kept (by omega),hTe.kept iH.kept (by omega),hCe.kept iH.kept (by omega),Ny.kept iH.kept (by omega),so.trans (iH.kept.below (by omega) (λ_ h=>by omega)),by omega,su,uT⟩,by rw[h76];simp only[intOf];omega⟩
    ·rw[cJ];exact DG.aJ iH.kept (λg hg h=>by have:=su g hg;omega)
    ·rw[cJ,hy];exact yW.aJ iH.kept (λg hg h=>by have:=uT g hg;omega)
    rw[cJ];exact WV.kept iH.kept (by omega)
   ·have hj:=iV hc hx h3;have GL:x.a=((x.a.toNat:Nat):Int):=by rw[Int.toNat_of_nonneg hj.1]
    have t1:wb.cell? ⟨wx.heap.size,1,none⟩=some (.int .i64 x.a):=GK.cell rfl;have tt:wb.cell? ⟨w3.heap.size,x.a.toNat,none⟩=some (.int .i64 (fV c is x.a.toNat:Int)):=hTb.cell (by unfold rq;rw[List.getElem?_map,vR (by omega),if_pos (by omega)];rfl);push_cast -dsimp[t1,tt];refine⟨⟨by omega,by omega⟩,?_⟩;refine aC GK (by simp) rfl ?_;intro wc jW;have Za:=jW.size;have Cs:aM wc wx.heap.size 164 (bR (jX c is (a7 c is i).used x)):=by
     unfold jX;rw[if_neg h1,if_pos h3];exact jW.aL
    have FR:qB (a7 c is i).used x=(a7 c is i).used:=by unfold qB;rw[if_neg h1]
    rw[FR]at cJ;have hk:=jW.kept;have hSc:=hSb.kept hk (by omega);have hTc:=hTb.kept hk (by omega);have hCc:=hCb.kept hk (by omega);have CM:=Nx.kept hk (by omega);have yN:=hOb.kept hk (by omega);have hMc:=hMb.kept hk (by omega);have CY:=uW.aJ hk (λg hg h=>by have:=oI.block g hg;omega);have wJ:=mO.aJ hk (λg hg h=>by have:=jD.block g hg;omega);have vy:Below w.heap.size w wc:=j7.trans (hk.below (by omega) (λ_ h=>by omega));have su:=gH;have OP:∃Gs,Gs=ov:=⟨_,rfl⟩;obtain⟨Gs,rfl⟩:=OP;have DA:∃y,jX c is (a7 c is i).used x=y:=⟨_,rfl⟩;obtain⟨y,hy⟩:=DA;rw[hy]at Cs;have hlen:=(dm hc (is:=is) i hi).len;have aA8:=kl (c:=c) (is:=is) i;have Zr:wc.cell? ⟨w5.heap.size,1,none⟩=some iv':=yN.cell rfl;have x33:aB wc ⟨wx.heap.size,0,none⟩ 0 3=some [.int .i64 y.op,.int .i64 y.a,.int .i64 y.b]:=Cs.aB;have hns:=wJ.slice;obtain⟨G3,inc,rfl⟩:=hns;push_cast -dsimp[Zr,x33];refine cH ep rfl rfl (by omega) ?_;intro wd iU;have Zb:=iU.size;push_cast -dsimp;refine aW (base:=w4.heap.size) [y] (enc:=bR) ep (wJ.new iU) (by rfl) (λj u hu=>by simpa[bR] using iU.cell hu) jB (by simp only[List.length_cons,List.length_nil];omega) (by omega) ?_;intro ve we yW eY DE;have qF:∀g,(Value.slice G3 (a7 c is i).ins.length inc).ownBlock=some g->g≠sb/\g≠w3.heap.size/\g≠w.heap.size/\g≠w1.heap.size/\g≠w5.heap.size/\g≠w6.heap.size:=λg hg=>by have:=JJ g hg;omega
    have eR:Kept (λj=>(Value.slice G3 (a7 c is i).ins.length inc).ownBlock=some j) wd we:=Kept.grown eY (λ_ h=>h);have lY:Kept (λj=>(Value.slice G3 (a7 c is i).ins.length inc).ownBlock=some j) wc we:=(Kept.new iU).trans eR (λ_ _ h=>h);have hSe:=hSc.kept lY (λh=>(qF _ h).1 rfl);have hTe:=hTc.kept lY (λh=>(qF _ h).2.1 rfl);have hCe:=hCc.kept lY (λh=>(qF _ h).2.2.1 rfl);have Ny:=CM.kept lY (λh=>(qF _ h).2.2.2.1 rfl);have Qr:=yN.kept lY (λh=>(qF _ h).2.2.2.2.1 rfl);have WV:=hMc.kept lY (λh=>(qF _ h).2.2.2.2.2 rfl);have DG:=CY.aJ lY (λg hg h=>qp CY wJ (by decide) g hg h);have so:Below w.heap.size w we:=vy.trans (lY.below (by omega) (λg h=>by have:=JJ g h;omega));have LG:=lY.size;have G1:=yW.slice;obtain⟨ea,ec,rfl⟩:=G1;push_cast -dsimp;refine aC Qr (by simp) rfl ?_;intro wf iH;have szf:=iH.size;push_cast -dsimp;have uT:∀g,(Value.slice ea ((a7 c is i).ins++[y]).length ec).ownBlock=some g->w7.heap.size<=g:=λg hg=>by
     rcases DE g hg with h|h
     ·exact JJ g h
     omega
    refine⟨⟨by omega,by omega⟩,⟨i+1,Gs,_,rfl,by omega,iH.aL,?_,?_,?_,hSe.kept iH.kept (by omega),hTe.kept iH.kept (by omega),hCe.kept iH.kept (by omega),Ny.kept iH.kept (by omega),so.trans (iH.kept.below (by omega) (λ_ h=>by omega)),by omega,su,uT⟩,by rw[h76];simp only[intOf];omega⟩
    ·rw[cJ];exact DG.aJ iH.kept (λg hg h=>by have:=su g hg;omega)
    ·rw[cJ,hy];exact yW.aJ iH.kept (λg hg h=>by have:=uT g hg;omega)
    rw[cJ];exact WV.kept iH.kept (by omega)
   ·have hj:=mS hc hx h2;have GL:x.a=((x.a.toNat:Nat):Int):=by rw[Int.toNat_of_nonneg hj.1]
    have Qz:x.b=((x.b.toNat:Nat):Int):=by rw[Int.toNat_of_nonneg hj.2.2.1]
    have hTd:aM wb.drew w3.heap.size 3 (rq (PU c is (c.ins.length+1))):=hTb.drew;refine ZO [(0,false),(1,false),(2,false),(3,false),(4,false),(5,true),(6,false),(7,false),(8,true),(9,true),(10,false)] 11 [12,13] (λw'=>w'=wb.drew) (λw'=>aM w' w3.heap.size 3 (rq (PU c is (c.ins.length+1)))) mixed (by kernel_rfl) (λw' h=>by rw[h];exact hTd) rfl ?_;have t1:wb.drew.cell? ⟨wx.heap.size,1,none⟩=some (.int .i64 x.a):=GK.drew.cell rfl;have t2:wb.drew.cell? ⟨wx.heap.size,2,none⟩=some (.int .i64 x.b):=GK.drew.cell rfl;have gt:∀(n:Nat),n<c.ins.length->(rq (PU c is (c.ins.length+1)))[n]?=some (.int .i64 (fV c is n:Int)):=λn hn=>by unfold rq;rw[List.getElem?_map,vR (by omega),if_pos (by omega)];rfl
    have ta:wb.drew.cell? ⟨w3.heap.size,x.a.toNat,none⟩=some (.int .i64 (fV c is x.a.toNat:Int)):=hTd.cell (gt _ (by omega));have tb:wb.drew.cell? ⟨w3.heap.size,x.b.toNat,none⟩=some (.int .i64 (fV c is x.b.toNat:Int)):=hTd.cell (gt _ (by omega));push_cast -dsimp[t1,t2,ta,tb];refine⟨λbB hC=>by rw[hC];exact fZ GK.drew rfl,⟨by omega,by omega⟩,λbB hC=>by rw[hC];exact fZ hTd (gt _ (by omega)),λbB hC=>by rw[hC];exact fZ GK.drew rfl,⟨by omega,by omega⟩,λbB hC=>fZ hC (gt _ (by omega)),?_⟩;refine aC GK.drew (by simp) rfl ?_;intro wc1 aBq;have aPA:wc1.heap.size=wb.heap.size:=aBq.size;have aI3:=hTd.kept aBq.kept (by omega);refine⟨aI3,?_⟩;push_cast -dsimp;refine aC aBq.aL (by simp) rfl ?_;intro wc jW;have Za:wc.heap.size=wb.heap.size:=jW.size.trans aPA;refine⟨aI3.kept jW.kept (by omega),?_⟩;have Cs:aM wc wx.heap.size 164 (bR (jX c is (a7 c is i).used x)):=by
     unfold jX;rw[if_neg h1,if_neg h3,if_pos h2];exact jW.aL
    have FR:qB (a7 c is i).used x=(a7 c is i).used:=by unfold qB;rw[if_neg h1]
    rw[FR]at cJ;have hk:Kept (λj=>j=wx.heap.size) wb wc:=(((Kept.refl (λj=>j=wx.heap.size) wb).drew).trans aBq.kept (λ_ _ h=>h)).trans jW.kept (λ_ _ h=>h);have hSc:=hSb.kept hk (by omega);have hTc:=hTb.kept hk (by omega);have hCc:=hCb.kept hk (by omega);have CM:=Nx.kept hk (by omega);have yN:=hOb.kept hk (by omega);have hMc:=hMb.kept hk (by omega);have CY:=uW.aJ hk (λg hg h=>by have:=oI.block g hg;omega);have wJ:=mO.aJ hk (λg hg h=>by have:=jD.block g hg;omega);have vy:Below w.heap.size w wc:=j7.trans (hk.below (by omega) (λ_ h=>by omega));have su:=gH;have OP:∃Gs,Gs=ov:=⟨_,rfl⟩;obtain⟨Gs,rfl⟩:=OP;have DA:∃y,jX c is (a7 c is i).used x=y:=⟨_,rfl⟩;obtain⟨y,hy⟩:=DA;rw[hy]at Cs;have hlen:=(dm hc (is:=is) i hi).len;have aA8:=kl (c:=c) (is:=is) i;have Zr:wc.cell? ⟨w5.heap.size,1,none⟩=some iv':=yN.cell rfl;have x33:aB wc ⟨wx.heap.size,0,none⟩ 0 3=some [.int .i64 y.op,.int .i64 y.a,.int .i64 y.b]:=Cs.aB;have hns:=wJ.slice;obtain⟨G3,inc,rfl⟩:=hns;push_cast -dsimp[Zr,x33];refine cH ep rfl rfl (by omega) ?_;intro wd iU;have Zb:=iU.size;push_cast -dsimp;refine aW (base:=w4.heap.size) [y] (enc:=bR) ep (wJ.new iU) (by rfl) (λj u hu=>by simpa[bR] using iU.cell hu) jB (by simp only[List.length_cons,List.length_nil];omega) (by omega) ?_;intro ve we yW eY DE;have qF:∀g,(Value.slice G3 (a7 c is i).ins.length inc).ownBlock=some g->g≠sb/\g≠w3.heap.size/\g≠w.heap.size/\g≠w1.heap.size/\g≠w5.heap.size/\g≠w6.heap.size:=λg hg=>by have:=JJ g hg;omega
    have eR:Kept (λj=>(Value.slice G3 (a7 c is i).ins.length inc).ownBlock=some j) wd we:=Kept.grown eY (λ_ h=>h);have lY:Kept (λj=>(Value.slice G3 (a7 c is i).ins.length inc).ownBlock=some j) wc we:=(Kept.new iU).trans eR (λ_ _ h=>h);have hSe:=hSc.kept lY (λh=>(qF _ h).1 rfl);have hTe:=hTc.kept lY (λh=>(qF _ h).2.1 rfl);have hCe:=hCc.kept lY (λh=>(qF _ h).2.2.1 rfl);have Ny:=CM.kept lY (λh=>(qF _ h).2.2.2.1 rfl);have Qr:=yN.kept lY (λh=>(qF _ h).2.2.2.2.1 rfl);have WV:=hMc.kept lY (λh=>(qF _ h).2.2.2.2.2 rfl);have DG:=CY.aJ lY (λg hg h=>qp CY wJ (by decide) g hg h);have so:Below w.heap.size w we:=vy.trans (lY.below (by omega) (λg h=>by have:=JJ g h;omega));have LG:=lY.size;have G1:=yW.slice;obtain⟨ea,ec,rfl⟩:=G1;push_cast -dsimp;refine aC Qr (by simp) rfl ?_;intro wf iH;have szf:=iH.size;push_cast -dsimp;have uT:∀g,(Value.slice ea ((a7 c is i).ins++[y]).length ec).ownBlock=some g->w7.heap.size<=g:=λg hg=>by
     rcases DE g hg with h|h
     ·exact JJ g h
     omega
    refine⟨⟨by omega,by omega⟩,⟨i+1,Gs,_,rfl,by omega,iH.aL,?_,?_,?_,hSe.kept iH.kept (by omega),hTe.kept iH.kept (by omega),hCe.kept iH.kept (by omega),Ny.kept iH.kept (by omega),so.trans (iH.kept.below (by omega) (λ_ h=>by omega)),by omega,su,uT⟩,by rw[h76];simp only[intOf];omega⟩
    ·rw[cJ];exact DG.aJ iH.kept (λg hg h=>by have:=su g hg;omega)
    ·rw[cJ,hy];exact yW.aJ iH.kept (λg hg h=>by have:=uT g hg;omega)
    rw[cJ];exact WV.kept iH.kept (by omega)
   have FR:qB (a7 c is i).used x=(a7 c is i).used:=by unfold qB;rw[if_neg h1]
   rw[FR]at cJ;have jW:∃wc,wc=wb:=⟨_,rfl⟩;obtain⟨wc,rfl⟩:=jW;have Za:wc.heap.size=wc.heap.size:=rfl;have Cs:aM wc wx.heap.size 164 (bR (jX c is (a7 c is i).used x)):=by
    unfold jX;rw[if_neg h1,if_neg h3,if_neg h2];exact GK
   have hk:Kept (λj=>j=wx.heap.size) wc wc:=Kept.refl _ _;have hSc:=hSb.kept hk (by omega);have hTc:=hTb.kept hk (by omega);have hCc:=hCb.kept hk (by omega);have CM:=Nx.kept hk (by omega);have yN:=hOb.kept hk (by omega);have hMc:=hMb.kept hk (by omega);have CY:=uW.aJ hk (λg hg h=>by have:=oI.block g hg;omega);have wJ:=mO.aJ hk (λg hg h=>by have:=jD.block g hg;omega);have vy:Below w.heap.size w wc:=j7.trans (hk.below (by omega) (λ_ h=>by omega));have su:=gH;have OP:∃Gs,Gs=ov:=⟨_,rfl⟩;obtain⟨Gs,rfl⟩:=OP;have DA:∃y,jX c is (a7 c is i).used x=y:=⟨_,rfl⟩;obtain⟨y,hy⟩:=DA;rw[hy]at Cs;have hlen:=(dm hc (is:=is) i hi).len;have aA8:=kl (c:=c) (is:=is) i;have Zr:wc.cell? ⟨w5.heap.size,1,none⟩=some iv':=yN.cell rfl;have x33:aB wc ⟨wx.heap.size,0,none⟩ 0 3=some [.int .i64 y.op,.int .i64 y.a,.int .i64 y.b]:=Cs.aB;have hns:=wJ.slice;obtain⟨G3,inc,rfl⟩:=hns;push_cast -dsimp[Zr,x33];refine cH ep rfl rfl (by omega) ?_;intro wd iU;have Zb:=iU.size;push_cast -dsimp;refine aW (base:=w4.heap.size) [y] (enc:=bR) ep (wJ.new iU) (by rfl) (λj u hu=>by simpa[bR] using iU.cell hu) jB (by simp only[List.length_cons,List.length_nil];omega) (by omega) ?_;intro ve we yW eY DE;have qF:∀g,(Value.slice G3 (a7 c is i).ins.length inc).ownBlock=some g->g≠sb/\g≠w3.heap.size/\g≠w.heap.size/\g≠w1.heap.size/\g≠w5.heap.size/\g≠w6.heap.size:=λg hg=>by have:=JJ g hg;omega
   have eR:Kept (λj=>(Value.slice G3 (a7 c is i).ins.length inc).ownBlock=some j) wd we:=Kept.grown eY (λ_ h=>h);have lY:Kept (λj=>(Value.slice G3 (a7 c is i).ins.length inc).ownBlock=some j) wc we:=(Kept.new iU).trans eR (λ_ _ h=>h);have hSe:=hSc.kept lY (λh=>(qF _ h).1 rfl);have hTe:=hTc.kept lY (λh=>(qF _ h).2.1 rfl);have hCe:=hCc.kept lY (λh=>(qF _ h).2.2.1 rfl);have Ny:=CM.kept lY (λh=>(qF _ h).2.2.2.1 rfl);have Qr:=yN.kept lY (λh=>(qF _ h).2.2.2.2.1 rfl);have WV:=hMc.kept lY (λh=>(qF _ h).2.2.2.2.2 rfl);have DG:=CY.aJ lY (λg hg h=>qp CY wJ (by decide) g hg h);have so:Below w.heap.size w we:=vy.trans (lY.below (by omega) (λg h=>by have:=JJ g h;omega));have LG:=lY.size;have G1:=yW.slice;obtain⟨ea,ec,rfl⟩:=G1;push_cast -dsimp;refine aC Qr (by simp) rfl ?_;intro wf iH;have szf:=iH.size;push_cast -dsimp;have uT:∀g,(Value.slice ea ((a7 c is i).ins++[y]).length ec).ownBlock=some g->w7.heap.size<=g:=λg hg=>by
    rcases DE g hg with h|h
    ·exact JJ g h
    omega
   refine⟨⟨by omega,by omega⟩,⟨i+1,Gs,_,rfl,by omega,iH.aL,?_,?_,?_,hSe.kept iH.kept (by omega),hTe.kept iH.kept (by omega),hCe.kept iH.kept (by omega),Ny.kept iH.kept (by omega),so.trans (iH.kept.below (by omega) (λ_ h=>by omega)),by omega,su,uT⟩,by rw[h76];simp only[intOf];omega⟩
   ·rw[cJ];exact DG.aJ iH.kept (λg hg h=>by have:=su g hg;omega)
   ·rw[cJ,hy];exact yW.aJ iH.kept (λg hg h=>by have:=uT g hg;omega)
   rw[cJ];exact WV.kept iH.kept (by omega)
 have nG:i=c.ins.length:=by omega
 subst nG;have q3:=Qt.aB;simp only[List.length_cons,List.length_nil,Nat.zero_add,Nat.reduceAdd]at q3;have pD:=oI.slice;obtain⟨oa,oc,rfl⟩:=pD;have pD:=jD.slice;obtain⟨na,nc,rfl⟩:=pD;push_cast -dsimp[q3];refine aH (n:=2) (by kernel_rfl) vw rfl (by simp) (by simp[Value.oneCell']) ?_;intro w8 np;have sz8:=np.size;have q5:aB w8 ⟨w1.heap.size,0,none⟩ 0 2=some _:=np.aL.aB;have mh:Below w.heap.size w w8:=eV.trans (np.kept.below (by omega) (λ_ h=>by omega));have aFK:=oI.aJ np.kept (λg hg h=>by have:=oI.block g hg;omega);have aFF:=jD.aJ np.kept (λg hg h=>by have:=jD.block g hg;omega);push_cast -dsimp[q5];refine⟨⟨is,_,_,rfl,hCl,?_,aFF.mono (by omega)⟩,mh⟩;refine dq.rU (us:=(a7 c is c.ins.length).used.map λa=>us.getD a ⟨none,0,0⟩) (by unfold bb XZ;simp) (aFK.aKX.weaken λb h=>?_) ?_
 ·rcases h with h|h
  ·intro hh
   have:=aFK.block b hh
   have:=hX b h;omega
  exact λhh=>qp aFF aFK (by decide) b h hh
 intro j u s hu hs;have hI:=dm hc (is:=is) c.ins.length (Nat.le_refl _);unfold bb XZ at hs;rw[List.getElem?_map]at hu hs;cases hj:(a7 c is c.ins.length).used[j]? with
 | none=>rw[hj]at hu;cases hu
 | some d =>
  rw[hj]at hu hs;have hd:=hI.used d (List.mem_of_getElem? hj);have e1:=List.getElem?_eq_getElem (l:=us) (i:=d) (by omega);have e2:=List.getElem?_eq_getElem (l:=c.sets) (i:=d) (by omega);simp only[Option.map_some,Option.some.injEq,List.getD_eq_getElem?_getD,e1,e2,Option.getD_some]at hu hs;subst hu hs;refine Sl.below (w:=w) ((aFX d _ _ e1 e2).fresh (λ_=>by simp[bA]) (λb h=>?_)) mh;rcases h with h|h
  ·exact .inl h
  have:=aFF.block b h;omega
end Go.Proofs.YtemjejfpadnljaaGreatDoor
namespace Go.Proofs.YtemjejfpadnljaaGreatDoor
open Go.Vc Go.Proofs Go.RowKit Cae
structure fW (c d:aD):Prop where
 cr:CR d
 len:d.ins.length<=c.ins.length
 lens:jt d
 acc:∀ps,Acc d 0 ps↔Acc c 0 ps
theorem fW.refl {c:aD}(hc:CR c)(hl:jt c):fW c c:=⟨hc,Nat.le_refl _,hl,λ_=>Iff.rfl⟩
theorem fW.vm {c d:aD}(h:fW c d)(hc:CR c)(ps:List Int):(eo d ps).1=(eo c ps).1:=by
 rw[Bool.eq_iff_iff,mf h.cr,mf hc];exact h.acc ps
def tK:aD:=⟨[[]],[⟨1,0,0⟩,⟨5,0,0⟩]⟩
theorem Jg:aV tK=true:=by decide
theorem SP (ps:List Int):¬Acc tK 0 ps:=by
 rw[gg (c:=tK) (k:=0) (x:=⟨1,0,0⟩) rfl (by decide)];rintro⟨p,r,_,h,_⟩;exact absurd h (by simp[tK,fA])
theorem mD {c:aD}(gH:∀x∈c.ins,x.op≠5):∀(h k:Nat) (ps:List Int),¬dK c h k ps
 | 0,k,ps=>λh=>h
 | h+1,k,ps=>by
  intro hh;rw[dK]at hh;cases hx:c.ins[k]? with
  | none=>rw[hx]at hh;exact hh
  | some x =>
   rw[hx]at hh;dsimp only at hh;rw[if_neg (gH x (List.mem_of_getElem? hx))]at hh;by_cases h2:x.op=2
   ·rw[if_pos h2]at hh;rcases hh with hh|hh
    ·exact mD gH h _ _ hh
    exact mD gH h _ _ hh
   rw[if_neg h2]at hh;by_cases h3:x.op=3
   ·rw[if_pos h3]at hh;exact mD gH h _ _ hh
   rw[if_neg h3]at hh;by_cases h4:x.op=4
   ·rw[if_pos h4]at hh;exact mD gH h _ _ hh.2
   rw[if_neg h4]at hh;cases ps with
   | nil=>exact hh
   | cons p r=>exact mD gH h _ _ hh.2
theorem fW.never {c d:aD}(h:fW c d)(gH:(d.ins.any λx=>decide (x.op=5))=false)(h2:2<=c.ins.length):fW c tK:=by
 have aFE:∀x∈d.ins,x.op≠5:=λx hx e=>by
  rw[List.any_eq_false]at gH;exact gH x hx (decide_eq_true e)
 refine⟨CR.of Jg,h2,λs hs=>?_,λps=>⟨λhh=>absurd hh (SP ps),λhh=>?_⟩⟩
 ·have:s=[]:=by simpa[tK] using hs
  subst this;exact Nat.zero_lt_succ _
 obtain⟨n,hn⟩:=(h.acc ps).2 hh;exact absurd hn (mD aFE n 0 ps)
theorem fW.aGS {c d:aD}(h:fW c d):fW c (oW d):=by
 have ht:=nj h.cr d.ins.length;obtain⟨h1,h2,h3,h4,_⟩:=ht;refine⟨h1,by show (ak d d.ins.length).ins.length<=_;rw[h3];exact h.len,λs hs=>h.lens s (by have:s∈(ak d d.ins.length).sets:=hs;rwa [h2]at this),λps=>(h4 0 ps).trans (h.acc ps)⟩
theorem fW.X0 {c d:aD}(h:fW c d){is:List Bool}(hC:sS d is) :
  (aV (bb d is)=true->fW c (bb d is))/\(aV (bb d is)=false->fW c ⟨(bb d is).sets,(bb d is).ins++[D2]⟩)/\(bb d is).ins.length<=2000/\(bb d is).sets.length<=2000/\jt (bb d is):=by
 have hr:=JY h.cr hC;obtain⟨h1,h2,h3,h4⟩:=hr;have hm:=h.cr.many;have hs:=h.cr.sets;have hlen:=h.len;have hl:jt (bb d is):=λs hs=>by
  obtain⟨a,ha,rfl⟩:=List.mem_map.1 (show s∈(a7 d is d.ins.length).used.map (λa=>d.sets.getD a []) from hs)
  have ao:=(dm h.cr (is:=is) d.ins.length (Nat.le_refl _)).used a ha;rw[List.getD_eq_getElem?_getD,List.getElem?_eq_getElem ao];exact h.lens _ (List.getElem_mem ao)
 refine⟨λhR=>⟨CR.of hR,by omega,hl,λps=>?_⟩,λhR=>?_,by omega,by omega,hl⟩
 ·have:=Du h.cr hC [] 0 hC.zero ps;rw[List.append_nil]at this;exact this.symm.trans (h.acc ps)
 rcases h4 with h4|⟨_,h5,h6⟩
 ·rw[hR]at h4;cases h4
 refine⟨h6,by simp only[List.length_append,List.length_cons,List.length_nil];omega,hl,λps=>?_⟩;exact(Du h.cr hC [D2] 0 hC.zero ps).symm.trans (h.acc ps)
theorem fW.one {c d:aD}(h:fW c d)(hc:c.ins.length=1)(hy:Acc c 0 []):d.ins=[⟨5,0,0⟩]:=by
 have h1:=h.cr.one;have h2:=h.len;match hd:d.ins with
 | []=>rw[hd]at h1;simp at h1
 | [x] =>
  have hx:d.ins[0]?=some x:=by rw[hd];rfl
  have hlen:d.ins.length=1:=by rw[hd];rfl
  have nG:=cK (h.cr.ins 0 x hx);have Ii:=(h.acc []).2 hy;obtain⟨n,hn⟩:=Ii;have jD:=h.cr.next 0 x hx;by_cases h5:x.op=5
  ·rcases nG with ⟨e,_⟩|⟨e,_⟩|⟨e,_⟩|⟨e,g1,g2⟩
   ·omega
   ·omega
   ·omega
   obtain⟨o,a,b⟩:=x;simp only at h5 g1 g2;subst h5 g1 g2;rfl
  exact absurd hn (mD (λy hy=>by rw[hd]at hy;simp at hy;subst hy;exact h5) n 0 [])
 | x::y::l=>rw[hd]at h2;simp at h2;omega
end Go.Proofs.YtemjejfpadnljaaGreatDoor
namespace Go.Proofs.YtemjejfpadnljaaGreatDoor
open Go.Vc Go.Proofs Go.RowKit Cae
attribute [local irreducible] cZ ab ai aX runK ar Sl Vc.Own vc aS bu aZ
def mr (c:aD):Prop:=jt c/\c.ins.length<1000000000/\c.sets.length<1000000000
def jL (p:bN):Prop:=p.rules.length<1000000000/\∀r∈p.rules,mr r.before/\mr r.after
def dy (X:Nat->Prop)(w:World):List Value->bW->Prop:=λcs r=>∃s1 i1 s2 i2,cs=[.bool r.brk,s1,i1,s2,i2]/\cM X w (.agg #[s1,i1]) r.before/\cM X w (.agg #[s2,i2]) r.after
def gd (X:Nat->Prop)(w:World)(v:Value)(p:bN):Prop:=∃rv,v=.agg #[rv,.bool p.dG]/\Sl X 5 (dy X w) w rv p.rules
theorem dy.mono {X X':Nat->Prop}{w w':World}{cs:List Value}{r:bW}(h:dy X w cs r)(hs:∀b,¬X b->b<w.heap.size->w'.heap[b]?=w.heap[b]?)(hX:∀b,X' b->X b):dy X' w' cs r:=by
 obtain⟨s1,i1,s2,i2,rfl,h1,h2⟩:=h;exact⟨s1,i1,s2,i2,rfl,h1.mono hs hX,h2.mono hs hX⟩
theorem oe.mono {X X':Nat->Prop}{w w':World}{v:Value}{l:List bW}(h:Sl X 5 (dy X w) w v l)(hs:∀b,¬X b->b<w.heap.size->w'.heap[b]?=w.heap[b]?)(hX:∀b,X' b->X b):Sl X' 5 (dy X' w') w' v l :=
 Sl.mono h hs (λ_ _ _ h=>h.mono hs hX) hX
theorem gd.mono {X X':Nat->Prop}{w w':World}{v:Value}{p:bN}(h:gd X w v p)(hs:∀b,¬X b->b<w.heap.size->w'.heap[b]?=w.heap[b]?)(hX:∀b,X' b->X b):gd X' w' v p:=by
 obtain⟨rv,rfl,h⟩:=h;exact⟨rv,rfl,oe.mono h hs hX⟩
theorem oe.below {X:Nat->Prop}{w w':World}{v:Value}{l:List bW}(h:Sl X 5 (dy X w) w v l)(hb:Below w.heap.size w w'):Sl X 5 (dy X w') w' v l:=oe.mono h (λb _ ao=>hb.block b ao) (λ_ h=>h)
theorem dy.below {X:Nat->Prop}{w w':World}{cs:List Value}{r:bW}(h:dy X w cs r)(hb:Below w.heap.size w w'):dy X w' cs r:=h.mono (λb _ ao=>hb.block b ao) (λ_ h=>h)
theorem gd.below {X:Nat->Prop}{w w':World}{v:Value}{p:bN}(h:gd X w v p)(hb:Below w.heap.size w w'):gd X w' v p:=h.mono (λb _ ao=>hb.block b ao) (λ_ h=>h)
theorem Sl.narrow {α:Type}{X X':Nat->Prop}{k:Nat}{R R':List Value->α->Prop}{w:World}{v:Value}{l:List α}(h:Sl X k R w v l)(hk:0<k)(hR:∀cs x,R cs x->R' cs x)(hX:∀b,b<w.heap.size->X' b->X b):Sl X' k R' w v l:=by
 unfold Sl at h ⊢
 obtain⟨a,c,he,hc,h⟩:=h;refine⟨a,c,he,hc,λi x hx=>?_⟩;obtain⟨b,o,cs,ha,hb,iS,aP,hr⟩:=h i x hx;have h0:=aP 0 cs[0] (List.getElem?_eq_getElem (by omega));exact⟨b,o,cs,ha,λhh=>hb (hX b (World.block_lt_of_cell? w _ h0) hh),iS,aP,hR _ _ hr⟩
theorem cM.narrow {X X':Nat->Prop}{w:World}{v:Value}{c:aD}(h:cM X w v c)(hX:∀b,b<w.heap.size->X' b->X b):cM X' w v c:=by
 obtain⟨sv,iv,rfl,h1,h2⟩:=h;refine⟨sv,iv,rfl,Sl.narrow h1 (by omega) (λcs x hx=>?_) hX,Sl.narrow h2 (by omega) (λ_ _ h=>h) hX⟩;obtain⟨u,rfl,hu⟩:=hx;exact⟨u,rfl,Sl.narrow hu (by omega) (λ_ _ h=>h) hX⟩
theorem dy.narrow {X X':Nat->Prop}{w:World}{cs:List Value}{r:bW}(h:dy X w cs r)(hX:∀b,b<w.heap.size->X' b->X b):dy X' w cs r:=by
 obtain⟨s1,i1,s2,i2,rfl,h1,h2⟩:=h;exact⟨s1,i1,s2,i2,rfl,h1.narrow hX,h2.narrow hX⟩
theorem gd.narrow {X X':Nat->Prop}{w:World}{v:Value}{p:bN}(h:gd X w v p)(hX:∀b,b<w.heap.size->X' b->X b):gd X' w v p:=by
 obtain⟨rv,rfl,h⟩:=h;exact⟨rv,rfl,Sl.narrow h (by omega) (λ_ _ h=>h.narrow hX) hX⟩
theorem ju {w:World}{b n:Nat}{e:TypeId}{cs xs:List Value}(h:aM w b e cs)(o:Nat)(hx:(cs.drop o).take n=xs)(hn:xs.length=n):aB w ⟨b,o,none⟩ 0 n=some xs:=by
 subst hn;refine aj xs 0 λj u hu=>?_;rw[Nat.zero_add];refine h.cell ?_;rw[<-hx]at hu
 have:=(List.getElem?_eq_some_iff.1 hu).1;rw[List.length_take]at this;rw[List.getElem?_take_of_lt (by omega),List.getElem?_drop]at hu;exact hu
theorem Gt {α:Type}(R:List Value->α->Prop)(g:FuncId)(cap:List Value)(f:α->Bool)(l:List α)(hl:l.length<1000000000)(X:Nat->Prop)(v:Value)(w:World)(hv:Sl X 5 R w v l)
  (hf:∀x∈l,∀cs,R cs x->cs.length=5->∀w',Below w.heap.size w w'->ar Tryz.prog g (elV cs::cap) w' λr bB=>r=.bool (f x)/\Below w'.heap.size w' bB) :
  ar Tryz.prog 120 [v,.func (.func g) #[] cap.toArray] w λr w'=>(∃n:Int,r=.int .i64 n/\(0<=n↔l.any f=true))/\Below w.heap.size w w':=by
 obtain⟨a,c,rfl,hc⟩:=hv.shape;refine aE Tryz.func120 rfl (by kernel_rfl) [4] rfl ?_;push_cast -dsimp(maxSteps:=9^7) [Tryz.ntmps120];refine aK [4,5,8,9,10,11,12,13,14,15,16,17,18] (λz wx=>∃(i:Nat),z 8=.int .i64 i/\i<=l.length/\(∀x∈l.take i,f x=false)/\Below w.heap.size w wx) (λz _=>l.length-(intOf (z 8)).toNat) ?_ ?_
 ·exact⟨0,rfl,Nat.zero_le _,by simp,Below.refl _ _⟩
 intro z wx hI;obtain⟨i,h8,hi,bO,hb⟩:=hI;push_cast -dsimp[h8];refine⟨λao=>?_,λeY=>?_⟩
 ·obtain⟨x,hx,mR,hd,ht⟩:=ae (l:=l) (i:=i) (by omega);obtain⟨b,o,cs,ha,hX,hk,aP,hR⟩:=(hv.below hb).yL hx;subst ha;obtain⟨u0,u1,u2,u3,u4,rfl⟩:∃u0 u1 u2 u3 u4,cs=[u0,u1,u2,u3,u4]:=(match cs,hk with|[u0,u1,u2,u3,u4],_=>⟨u0,u1,u2,u3,u4,rfl⟩);have c0:aB wx ⟨b,o+i*5,none⟩ 0 5=some [u0,u1,u2,u3,u4]:=(aj [u0,u1,u2,u3,u4] 0 (λj u hu=>by simpa using aP j u hu));push_cast -dsimp[c0]
  refine⟨⟨by omega,by omega⟩,?_⟩;refine aA (hf x mR _ hR rfl wx hb) ?_;rintro _ w1 ⟨rfl,fe⟩;have n0:=hb.trans (fe.mono hb.size);push_cast -dsimp[FH];refine⟨λyY=>?_,λgH=>?_⟩
  ·exact⟨⟨i,rfl,⟨λ_=>List.any_eq_true.2 ⟨x,mR,yY⟩,λ_=>by omega⟩⟩,n0⟩
  refine⟨⟨by omega,by omega⟩,⟨i+1,rfl,by omega,?_,n0⟩,by rw[h8];simp only[intOf];omega⟩;intro y hy;rw[ht,List.mem_append,List.mem_singleton]at hy;rcases hy with hy|rfl
  ·exact bO y hy
  exact gH
 refine⟨⟨-1,rfl,?_⟩,hb⟩;rw[List.take_of_length_le (by omega)]at bO;constructor
 ·intro h;omega
 intro h;obtain⟨x,hx,hn⟩:=List.any_eq_true.1 h;rw[bO x hx]at hn;cases hn
theorem y7 {α:Type}(R:List Value->α->Prop)(g:FuncId)(cap:List Value)(f:α->Bool)(l:List α)(hl:l.length<1000000000)(X:Nat->Prop)(v:Value)(w:World)(hv:Sl X 5 R w v l)
  (hf:∀x∈l,∀cs,R cs x->cs.length=5->∀w',Below w.heap.size w w'->ar Tryz.prog g (elV cs::cap) w' λr bB=>r=.bool (f x)/\Below w'.heap.size w' bB) :
  ar Tryz.prog 86 [v,.func (.func g) #[] cap.toArray] w λr w'=>r=.bool (l.any f)/\Below w.heap.size w w':=by
 refine aE Tryz.func86 rfl (by kernel_rfl) [4] rfl ?_;push_cast -dsimp(maxSteps:=9^7) [Tryz.ntmps86];refine aA (Gt R g cap f l hl X v w hv hf) ?_;rintro r w1 ⟨⟨n,rfl,hn⟩,hb⟩;push_cast -dsimp;refine⟨?_,hb⟩;congr 1;cases h:l.any f with
 | true=>rw[h]at hn;exact decide_eq_true (hn.2 rfl)
 | false=>rw[h]at hn;exact decide_eq_false (λh0=>by have:=hn.1 h0;cases this)
theorem KF (r:bW)(hl:mr r.before/\mr r.after)(X:Nat->Prop)(w:World)(cs:List Value)(hv:dy X w cs r) :
  ar Tryz.prog 87 [elV cs] w λu w'=>u=.bool (!(aV r.before && aV r.after))/\Below w.heap.size w w':=by
 obtain⟨s1,i1,s2,i2,rfl,h1,h2⟩:=hv
 show ar _ _ [.agg #[.bool r.brk,s1,i1,s2,i2]] _ _
 refine aE Tryz.func87 rfl (by kernel_rfl) [2] rfl ?_;push_cast -dsimp(maxSteps:=9^7) [Tryz.ntmps87];refine aR ?_;intro w1 aU;have iS:dC (.agg #[.bool r.brk,s1,i1,s2,i2])=[.bool r.brk,s1,i1,s2,i2]:=rfl;rw[iS]at aU;have d1:aB w1 ⟨w.heap.size,1,none⟩ 0 2=some [s1,i1]:=ju (n:=2) (xs:=[s1,i1]) aU.aL 1 rfl rfl;push_cast -dsimp[d1];refine aA (og r.before hl.1.1 hl.1.2.1 hl.1.2.2 X _ w1 (h1.below aU.below)) ?_;rintro _ w2 ⟨rfl,dh⟩;have pY:=aU.size;have fL:=aU.below.trans (dh.mono (by omega));have d2:aB w2 ⟨w.heap.size,3,none⟩ 0 2=some [s2,i2]:=ju (n:=2) (xs:=[s2,i2]) (aU.aL.below dh (by omega)) 3 rfl rfl;cases hr:aV r.before with
 | false =>
  push_cast -dsimp;exact⟨by simp,fL⟩
 | true =>
  push_cast -dsimp[d2];refine aA (og r.after hl.2.1 hl.2.2.1 hl.2.2.2 X _ w2 (h2.below fL)) ?_;rintro _ w3 ⟨rfl,gV⟩;push_cast -dsimp;exact fL.trans (gV.mono fL.size)
theorem j1 (p:bN)(hl:jL p)(X:Nat->Prop)(v:Value)(w:World)(hv:gd X w v p) :
  ar Tryz.prog 54 [v] w λu w'=>u=.bool (az p)/\Below w.heap.size w w':=by
 obtain⟨rv,rfl,hr⟩:=hv;obtain⟨a,c,rfl,hc⟩:=hr.shape;refine aE Tryz.func54 rfl (by kernel_rfl) [2] rfl ?_;push_cast -dsimp(maxSteps:=9^7) [Tryz.ntmps54];refine aR ?_;intro w1 aU;have d0:w1.cell? ⟨w.heap.size,0,none⟩=some (.slice a p.rules.length c):=aU.cell rfl;push_cast -dsimp[d0];refine⟨λh1=>?_,λh1=>⟨by congr 1;unfold az;rw[decide_eq_false (by omega)];rfl,aU.below⟩⟩;refine aA (y7 (dy X w1) 87 [] (λr=>!(aV r.before && aV r.after)) p.rules (by omega) X _ w1 (oe.below hr aU.below) ?_) ?_
 ·intro r DF cs hR _ w' Dc;exact KF r (hl.2 r DF) X w' cs (hR.below Dc)
 rintro _ w2 ⟨rfl,dh⟩;push_cast -dsimp;refine⟨?_,aU.below.trans (dh.mono aU.below.size)⟩;rw[Ek];congr 1;unfold az;rw[decide_eq_true (by omega),Bool.true_and]
end Go.Proofs.YtemjejfpadnljaaGreatDoor
namespace Go.Proofs.YtemjejfpadnljaaGreatDoor
open Go.Vc Go.Proofs Go.RowKit Cae
attribute [local irreducible] cZ ab ai aX runK ar Sl Vc.Own vc aS bu aZ
attribute [local irreducible] oW bb
theorem QC (x:I3)(w:World):ar Tryz.prog 116 [.agg #[.int .i64 x.op,.int .i64 x.a,.int .i64 x.b]] w λr w'=>r=.bool (decide (x.op=5))/\Below w.heap.size w w':=by
 refine aE Tryz.func116 rfl (by kernel_rfl) [2] rfl ?_;push_cast -dsimp(maxSteps:=9^7) [Tryz.ntmps116];refine aR ?_;intro w1 aU;have c0:w1.cell? ⟨w.heap.size,0,none⟩=some (.int .i64 x.op):=aU.cell rfl;push_cast -dsimp[c0];exact aU.below
def iJ (w:World):Prop:=∃a cp,w.cell? ⟨1,1,none⟩=some (.slice a 2 cp)/\Sl (λ_=>False) 3 (En bR) w (.slice a 2 cp) [⟨1,0,0⟩,⟨5,0,0⟩]
theorem iJ.below {w w':World}(h:iJ w)(hb:Below w.heap.size w w'):iJ w':=by
 obtain⟨a,cp,h1,h2⟩:=h;exact⟨a,cp,(Kept.aN hb (X:=λ_=>False) (λk hk hl=>by omega)).cell h1 id,h2.below hb⟩
def N9 (X:Nat->Prop)(c:aD)(r:Value)(w':World):Prop :=
 if aV c=true then ∃d v,r=.tuple #[v,.nilIface]/\fW c d/\cM X w' v d else r=.tuple #[.agg #[.slice none 0 0,.slice none 0 0],.iface 74 (.int .i64 1)]
theorem VI (c:aD)(JF:jt c)(hi:c.ins.length<1000000)(hs:c.sets.length<1000000)(X:Nat->Prop)(v:Value)(w:World)(hX:∀b,X b->b<w.heap.size)(hN:iJ w)(hv:cM X w v c) :
  ar Tryz.prog 73 [v] w λr w'=>N9 X c r w'/\Below w.heap.size w w':=by
 have CZ:=hv;obtain⟨sv,iv,rfl,tE,td⟩:=hv;obtain⟨a,cp,rfl,RG⟩:=td.shape;have G0:=tE.shape;obtain⟨sa,sc,rfl,CY⟩:=G0;refine gi Tryz.func73 rfl (by kernel_rfl) [.cell 2 127,.tmp 3] rfl ?_;push_cast -dsimp(maxSteps:=9^7) [Tryz.ntmps73];refine aR ?_;intro w1 aU;have aU:mj w w1 127 [.slice sa c.sets.length sc,.slice a c.ins.length cp]:=aU;have pY:=aU.size;push_cast -dsimp;refine aq (z:=[.slice none 0 0,.slice none 0 0]) (by kernel_rfl) ?_;intro w2 bJ;have Bn:=bJ.size;have dh:Below w.heap.size w w2:=aU.below.trans (bJ.below.mono (by omega));have fL:aM w2 w.heap.size 127 [.slice sa c.sets.length sc,.slice a c.ins.length cp]:=aU.aL.below bJ.below (by omega);have yO:aM w2 w1.heap.size 127 [.slice none 0 0,.slice none 0 0]:=bJ.aL;have d2:=fL.aB;simp only[List.length_cons,List.length_nil,Nat.zero_add,Nat.reduceAdd]at d2;push_cast -dsimp[d2];refine aA (og c JF (by omega) (by omega) _ _ w2 (CZ.below dh)) ?_;rintro _ w3 ⟨rfl,gV⟩;have LF:=gV.size;have Ly:=fL.below gV (by omega);have hR3:=yO.below gV (by omega);have cN:Below w.heap.size w w3:=dh.trans (gV.mono (by omega));unfold N9;cases hR:aV c with
 | false =>
  push_cast -dsimp;refine aH (n:=2) (by kernel_rfl) hR3 rfl (by simp) (by simp[Value.oneCell']) ?_;intro w4 ah;have q4:aB w4 ⟨w1.heap.size,0,none⟩ 0 2=some [.slice none 0 0,.slice none 0 0]:=ah.aL.aB;push_cast -dsimp[q4,Bool.false_eq_true,if_false];exact cN.trans (ah.kept.below (by omega) (λ_ h=>by omega))
 | true =>
  have hCR:=CR.of hR;have d3:=Ly.aB;simp only[List.length_cons,List.length_nil,Nat.zero_add,Nat.reduceAdd]at d3;push_cast -dsimp[d3];refine aq (z:=[.slice none 0 0,.slice none 0 0]) (by kernel_rfl) ?_;intro w4 ah;have KZ:=ah.size;push_cast -dsimp;refine aH (n:=2) (by kernel_rfl) ah.aL rfl (by simp) (by simp[Value.oneCell']) ?_;intro w5 cI;have NQ:=cI.size;have k5:Kept (λj=>j=w3.heap.size) w3 w5:=(Kept.new ah).trans cI.kept (λ_ _ h=>h);have GG:=Ly.kept k5 (by omega);have hR5:=hR3.kept k5 (by omega);have hW5:aM w5 w3.heap.size 127 [.slice sa c.sets.length sc,.slice a c.ins.length cp]:=cI.aL;have mn:Below w.heap.size w w5:=cN.trans (k5.below (by omega) (λ_ h=>by omega));have MU:cM (λj=>X j\/j=w.heap.size\/j=w1.heap.size) w (.agg #[.slice sa c.sets.length sc,.slice a c.ins.length cp]) c:=CZ.narrow (λb hb h=>by rcases h with h|h|h;exact h;omega;omega);push_cast -dsimp;refine aK [11,12,13,14,15,16,17,18,19,20,21,22,23,24,25] (λz wx=>∃(k:Nat) (d:aD) (sa':Option Addr) (sc':Nat) (a':Option Addr) (c':Nat),z 11=.int .i64 k/\k<=3/\fW c d/\aM wx w.heap.size 127 [.slice sa' d.sets.length sc',.slice a' d.ins.length c']/\cM (λj=>X j\/j=w.heap.size\/j=w1.heap.size) wx (.agg #[.slice sa' d.sets.length sc',.slice a' d.ins.length c']) d /\
    aM wx w1.heap.size 127 [.slice none 0 0,.slice none 0 0]/\aM wx w3.heap.size 127 [.slice sa c.sets.length sc,.slice a c.ins.length cp]/\Below w.heap.size w wx/\w5.heap.size<=wx.heap.size) (λz _=>3-(intOf (z 11)).toNat) ?_ ?_
  ·exact⟨0,c,sa,sc,a,cp,rfl,by omega,fW.refl hCR JF,GG,MU.below mn,hR5,hW5,mn,Nat.le_refl _⟩
  intro z wx hI;obtain⟨k,d,sa',sc',a',c',Qn,DD,hL,oE,hvx,vw,hWx,eV,ya⟩:=hI;push_cast -dsimp[Qn];refine⟨λao=>?_,λeY=>?_⟩
  ·have dx:=oE.aB;simp only[List.length_cons,List.length_nil,Nat.zero_add,Nat.reduceAdd]at dx;push_cast -dsimp[dx];refine aA (NT d hL.cr (λj=>X j\/j=w.heap.size\/j=w1.heap.size) _ wx (λb h=>by rcases h with h|h|h;(have:=hX b h;omega);omega;omega) hvx) ?_;rintro tv wa ⟨hta,vU⟩;have Ty:=vU.size;have hT:=hL.aGS;push_cast -dsimp;refine aA (aBI (oW d) hT.cr (λj=>X j\/j=w.heap.size\/j=w1.heap.size) tv wa (λb h=>by rcases h with h|h|h;(have:=hX b h;omega);omega;omega) hta hT.lens) ?_;rintro _ wb ⟨⟨is,sv2,iv2,rfl,hC,RX,GX⟩,j7⟩;have NR:=j7.size;have hls:=hT.X0 hC;obtain⟨vX,oy,OM,CV,hl5⟩:=hls;have eY:∃e,e=bb (oW d) is:=⟨_,rfl⟩;obtain⟨e,he⟩:=eY;rw[<-he]at vX oy OM CV hl5 RX GX;have aN7:=GX.slice;obtain⟨a2,c2,rfl⟩:=aN7;have hBb:aM wb w.heap.size 127 [.slice sa' d.sets.length sc',.slice a' d.ins.length c']:=(oE.below vU (by omega)).below j7 (by omega);have Nx:=(vw.below vU (by omega)).below j7 (by omega);have hWb:=(hWx.below vU (by omega)).below j7 (by omega);have dH:Below w.heap.size w wb:=(eV.trans (vU.mono (by omega))).trans (j7.mono (by omega));have gZ:=RX.shape;obtain⟨HF,HH,rfl,_⟩:=gZ;push_cast -dsimp;refine aH (n:=2) (by kernel_rfl) hBb rfl (by simp) (by simp[Value.oneCell']) ?_;intro wc jW;have Za:=jW.size;have hBc:aM wc w.heap.size 127 [.slice HF e.sets.length HH,.slice a2 e.ins.length c2]:=jW.aL;have CM:=Nx.kept jW.kept (by omega);have hWc:=hWb.kept jW.kept (by omega);have aPe:Below w.heap.size w wc:=dH.trans (jW.kept.below (by omega) (λ_ h=>by omega))
   have hvc:cM (λj=>X j\/j=w.heap.size\/j=w1.heap.size) wc (.agg #[.slice HF e.sets.length HH,.slice a2 e.ins.length c2]) e :=
    nu (sets:=e.sets) (base:=wa.heap.size) (λb h=>by rcases h with h|h|h;(have:=hX b h;omega);omega;omega) ((dq.kept RX jW.kept (λb h=>.inl (.inr (.inl h)))).mono (λ_ _ _=>rfl) (λb h=>.inl h)) (GX.aJ jW.kept (λg hg h=>by have:=GX.block g hg;omega)) rfl
   have aN5:=GX.aJ jW.kept (λg hg h=>by have:=GX.block g hg;omega);have aOY:dq (λb=>(X b\/b=w.heap.size\/b=w1.heap.size)\/(Value.slice a2 e.ins.length c2).ownBlock=some b) wc (.slice HF e.sets.length HH) e.sets:=dq.kept RX jW.kept (λb h=>.inl (.inr (.inl h)));have qc:=hBc.aB;simp only[List.length_cons,List.length_nil,Nat.zero_add,Nat.reduceAdd]at qc;push_cast -dsimp[qc];refine aA (og e hl5 (by omega) (by omega) _ _ wc hvc) ?_;rintro _ wd ⟨rfl,pz⟩;have Zb:=pz.size;have AM:=hBc.below pz (by omega);have hRd:=CM.below pz (by omega);have hWd:=hWc.below pz (by omega);have aKu:Below w.heap.size w wd:=aPe.trans (pz.mono (by omega));cases Ny:aV e with
   | true =>
    have hLe:=vX Ny;push_cast -dsimp;exact⟨⟨by omega,by omega⟩,⟨k+1,e,HF,HH,a2,c2,rfl,by omega,hLe,AM,hvc.below pz,hRd,hWd,aKu,by omega⟩,by rw[Qn];simp only[intOf];omega⟩
   | false =>
    have hLe:=oy Ny;have hlm:=hLe.cr.many;have cd:wd.cell? ⟨w.heap.size,1,none⟩=some (.slice a2 e.ins.length c2):=AM.cell rfl;push_cast -dsimp[cd];refine cH ep rfl rfl (by omega) ?_;intro we lG;have LG:=lG.size;have aN6:=(aN5.aJ (Kept.aN pz (X:=λ_=>False) (λk hk hl=>by omega)) (λ_ _ h=>h)).new lG;push_cast -dsimp;refine aW (base:=wa.heap.size) [D2] (enc:=bR) ep aN6 (by rfl) (λj u hu=>by simpa[bR] using lG.cell hu) jB (by simp only[List.length_cons,List.length_nil];omega) (by omega) ?_;intro ve wf hof hgf hnf;have G1:=hof.slice;obtain⟨a3,c3,rfl⟩:=G1;have kf:Kept (λj=>(Value.slice a2 e.ins.length c2).ownBlock=some j) we wf:=Kept.grown hgf (λ_ h=>h);have ha7:∀g,(Value.slice a2 e.ins.length c2).ownBlock=some g->wa.heap.size<=g:=λg hg=>(GX.block g hg).1;have kdf:Kept (λj=>(Value.slice a2 e.ins.length c2).ownBlock=some j) wd wf:=(Kept.new lG).trans kf (λ_ _ h=>h);have szf:=kdf.size;have hBf:=AM.kept kdf (λh=>by have:=ha7 _ h;omega);have hRf:=hRd.kept kdf (λh=>by have:=ha7 _ h;omega);have hWf:=hWd.kept kdf (λh=>by have:=ha7 _ h;omega);push_cast -dsimp;refine aC hBf (by simp) rfl ?_;intro wg lH;have szg:=lH.size;push_cast -dsimp;have hvg:cM (λj=>X j\/j=w.heap.size\/j=w1.heap.size) wg (.agg #[.slice HF e.sets.length HH,.slice a3 (e.ins++[D2]).length c3]) ⟨e.sets,e.ins++[D2]⟩ :=
     nu (sets:=e.sets) (base:=wa.heap.size) (λb h=>by rcases h with h|h|h;(have:=hX b h;omega);omega;omega) (dq.mono (dq.kept (dq.kept (aOY.below pz) kdf (λb h=>.inr h)) lH.kept (λb h=>.inl (.inr (.inl h)))) (λ_ _ _=>rfl) (λb h=>.inl h)) (hof.aJ lH.kept (λg hg h=>by have:=(hof.block g hg).1;omega)) rfl
    exact⟨⟨by omega,by omega⟩,⟨k+1,⟨e.sets,e.ins++[D2]⟩,HF,HH,a3,c3,rfl,by omega,hLe,lH.aL,hvg,hRf.kept lH.kept (by omega),hWf.kept lH.kept (by omega),aKu.trans ((kdf.below (by omega) (λg h=>by have:=ha7 g h;omega)).trans (lH.kept.below (by omega) (λ_ h=>by omega))),by omega⟩,by rw[Qn];simp only[intOf];omega⟩
  have CU:k=3:=by omega
  subst CU;have hdm:=hL.cr.many;have hdl:=hL.len;have aPc:=hvx;obtain⟨_,_,he,oI,hix⟩:=hvx;cases he;have c1:wx.cell? ⟨w.heap.size,1,none⟩=some (.slice a' d.ins.length c'):=oE.cell rfl;push_cast -dsimp[c1];refine aA (sL (En bR) 116 [] (λx=>decide (x.op=5)) d.ins (by omega) _ _ wx hix ?_) ?_
  ·rintro y hy cs rfl _ w' Dc;exact QC y w'
  rintro _ wa ⟨rfl,vU⟩;have Ty:=vU.size;have hBa:=oE.below vU (by omega);have hRa:=vw.below vU (by omega);have hWa:=hWx.below vU (by omega);have fy:Below w.heap.size w wa:=eV.trans (vU.mono (by omega));have OV:=aPc.below vU;have t1:wa.cell? ⟨w3.heap.size,1,none⟩=some (.slice a c.ins.length cp):=hWa.cell rfl;have t2:wa.cell? ⟨w.heap.size,1,none⟩=some (.slice a' d.ins.length c'):=hBa.cell rfl;cases aNd:d.ins.any (λx=>decide (x.op=5)) with
  | false =>
   push_cast -dsimp[t1];refine⟨λh2=>?_,λh2=>?_⟩
   ·refine cH nD rfl rfl (by omega) ?_;intro wb dH;have NR:=dH.size;have Nx:=hRa.below dH.below (by omega);have aKt:Below w.heap.size w wb:=fy.trans (dH.below.mono (by omega));have hNb:=hN.below aKt;obtain⟨na,nc,hn1,Z6⟩:=hNb;have ho:=dH.own (base:=wa.heap.size) (k:=1) (n:=1) (enc:=jb) (l:=[⟨none,0,0⟩]) rfl rfl (λ_=>rfl) (Nat.le_refl _) (by omega);push_cast -dsimp[hn1];refine aA (zo [⟨1,0,0⟩,⟨5,0,0⟩] (by decide) (λ_=>False) _ wb Z6 (by simp)) ?_;rintro vc wc ⟨hoc,vy⟩;have Za:=vy.size;have CM:=Nx.below vy (by omega);have aPf:Below w.heap.size w wc:=aKt.trans (vy.mono (by omega));have hos:=hoc.slice;obtain⟨ca,cc,rfl⟩:=hos;push_cast -dsimp;refine aH (n:=2) (by kernel_rfl) CM rfl (by simp) (by simp[Value.oneCell']) ?_;intro wd iU;have Zb:=iU.size;have qd:aB wd ⟨w1.heap.size,0,none⟩ 0 2=some [.slice (some ⟨wa.heap.size,0,none⟩) 1 1,.slice ca ([⟨1,0,0⟩,⟨5,0,0⟩]:List I3).length cc]:=iU.aL.aB;push_cast -dsimp[qd,if_true];have hod:=(ho.aJ (Kept.aN vy (X:=λ_=>False) (λk hk hl=>by omega)) (λ_ _ h=>h)).aJ iU.kept (λg hg h=>by have:=(ho.block g hg).1;omega);have aOC:=hoc.aJ iU.kept (λg hg h=>by have:=(hoc.block g hg).1;omega);refine⟨⟨tK,_,rfl,hL.never aNd (by omega),?_⟩,aPf.trans (iU.kept.below (by omega) (λ_ h=>by omega))⟩;refine nu (sets:=[[]]) (base:=w.heap.size) hX ?_ (aOC.mono (by omega)) rfl;refine dq.rU (us:=[⟨none,0,0⟩]) rfl (hod.sl.weaken λb h=>by have:=hX b h;omega) (λi u s hu hs=>?_);cases i with
    | zero =>
     simp only[List.getElem?_cons_zero,Option.some.injEq]at hu hs;subst hu hs;exact Sl.nil _ _ _ _ _ _
    | succ i=>simp at hs
   ·
    have t1:wa.cell? ⟨w3.heap.size,1,none⟩=some (.slice a c.ins.length cp):=hWa.cell rfl
    have t2:wa.cell? ⟨w.heap.size,1,none⟩=some (.slice a' d.ins.length c'):=hBa.cell rfl
    have qa:=hBa.aB
    simp only[List.length_cons,List.length_nil,Nat.zero_add,Nat.reduceAdd]at qa
    push_cast -dsimp[t1,t2,qa]
    refine⟨λ_=>?_,λh=>absurd h (by omega)⟩
    refine aA (og d hL.lens (by omega) (by have:=hL.cr.sets;omega) _ _ wa OV) ?_
    rintro _ wb ⟨rfl,j7⟩
    have NR:=j7.size
    rw[hL.cr.to]
    have hBb:=hBa.below j7 (by omega)
    have Nx:=hRa.below j7 (by omega)
    have qb:=hBb.aB
    simp only[List.length_cons,List.length_nil,Nat.zero_add,Nat.reduceAdd]at qb
    push_cast -dsimp[qb]
    refine aH (n:=2) (by kernel_rfl) Nx rfl (by simp) (by simp[Value.oneCell']) ?_
    intro wc jW
    have qc:aB wc ⟨w1.heap.size,0,none⟩ 0 2=some [.slice sa' d.sets.length sc',.slice a' d.ins.length c']:=jW.aL.aB
    push_cast -dsimp[qc,if_true]
    exact⟨⟨d,_,rfl,hL,((OV.below j7).kept jW.kept (λb h=>.inr (.inr h))).mono (λ_ _ _=>rfl) (λ_ h=>.inl h)⟩,(fy.trans (j7.mono (by omega))).trans (jW.kept.below (by omega) (λ_ h=>by omega))⟩
  | true =>
   push_cast -dsimp;have t1:wa.cell? ⟨w3.heap.size,1,none⟩=some (.slice a c.ins.length cp):=hWa.cell rfl;have t2:wa.cell? ⟨w.heap.size,1,none⟩=some (.slice a' d.ins.length c'):=hBa.cell rfl;have qa:=hBa.aB;simp only[List.length_cons,List.length_nil,Nat.zero_add,Nat.reduceAdd]at qa;push_cast -dsimp[t1,t2,qa];refine⟨λ_=>?_,λh=>absurd h (by omega)⟩;refine aA (og d hL.lens (by omega) (by have:=hL.cr.sets;omega) _ _ wa OV) ?_;rintro _ wb ⟨rfl,j7⟩;have NR:=j7.size;rw[hL.cr.to];have hBb:=hBa.below j7 (by omega);have Nx:=hRa.below j7 (by omega);have qb:=hBb.aB;simp only[List.length_cons,List.length_nil,Nat.zero_add,Nat.reduceAdd]at qb;push_cast -dsimp[qb];refine aH (n:=2) (by kernel_rfl) Nx rfl (by simp) (by simp[Value.oneCell']) ?_;intro wc jW;have qc:aB wc ⟨w1.heap.size,0,none⟩ 0 2=some [.slice sa' d.sets.length sc',.slice a' d.ins.length c']:=jW.aL.aB;push_cast -dsimp[qc,if_true];exact⟨⟨d,_,rfl,hL,((OV.below j7).kept jW.kept (λb h=>.inr (.inr h))).mono (λ_ _ _=>rfl) (λ_ h=>.inl h)⟩,(fy.trans (j7.mono (by omega))).trans (jW.kept.below (by omega) (λ_ h=>by omega))⟩
end Go.Proofs.YtemjejfpadnljaaGreatDoor
namespace Go.Vc
open Go.RowKit
theorem Jp {H:Type}{enc:TypeId×Value->H}{P:Program}{W:World}{base:Nat}{sp:Nat->Bool}{held:Bool}{α:Type}{t e:TypeId}{k:Nat}{R:List Value->α->Prop}{D:DataW H->α->Prop}(ht:P.underlying t=some (.slice e))(hc:P.cellsOf e=k)(hk:0<k)
  {fuel:Nat} {cs:List Value} {ds rs:List (DataW H)} {q:List MemPlace} (h:DataW.trod enc P W base sp held fuel t cs=some (.slice ds rs,q)) (xQ:∀n cs y,cs.length=k->DataW.trod enc P W base sp held n e cs=some y->∃x,R cs x/\D y.1 x) :
  ∃v l,cs=[v]/\Sl (λ_=>False) k R W v l/\l.length=ds.length/\∀(i:Nat) (d:DataW H) (y:α),ds[i]?=some d->l[i]?=some y->D d y:=by
 rcases DataW.trod_slice ht h with ⟨rfl,hx⟩|⟨a,len,cap,elems,rest,n,_,rfl,hx,_,ON,_,hlen,he,_⟩
 ·simp at hx
 obtain⟨l,hl,hp⟩:=qN (λi (x:α)=>(∃ci:List Value,ci.length=k/\(∀j u,ci[j]?=some u->W.cell? ((a.add (i*k)).add j)=some u)/\R ci x)/\∀y,elems[i]?=some y->D y.1 x) len (λi hi=>by
  have hE:=he i hi;rw[hc]at hE;have hs:elems[i]?=some elems[i]:=List.getElem?_eq_getElem (by omega);rw[hs]at hE;obtain⟨ci,h1,h2⟩:=Option.bind_eq_some_iff.1 hE;obtain⟨h3,h4⟩:=zj h1;obtain⟨x,hx,hd⟩:=xQ n ci _ h3 h2;exact⟨x,⟨ci,h3,h4,hx⟩,λy hy=>by rw[hs]at hy;cases hy;exact hd⟩)
 have hds:ds=elems.map (·.1):=by
  have:=(Prod.mk.inj hx).1;injection this
 refine⟨_,l,rfl,⟨some a,cap,by rw[hl],by omega,λi x hx=>?_⟩,by rw[hds,List.length_map];omega,λi d y hd hy=>?_⟩
 ·obtain⟨⟨ci,h1,h2,h3⟩,_⟩:=hp i x hx;have Z4:=(List.getElem?_eq_some_iff.1 hx).1;obtain⟨⟨c0,g1,g2,_⟩,_⟩:=hp 0 l[0] (List.getElem?_eq_getElem (by omega));have h0:=g2 0 c0[0] (List.getElem?_eq_getElem (by omega));obtain⟨b,o,spot⟩:=a;have sK:spot=none:=by
   have:=World.cell?_spot h0;rw[Nat.zero_mul]at this;simpa[Addr.add] using this
  subst sK;exact⟨b,o,ci,rfl,id,h1,λj u hu=>by have:=h2 j u hu;rwa [add_lit,add_lit]at this,h3⟩
 rw[hds,List.getElem?_map]at hd;cases hj:elems[i]? with
 | none=>rw[hj]at hd;cases hd
 | some e =>
  rw[hj]at hd;simp only[Option.map_some,Option.some.injEq]at hd;subst hd;exact(hp i y hy).2 e hj
end Go.Vc
namespace Go.Proofs.YtemjejfpadnljaaGreatDoor
open Go.ChangeShapes Go.WideShapes Go.ChangeAt Go.Deep Go.RowKit Go.Vc Cae
section
variable {H:Type} {enc:TypeId×Value->H} {W:World} {base:Nat} {sp:Nat->Bool} {held:Bool}
theorem Ms {n:Nat}{cs:List Value}{y:DataW H×List MemPlace}(h:DataW.trod enc Tryz.prog W base sp held n 164 cs=some y):∃r:I3,cs=bR r/\y.1=.agg [.lit (.int .i64 r.op),.lit (.int .i64 r.a),.lit (.int .i64 r.b)]:=by
 obtain⟨y0,y1,y2,m,hy,hl,h0,h1,h2⟩:=trod_struct3 Tryz.underlying164 h;rw[show Tryz.prog.cellsOf 164=3 by kernel_rfl]at hl
 match cs,hl with
 | [a,b,c],_ =>
  have Qm:DataW.trod enc Tryz.prog W base sp held m 3 (List.take (Tryz.prog.cellsOf 3) [a,b,c])=some y0:=h0;have Kp:DataW.trod enc Tryz.prog W base sp held m 3 (List.take (Tryz.prog.cellsOf 3) [b,c])=some y1:=h1;have WO:DataW.trod enc Tryz.prog W base sp held m 3 (List.take (Tryz.prog.cellsOf 3) [c])=some y2:=h2;rw[aDb]at Qm Kp WO;obtain⟨z0,e0,q0,_⟩:=DataW.trod_int Tryz.underlying3 Qm;obtain⟨z1,e1,q1,_⟩:=DataW.trod_int Tryz.underlying3 Kp;obtain⟨z2,e2,q2,_⟩:=DataW.trod_int Tryz.underlying3 WO;simp at e0 e1 e2;subst e0 e1 e2 q0 q1 q2;exact⟨⟨z0,z1,z2⟩,rfl,by rw[hy]⟩
end
theorem Jf {W:World}{l:List (String×DataW Unit)}(hl:(l.filter λx=>x.1 == "caesura/opt.never")=[("caesura/opt.never",Rows.laid_caesura_opt_never)])(h:laidMetH Tryz.prog l W):iJ W:=by
 have h:=h.filter (λx=>x.1 == "caesura/opt.never");rw[hl,MakeChecks.laidMetH_plain _ _ _ (by kernel_rfl)]at h;obtain⟨ps,⟨g,t,cs,fuel,p,q,hg,ht,hv,hd,_,_⟩,_,_⟩:=h;obtain rfl:=Option.some.inj ((show Tryz.prog.globalNamed "caesura/opt.never"=some 1 by kernel_rfl).symm.trans hg)
 obtain rfl:=Option.some.inj ((show (Tryz.prog.globals[1]?).map (·.type)=some 127 by kernel_rfl).symm.trans ht)
 obtain⟨y0,y1,m,hy,hlen,h0,h1⟩:=trod_struct2 Tryz.underlying127 hd;rw[show Tryz.prog.cellsOf 127=2 by kernel_rfl]at hlen
 obtain⟨lc⟩:=cs;match lc,hlen with
 | [a,b],_ =>
  have Kp:DataW.trod _ Tryz.prog W _ _ _ m 125 (List.take (Tryz.prog.cellsOf 125) [b])=some y1:=h1;rw[show Tryz.prog.cellsOf 125=1 by kernel_rfl]at Kp
  have hy1:=(List.cons.inj (List.cons.inj (DataW.agg.inj (Prod.mk.inj hy).1)).2).1;obtain⟨d1,q1⟩:=y1;have hy1:DataW.slice [.agg [.lit (.int .i64 1),.lit (.int .i64 0),.lit (.int .i64 0)],.agg [.lit (.int .i64 5),.lit (.int .i64 0),.lit (.int .i64 0)]] []=d1:=hy1;subst hy1;obtain⟨v,ins,e1,hi,Iz,hD⟩:=Jp (k:=3) (R:=En bR) (D:=λd (r:I3)=>d=.agg [.lit (.int .i64 r.op),.lit (.int .i64 r.a),.lit (.int .i64 r.b)]) Tryz.underlying125 (by kernel_rfl) (by omega) Kp λn cs y _ hh=>Ms hh;simp only[List.take_succ_cons,List.take_zero,List.cons.injEq,and_true]at e1;subst e1;have DC:ins=[⟨1,0,0⟩,⟨5,0,0⟩]:=by
   match ins,Iz with
   | [⟨o,x,y⟩,⟨o',x',y'⟩],_ =>
    have k0:=hD 0 _ _ rfl rfl;have k1:=hD 1 _ _ rfl rfl;simp at k0 k1;obtain⟨rfl,rfl,rfl⟩:=k0;obtain⟨rfl,rfl,rfl⟩:=k1;rfl
  subst DC;obtain⟨av,cv,rfl,_⟩:=hi.shape;exact⟨av,cv,by simpa using World.var?_cell hg hv 1,hi⟩
end Go.Proofs.YtemjejfpadnljaaGreatDoor
namespace Go.Proofs.YtemjejfpadnljaaGreatDoor
open Go.ChangeShapes Go.WideShapes Go.ChangeAt Go.RowKit Go.Vc Cae
def XV:List (String×DataW Unit):=[("math/bits.deBruijn32tab",Rows.laid_math_bits_deBruijn32tab),("math/bits.deBruijn64tab",Rows.laid_math_bits_deBruijn64tab),("internal/strconv.uint64pow10",Rows.laid_internal_strconv_uint64pow10),("unicode/utf8.acceptRanges",Rows.laid_unicode_utf8_acceptRanges),("caesura/utf.least",Rows.laid_caesura_utf_least),("strconv.ErrRange",Rows.laid_strconv_ErrRange),("strconv.ErrSyntax",Rows.laid_strconv_ErrSyntax),("caesura/opt.never",Rows.laid_caesura_opt_never),("unicode/utf8.first",Rows.laid_unicode_utf8_first)]
noncomputable def aPG (os:Os):World :=
 { World.doorLaid Tryz.prog 78 os with heap:=(World.doorLaid Tryz.prog 78 os).heap.modify 5 λo=>match o with
  | .cells _ t x=>.cells (Go.Pinned.utf8FirstZ.map λ(n:Nat)=>Value.int .u8 (n:Int)).toArray t x
  | o=>o }
end Go.Proofs.YtemjejfpadnljaaGreatDoor
namespace Go.Vc
theorem Own.Zg {α:Type}{base k:Nat}{e:TypeId}{enc:α->List Value}{w:World}{b o n c:Nat}{l:List α}(h:Vc.Own base e k enc w (.slice (some ⟨b,o,none⟩) n c) l):o=0:=by
 rcases h.1.2 with ⟨he,_⟩|⟨g,cap,cr,he,_⟩
 ·cases he
 cases he;rfl
end Go.Vc
namespace Go.Proofs.YtemjejfpadnljaaGreatDoor
open Go.Vc Go.Proofs Go.RowKit Cae
attribute [local irreducible] cZ ab ai aX runK ar Sl Vc.Own vc aS bu aZ
def sT (c:aD)(ps:List Int):Value :=
 if aV c then .tuple #[.bool (eo c ps).1,.int .i64 (eo c ps).2,.nilIface] else .tuple #[.bool false,.int .i64 0,.iface 74 (.int .i64 1)]
theorem O8 (c:aD)(ps:List Int)(hl:jt c)(hi:c.ins.length<1000000000)(hs:c.sets.length<1000000000)(tC:ps.length<1000000000)(X Xp:Nat->Prop)(v pv:Value)(w:World)(hv:cM X w v c)(Z7:Sl Xp 1 (En pq) w pv ps) :
  ar Tryz.prog 57 [v,pv] w λr w'=>r=sT c ps/\Below w.heap.size w w':=by
 have CZ:=hv;obtain⟨sv,iv,rfl,tE,td⟩:=CZ;obtain⟨a1,c1,rfl,GS⟩:=tE.shape;obtain⟨a2,c2,rfl,uP⟩:=td.shape;obtain⟨a3,c3,rfl,hc3⟩:=Z7.shape;refine aE Tryz.func57 rfl (by kernel_rfl) [4,5,6] rfl ?_;push_cast -dsimp(maxSteps:=9^7) [Tryz.ntmps57];refine aR ?_;intro w1 aU;have d1:aB w1 ⟨w.heap.size,0,none⟩ 0 2=some [.slice a1 c.sets.length c1,.slice a2 c.ins.length c2]:=aU.aL.aB;push_cast -dsimp[d1];refine aA (og c hl hi hs X _ w1 (hv.below aU.below)) ?_;rintro _ w2 ⟨rfl,dh⟩;have fL:Below w.heap.size w w2:=aU.below.trans (dh.mono (by have:=aU.size;omega));have aO0:=aU.size;cases hR:aV c with
 | false =>
  push_cast -dsimp;refine⟨?_,fL⟩;unfold sT;rw[hR];rfl
 | true =>
  have hc:=CR.of hR;have hn1:=hc.one;have Z6:=hc.many;have Wc:aM w2 w.heap.size 127 [.slice a1 c.sets.length c1,.slice a2 c.ins.length c2]:=aU.aL.below dh aU.aL.lt;have e1:w2.cell? ⟨w.heap.size,1,none⟩=some (.slice a2 c.ins.length c2):=Wc.cell rfl;push_cast -dsimp[e1];have oH:List.replicate c.ins.length (Value.bool false)=gX c.ins.length []:=by
   unfold gX;apply List.ext_getElem?;intro j;simp only[List.getElem?_map,List.getElem?_replicate];by_cases hj:j<c.ins.length
   ·simp[hj]
   simp[hj]
  refine aC1 [8,9,22,23,24,25,26,27,28,29] (λz wx=>∃pA pB:Nat,z 8=.pointer (some ⟨pA,0,none⟩)/\z 9=.pointer (some ⟨pB,0,none⟩)/\CH (λj=>w2.heap.size<=j) wx pA pB c.ins.length [] []/\Kept (λj=>w2.heap.size<=j) w2 wx) ?_ ?_
  ·refine vS (.one 0 (.one 4 (.two 1 (.one 2 (.two 3 (.one 5 (.one 6 (.one 7 (.one 8 (.one 9 .done))))) 5 (.one 6 (.two 3 (.one 7 (.one 8 (.one 9 .done))) 7 (.one 3 (.one 8 (.one 9 .done))))))) 5 (.one 6 (.two 1 (.one 2 (.two 3 (.one 7 (.one 8 (.one 9 .done))) 7 (.one 3 (.one 8 (.one 9 .done))))) 7 (.one 1 (.one 2 (.one 3 (.one 8 (.one 9 .done)))))))))) (λ_=>True) mixed (by kernel_rfl) trivial ?_;push_cast -dsimp;constructor
   ·refine xd (z:=.bool false) ou (by kernel_rfl) rfl (by omega) (by omega) ?_;intro y1 n1;refine⟨trivial,?_⟩;push_cast -dsimp;constructor
    ·refine aR ?_;intro y2 n2;refine⟨trivial,?_⟩;push_cast -dsimp;refine xd (z:=.bool false) ou (by kernel_rfl) rfl (by omega) (by omega) ?_;intro y3 n3;refine⟨trivial,?_⟩;push_cast -dsimp;refine aR ?_;intro y4 n4;refine⟨trivial,?_⟩;push_cast -dsimp;have s1:=n1.size;have s2:=n2.size;have s3:=n3.size;have s4:=n4.size;have s0:w2.drew.heap.size=w2.heap.size:=rfl;have b3:Below y3.heap.size y3 y4:=n4.below;have b2:Below y2.heap.size y2 y4:=n3.below.trans (b3.mono (by omega));have b1:Below y1.heap.size y1 y4:=n2.below.trans (b2.mono (by omega));have b4:Below y4.heap.size y4 y4:=Below.refl _ _;refine⟨y1.heap.size,y3.heap.size,rfl,rfl,⟨λj=>j=w2.drew.heap.size\/j=y1.heap.size,λj=>j=y2.heap.size\/j=y3.heap.size,⟨.slice none 0 0,w2.drew.heap.size,(n2.aL.below b2 n2.aL.lt),Vc.Own.nil (enc:=bH) _ _ (λ_=>rfl) _,by rw[<-oH];exact(n1.aL.below b1 n1.aL.lt),by omega,λg h=>by simp[Value.ownBlock]at h,.inr rfl,.inl rfl,bg.nil _⟩,⟨.slice none 0 0,y2.heap.size,(n4.aL.below b4 n4.aL.lt),Vc.Own.nil (enc:=bH) _ _ (λ_=>rfl) _,by rw[<-oH];exact(n3.aL.below b3 n3.aL.lt),by omega,λg h=>by simp[Value.ownBlock]at h,.inr rfl,.inl rfl,bg.nil _⟩,λj h1 h2=>by omega,λj h=>by omega,λj h=>by omega⟩,Kept.aN ((Below.refl w2.heap.size w2).drew.trans (n1.below.trans (b1.mono (by omega)))) (λi h _=>h)⟩
    refine xd (z:=.bool false) ou (by kernel_rfl) rfl (by omega) (by omega) ?_;intro y2 n2;refine⟨trivial,?_⟩;push_cast -dsimp;constructor
    ·refine aR ?_;intro y3 n3;refine⟨trivial,?_⟩;push_cast -dsimp;refine aR ?_;intro y4 n4;refine⟨trivial,?_⟩;push_cast -dsimp;have s1:=n1.size;have s2:=n2.size;have s3:=n3.size;have s4:=n4.size;have s0:w2.drew.heap.size=w2.heap.size:=rfl;have b3:Below y3.heap.size y3 y4:=n4.below;have b2:Below y2.heap.size y2 y4:=n3.below.trans (b3.mono (by omega));have b1:Below y1.heap.size y1 y4:=n2.below.trans (b2.mono (by omega));have b4:Below y4.heap.size y4 y4:=Below.refl _ _;refine⟨y2.heap.size,y3.heap.size,rfl,rfl,⟨λj=>j=w2.drew.heap.size\/j=y2.heap.size,λj=>j=y1.heap.size\/j=y3.heap.size,⟨.slice none 0 0,w2.drew.heap.size,(n3.aL.below b3 n3.aL.lt),Vc.Own.nil (enc:=bH) _ _ (λ_=>rfl) _,by rw[<-oH];exact(n1.aL.below b1 n1.aL.lt),by omega,λg h=>by simp[Value.ownBlock]at h,.inr rfl,.inl rfl,bg.nil _⟩,⟨.slice none 0 0,y1.heap.size,(n4.aL.below b4 n4.aL.lt),Vc.Own.nil (enc:=bH) _ _ (λ_=>rfl) _,by rw[<-oH];exact(n2.aL.below b2 n2.aL.lt),by omega,λg h=>by simp[Value.ownBlock]at h,.inr rfl,.inl rfl,bg.nil _⟩,λj h1 h2=>by omega,λj h=>by omega,λj h=>by omega⟩,Kept.aN ((Below.refl w2.heap.size w2).drew.trans (n1.below.trans (b1.mono (by omega)))) (λi h _=>h)⟩
    refine aR ?_;intro y3 n3;refine⟨trivial,?_⟩;push_cast -dsimp;refine aR ?_;intro y4 n4;refine⟨trivial,?_⟩;push_cast -dsimp;have s1:=n1.size;have s2:=n2.size;have s3:=n3.size;have s4:=n4.size;have s0:w2.drew.heap.size=w2.heap.size:=rfl;have b3:Below y3.heap.size y3 y4:=n4.below;have b2:Below y2.heap.size y2 y4:=n3.below.trans (b3.mono (by omega));have b1:Below y1.heap.size y1 y4:=n2.below.trans (b2.mono (by omega));have b4:Below y4.heap.size y4 y4:=Below.refl _ _;refine⟨y3.heap.size,y2.heap.size,rfl,rfl,⟨λj=>j=w2.drew.heap.size\/j=y3.heap.size,λj=>j=y1.heap.size\/j=y2.heap.size,⟨.slice none 0 0,w2.drew.heap.size,(n4.aL.below b4 n4.aL.lt),Vc.Own.nil (enc:=bH) _ _ (λ_=>rfl) _,by rw[<-oH];exact(n1.aL.below b1 n1.aL.lt),by omega,λg h=>by simp[Value.ownBlock]at h,.inr rfl,.inl rfl,bg.nil _⟩,⟨.slice none 0 0,y1.heap.size,(n3.aL.below b3 n3.aL.lt),Vc.Own.nil (enc:=bH) _ _ (λ_=>rfl) _,by rw[<-oH];exact(n2.aL.below b2 n2.aL.lt),by omega,λg h=>by simp[Value.ownBlock]at h,.inr rfl,.inl rfl,bg.nil _⟩,λj h1 h2=>by omega,λj h=>by omega,λj h=>by omega⟩,Kept.aN ((Below.refl w2.heap.size w2).drew.trans (n1.below.trans (b1.mono (by omega)))) (λi h _=>h)⟩
   refine xd (z:=.bool false) ou (by kernel_rfl) rfl (by omega) (by omega) ?_;intro y1 n1;refine⟨trivial,?_⟩;push_cast -dsimp;constructor
   ·refine xd (z:=.bool false) ou (by kernel_rfl) rfl (by omega) (by omega) ?_;intro y2 n2;refine⟨trivial,?_⟩;push_cast -dsimp;constructor
    ·refine aR ?_;intro y3 n3;refine⟨trivial,?_⟩;push_cast -dsimp;refine aR ?_;intro y4 n4;refine⟨trivial,?_⟩;push_cast -dsimp;have s1:=n1.size;have s2:=n2.size;have s3:=n3.size;have s4:=n4.size;have s0:w2.drew.heap.size=w2.heap.size:=rfl;have b3:Below y3.heap.size y3 y4:=n4.below;have b2:Below y2.heap.size y2 y4:=n3.below.trans (b3.mono (by omega));have b1:Below y1.heap.size y1 y4:=n2.below.trans (b2.mono (by omega));have b4:Below y4.heap.size y4 y4:=Below.refl _ _;refine⟨y2.heap.size,y3.heap.size,rfl,rfl,⟨λj=>j=y1.heap.size\/j=y2.heap.size,λj=>j=w2.drew.heap.size\/j=y3.heap.size,⟨.slice none 0 0,y1.heap.size,(n3.aL.below b3 n3.aL.lt),Vc.Own.nil (enc:=bH) _ _ (λ_=>rfl) _,by rw[<-oH];exact(n2.aL.below b2 n2.aL.lt),by omega,λg h=>by simp[Value.ownBlock]at h,.inr rfl,.inl rfl,bg.nil _⟩,⟨.slice none 0 0,w2.drew.heap.size,(n4.aL.below b4 n4.aL.lt),Vc.Own.nil (enc:=bH) _ _ (λ_=>rfl) _,by rw[<-oH];exact(n1.aL.below b1 n1.aL.lt),by omega,λg h=>by simp[Value.ownBlock]at h,.inr rfl,.inl rfl,bg.nil _⟩,λj h1 h2=>by omega,λj h=>by omega,λj h=>by omega⟩,Kept.aN ((Below.refl w2.heap.size w2).drew.trans (n1.below.trans (b1.mono (by omega)))) (λi h _=>h)⟩
    refine aR ?_;intro y3 n3;refine⟨trivial,?_⟩;push_cast -dsimp;refine aR ?_;intro y4 n4;refine⟨trivial,?_⟩;push_cast -dsimp;have s1:=n1.size;have s2:=n2.size;have s3:=n3.size;have s4:=n4.size;have s0:w2.drew.heap.size=w2.heap.size:=rfl;have b3:Below y3.heap.size y3 y4:=n4.below;have b2:Below y2.heap.size y2 y4:=n3.below.trans (b3.mono (by omega));have b1:Below y1.heap.size y1 y4:=n2.below.trans (b2.mono (by omega));have b4:Below y4.heap.size y4 y4:=Below.refl _ _;refine⟨y3.heap.size,y2.heap.size,rfl,rfl,⟨λj=>j=y1.heap.size\/j=y3.heap.size,λj=>j=w2.drew.heap.size\/j=y2.heap.size,⟨.slice none 0 0,y1.heap.size,(n4.aL.below b4 n4.aL.lt),Vc.Own.nil (enc:=bH) _ _ (λ_=>rfl) _,by rw[<-oH];exact(n2.aL.below b2 n2.aL.lt),by omega,λg h=>by simp[Value.ownBlock]at h,.inr rfl,.inl rfl,bg.nil _⟩,⟨.slice none 0 0,w2.drew.heap.size,(n3.aL.below b3 n3.aL.lt),Vc.Own.nil (enc:=bH) _ _ (λ_=>rfl) _,by rw[<-oH];exact(n1.aL.below b1 n1.aL.lt),by omega,λg h=>by simp[Value.ownBlock]at h,.inr rfl,.inl rfl,bg.nil _⟩,λj h1 h2=>by omega,λj h=>by omega,λj h=>by omega⟩,Kept.aN ((Below.refl w2.heap.size w2).drew.trans (n1.below.trans (b1.mono (by omega)))) (λi h _=>h)⟩
   refine aR ?_;intro y2 n2;refine⟨trivial,?_⟩;push_cast -dsimp;refine xd (z:=.bool false) ou (by kernel_rfl) rfl (by omega) (by omega) ?_;intro y3 n3;refine⟨trivial,?_⟩;push_cast -dsimp;refine aR ?_;intro y4 n4;refine⟨trivial,?_⟩;push_cast -dsimp;have s1:=n1.size;have s2:=n2.size;have s3:=n3.size;have s4:=n4.size;have s0:w2.drew.heap.size=w2.heap.size:=rfl;have b3:Below y3.heap.size y3 y4:=n4.below;have b2:Below y2.heap.size y2 y4:=n3.below.trans (b3.mono (by omega));have b1:Below y1.heap.size y1 y4:=n2.below.trans (b2.mono (by omega));have b4:Below y4.heap.size y4 y4:=Below.refl _ _;refine⟨y3.heap.size,y1.heap.size,rfl,rfl,⟨λj=>j=y2.heap.size\/j=y3.heap.size,λj=>j=w2.drew.heap.size\/j=y1.heap.size,⟨.slice none 0 0,y2.heap.size,(n4.aL.below b4 n4.aL.lt),Vc.Own.nil (enc:=bH) _ _ (λ_=>rfl) _,by rw[<-oH];exact(n3.aL.below b3 n3.aL.lt),by omega,λg h=>by simp[Value.ownBlock]at h,.inr rfl,.inl rfl,bg.nil _⟩,⟨.slice none 0 0,w2.drew.heap.size,(n2.aL.below b2 n2.aL.lt),Vc.Own.nil (enc:=bH) _ _ (λ_=>rfl) _,by rw[<-oH];exact(n1.aL.below b1 n1.aL.lt),by omega,λg h=>by simp[Value.ownBlock]at h,.inr rfl,.inl rfl,bg.nil _⟩,λj h1 h2=>by omega,λj h=>by omega,λj h=>by omega⟩,Kept.aN ((Below.refl w2.heap.size w2).drew.trans (n1.below.trans (b1.mono (by omega)))) (λi h _=>h)⟩
  intro z w6 hJ;obtain⟨pA0,pB0,h8,h9,hT,k26⟩:=hJ;push_cast -dsimp[h8,h9];refine aA (oX hT (k:=0) (by omega) (by omega)) ?_;rintro _ w7 ⟨yP,k67⟩;have k27:Kept (λj=>w2.heap.size<=j) w2 w7:=k26.trans k67 (λ_ _ h=>h);have s26:=k26.size;have yP:CH (λj=>w2.heap.size<=j) w7 pA0 pB0 c.ins.length [0] []:=yP.narrow (λj h _=>by omega);clear hT k26 k67 d1 oH;push_cast -dsimp;refine aK [4,5,6,8,9,10,11,12,13,14,32,33,34,35,36,37,38,39,40,41,42,43,44,45,46,47,48,49,50,51,52,53,54,55,56,57,58,59,60,61,62,63,64,65,66,67,68,69,70,71,72,73,74,75,76,77,78,79,80,81,82,83,84,85,86,87,88,89,90,91,92,93,94,95,96,97,98,99,100,101,102,103,104,105,106,107,108,109,110,111,112,113,114,115,116,117,118,119,120,121,122,123,124,125] (λz wx=>∃(i st pA pB:Nat) (q:List Nat),z 11=.int .i64 i/\z 10=.int .i64 st/\z 8=.pointer (some ⟨pA,0,none⟩)/\z 9=.pointer (some ⟨pB,0,none⟩)/\i<=ps.length/\st<=i*2001 /\
   outer c (ps.drop i) q st=eo c ps/\CH (λj=>w2.heap.size<=j) wx pA pB c.ins.length q []/\Kept (λj=>w2.heap.size<=j) w2 wx) (λz _=>ps.length-(intOf (z 11)).toNat) ?_ ?_
  ·exact⟨0,0,pA0,pB0,[0],rfl,rfl,rfl,rfl,Nat.zero_le _,Nat.le_refl _,rfl,yP,k27⟩
  intro z wx hI;obtain⟨i,st0,pA,pB,q,Qn,Kq,h8,h9,hip,cJ,iq,hT,hk⟩:=hI;push_cast -dsimp[Qn,Kq,h8,h9];rw[YH c ps i q st0 hip]at iq;generalize hR0:inner c ps[i]? (c.ins.length+1) q 0 [] st0=R0 at iq;refine aK [4,5,6,10,12,13,14,34,35,36,37,38,39,40,41,42,43,44,45,46,47,48,49,50,51,52,53,54,55,56,57,58,59,60,61,62,63,64,65,66,67,68,69,70,71,72,73,74,75,76,77,78,79,80,81,82,83,84,85,86,87,88,89,90,91,92,93,94,95,96,97,98,99,100,101,102,103,104,105,106,107,108] (λz' wy=>∃(k st:Nat) (q' nx:List Nat),z' 12=.int .i64 k/\z' 10=.int .i64 st/\k<=q'.length/\st<=st0+k/\inner c ps[i]? (c.ins.length+1-k) q' k nx st=R0 /\
   CH (λj=>w2.heap.size<=j) wy pA pB c.ins.length q' nx/\Kept (λj=>w2.heap.size<=j) w2 wy) (λz' _=>c.ins.length+1-(intOf (z' 12)).toNat) ?_ ?_
  ·exact⟨0,st0,q,[],rfl,rfl,Nat.zero_le _,Nat.le_refl _,hR0,hT,hk⟩
  intro z' wy hI;obtain⟨k,st,q',nx,vu,Kq,H7,aUO,nG,hT,hk⟩:=hI;obtain⟨al,cl,cA,hqs⟩:=hT.read;have hP:=hT.places;have hql:=hP.1.len;have aDy:=Wc.kept hk (by have:=Wc.lt;show ¬w2.heap.size<=w.heap.size;omega)
  have b0:wy.cell? ⟨w.heap.size,0,none⟩=some (.slice a1 c.sets.length c1):=aDy.cell rfl;have b1:wy.cell? ⟨w.heap.size,1,none⟩=some (.slice a2 c.ins.length c2):=aDy.cell rfl;push_cast -dsimp[vu,Kq,cA,h8,h9];refine⟨λao=>?_,λeY=>?_⟩
  ·have ZR:Below w.heap.size w wy:=fL.trans (hk.below fL.size (λ_ h=>by have:=fL.size;omega));have hex:∃(at_:Nat) (x:I3) (bq oq bi oi:Nat),q'[k]?=some at_/\at_<c.ins.length/\c.ins[at_]?=some x/\al=some ⟨bq,oq,none⟩/\a2=some ⟨bi,oi,none⟩/\wy.cell? ⟨bq,oq+k,none⟩=some (.int .i64 at_) /\
     aB wy ⟨bi,oi+at_*3,none⟩ 0 3=some [.int .i64 x.op,.int .i64 x.a,.int .i64 x.b]:=by
    obtain⟨at_,GN,aNh,_,_⟩:=ae (l:=q') (i:=k) (by omega);have aE8:=hP.1.2 at_ aNh;obtain⟨bq,oq,hal,_,aFl⟩:=hqs.get GN;obtain⟨x,hx,mR,_,_⟩:=ae (l:=c.ins) (i:=at_) aE8;obtain⟨bi,oi,hai,_,aFk⟩:=(td.below ZR).get hx;exact⟨at_,x,bq,oq,bi,oi,GN,aE8,hx,hal,hai,by simpa using aFl 0 _ rfl,aj (bR x) 0 (λj u hu=>by simpa using aFk j u hu)⟩
   refine Exists.elim hex λat_ hex=>Exists.elim hex λx hex=>Exists.elim hex λbq hex=>Exists.elim hex λoq hex=>Exists.elim hex λbi hex=>Exists.elim hex λoi hex=>?_;have GN:=hex.1;have aE8:=hex.2.1;have hx:=hex.2.2.1;have hal:=hex.2.2.2.1;have hai:=hex.2.2.2.2.1;have cq:=hex.2.2.2.2.2.1;have ci:=hex.2.2.2.2.2.2;clear hex;push_cast -dsimp[hal,cq,b1,nd hai,ci];obtain⟨f,hf⟩:∃f,c.ins.length+1-k=f+1:=⟨c.ins.length-k,by omega⟩;have Tm:c.ins.length+1-(k+1)=f:=by omega
   rw[hf]at nG;have OB:=cK (hc.ins at_ x hx);have xR:=hc.next at_ x hx;refine⟨⟨by omega,by omega⟩,⟨by omega,by omega⟩,⟨by omega,by omega⟩,?_⟩;refine aq (z:=[.int .i64 0,.int .i64 0,.int .i64 0]) (by kernel_rfl) ?_;intro wz0 aBs;push_cast -dsimp;refine aH (n:=3) (by kernel_rfl) aBs.aL rfl (by simp) (by simp[Value.oneCell']) ?_;intro wz A5;have aUQ:wz.heap.size=wy.heap.size+1:=by rw[A5.size,aBs.size]
   have kz:Kept (λj=>j=wy.heap.size) wy wz:=(Kept.new aBs).trans A5.kept (λ_ _ h=>h);have o0:wz.cell? ⟨wy.heap.size,0,none⟩=some (.int .i64 x.op):=A5.aL.cell rfl;have oE:aM wz wy.heap.size 164 [.int .i64 x.op,.int .i64 x.a,.int .i64 x.b]:=A5.aL;have vx:CH (λj=>w2.heap.size<=j/\j<wy.heap.size) wz pA pB c.ins.length q' nx:=(hT.narrow (λj h hl=>⟨h,hl⟩)).kept kz (λj h _ hh=>by omega);have hkz:Kept (λj=>w2.heap.size<=j) w2 wz:=hk.trans kz (λi hi h=>by subst h;exact hk.size);have sy:=hk.size;clear A5 aBs hT kz;push_cast -dsimp[o0];refine⟨λh5=>?_,λh5=>⟨λh2=>?_,λh2=>⟨λh3=>?_,λh3=>⟨λh4=>?_,λh4=>?_⟩⟩⟩⟩
   ·rw[Ro GN hx h5]at nG;subst nG;dsimp only at iq;unfold sT;rw[hR,<-iq];exact⟨rfl,fL.trans (hkz.below fL.size (λ_ h=>by have:=fL.size;omega))⟩
   ·rw[pE GN hx h5]at nG;have hr:0<=x.a/\x.a<c.ins.length/\0<=x.b/\x.b<c.ins.length:=by omega
    have ea:x.a=(x.a.toNat:Int):=by omega
    have eb:x.b=(x.b.toNat:Int):=by omega
    have o1:wz.cell? ⟨wy.heap.size,1,none⟩=some (.int .i64 (x.a.toNat:Int)):=by rw[<-ea];exact oE.cell rfl
    push_cast -dsimp[o1];refine aA (oX vx (k:=x.a.toNat) (by omega) (by omega)) ?_;rintro _ w5 ⟨hT5,CT⟩;have aMw:=oE.kept CT (by omega);have o2:w5.cell? ⟨wy.heap.size,2,none⟩=some (.int .i64 (x.b.toNat:Int)):=by rw[<-eb];exact aMw.cell rfl
    push_cast -dsimp[o2];refine aA (oX hT5 (k:=x.b.toNat) (by omega) (by omega)) ?_;rintro _ w6 ⟨CN,Z5⟩;have QP:(fC c ps[i]? x at_ q' nx)=(jN (jN q' x.a.toNat) x.b.toNat,nx):=by unfold fC;rw[if_pos h2]
    rw[QP]at nG;have NQ:=CT.size;have Qu:=CN.narrow (D':=λj=>w2.heap.size<=j) (λj h _=>by omega);have H5:Kept (λj=>w2.heap.size<=j) w2 w6:=(hkz.trans CT (λ_ _ h=>h.1)).trans Z5 (λi hi h=>by omega);have hlen:q'.length<=(jN (jN q' x.a.toNat) x.b.toNat).length:=Nat.le_trans (tm _ _) (tm _ _);push_cast -dsimp;refine⟨⟨by omega,by omega⟩,⟨k+1,st+1,_,_,by simp,by simp,by omega,by omega,?_,Qu,H5⟩,by rw[vu];simp only[intOf];omega⟩;rw[Tm];exact nG
   ·rw[pE GN hx h5]at nG;have hr:0<=x.a/\x.a<c.ins.length:=by omega
    have ea:x.a=(x.a.toNat:Int):=by omega
    have o1:wz.cell? ⟨wy.heap.size,1,none⟩=some (.int .i64 (x.a.toNat:Int)):=by rw[<-ea];exact oE.cell rfl
    push_cast -dsimp[o1];refine aA (oX vx (k:=x.a.toNat) (by omega) (by omega)) ?_;rintro _ w6 ⟨hT5,CT⟩;have QP:(fC c ps[i]? x at_ q' nx)=(jN q' x.a.toNat,nx):=by unfold fC;rw[if_neg h2,if_pos h3]
    rw[QP]at nG;have Qu:=hT5.narrow (D':=λj=>w2.heap.size<=j) (λj h _=>by omega);have H5:Kept (λj=>w2.heap.size<=j) w2 w6:=(hkz.trans CT (λ_ _ h=>h.1));have hlen:q'.length<=(jN q' x.a.toNat).length:=tm _ _;push_cast -dsimp;refine⟨⟨by omega,by omega⟩,⟨k+1,st+1,_,_,by simp,by simp,by omega,by omega,?_,Qu,H5⟩,by rw[vu];simp only[intOf];omega⟩;rw[Tm];exact nG
   ·rw[pE GN hx h5]at nG;have jD:=xR (.inr h4);refine⟨λMK=>⟨⟨by omega,by omega⟩,?_⟩,λMK=>?_⟩
    ·refine aA (oX vx (k:=at_+1) (by omega) (by omega)) ?_;rintro _ w6 ⟨hT5,CT⟩;have QP:(fC c ps[i]? x at_ q' nx)=(jN q' (at_+1),nx):=by unfold fC;rw[if_neg h2,if_neg h3,if_pos h4,List.getElem?_eq_none (by omega)];rfl
     rw[QP]at nG;have Qu:=hT5.narrow (D':=λj=>w2.heap.size<=j) (λj h _=>by omega);have H5:Kept (λj=>w2.heap.size<=j) w2 w6:=(hkz.trans CT (λ_ _ h=>h.1));have hlen:q'.length<=(jN q' (at_+1)).length:=tm _ _;push_cast -dsimp;refine⟨⟨by omega,by omega⟩,⟨k+1,st+1,_,_,by simp,by simp,by omega,by omega,?_,Qu,H5⟩,by rw[vu];simp only[intOf];omega⟩;rw[Tm];exact nG
    have QP:(fC c ps[i]? x at_ q' nx)=(q',nx):=by unfold fC;rw[if_neg h2,if_neg h3,if_pos h4,List.getElem?_eq_getElem (show i<ps.length by omega)];rfl
    rw[QP]at nG;have Qu:=vx.narrow (D':=λj=>w2.heap.size<=j) (λj h _=>h.1);have H5:=hkz;have hlen:q'.length<=q'.length:=Nat.le_refl _;refine⟨⟨by omega,by omega⟩,⟨k+1,st+1,_,_,by simp,by simp,by omega,by omega,?_,Qu,H5⟩,by rw[vu];simp only[intOf];omega⟩;rw[Tm];exact nG
   rw[pE GN hx h5]at nG;have hop:x.op=1/\0<=x.a/\x.a<c.sets.length:=by omega
   refine b8 (λw'=>Kept (λ_=>False) wz w') mixed (by kernel_rfl) (Kept.refl _ _).drew ?_;have sxn:=xR (.inl hop.1);have ea:x.a=(x.a.toNat:Int):=by omega
   have lB:∀w',Kept (λ_=>False) wz w'->w'.cell? ⟨w.heap.size,0,none⟩=some (.slice a1 c.sets.length c1):=λw' CS=>CS.cell ((Wc.kept hkz (by have:=Wc.lt;show ¬w2.heap.size<=w.heap.size;omega)).cell rfl) id
   have lX:∀w',Kept (λ_=>False) wz w'->w'.cell? ⟨wy.heap.size,1,none⟩=some (.int .i64 (x.a.toNat:Int)):=λw' CS=>CS.cell (by rw[<-ea];exact oE.cell rfl) id;have kd:Kept (λ_=>False) wz wz.drew:=(Kept.refl _ _).drew;have d1:=lB _ kd;have d2:=lX _ kd;push_cast -dsimp[d1,d2];refine⟨λaQV=>⟨λbB hC=>by rw[lB bB hC];exact rfl,λbB hC=>by rw[lX bB hC];exact rfl,?_⟩,λaOE=>?_⟩
   ·have hBz:Below w.heap.size w wz:=fL.trans (hkz.below fL.size (λ_ h=>by have:=fL.size;omega));have hex:∃(s:List Rg) (u:Value) (bs os:Nat) (p:Int) (bp op:Nat),c.sets[x.a.toNat]?=some s/\a1=some ⟨bs,os,none⟩/\wz.drew.cell? ⟨bs,os+x.a.toNat,none⟩=some u/\Sl X 2 (En bA) wz.drew u s/\ps[i]?=some p/\a3=some ⟨bp,op,none⟩/\wz.drew.cell? ⟨bp,op+i,none⟩=some (.int .i64 p):=by
     obtain⟨s,fx,_,_,_⟩:=ae (l:=c.sets) (i:=x.a.toNat) (by omega);obtain⟨p,H9,_,_,_⟩:=ae (l:=ps) (i:=i) (by omega);have Dn:Sl X 1 (LO X wz) wz (.slice a1 c.sets.length c1) c.sets:=tE.below hBz;obtain⟨bs,os,cs,MD,_,_,iS,u,rfl,hu⟩:=Dn.yL fx;obtain⟨bp,op,ha3,_,RG⟩:=(Z7.below hBz).get H9;exact⟨s,u,bs,os,p,bp,op,fx,MD,by simpa using iS 0 u rfl,hu.below (Below.refl _ _).drew,H9,ha3,by simpa using RG 0 _ rfl⟩
    refine Exists.elim hex λs hex=>Exists.elim hex λu hex=>Exists.elim hex λbs hex=>Exists.elim hex λos hex=>Exists.elim hex λp hex=>Exists.elim hex λbp hex=>Exists.elim hex λop hex=>?_;have fx:=hex.1;have MD:=hex.2.1;have cu:=hex.2.2.1;have hu:=hex.2.2.2.1;have H9:=hex.2.2.2.2.1;have ha3:=hex.2.2.2.2.2.1;have cp:=hex.2.2.2.2.2.2;clear hex;have RW:=List.mem_of_getElem? fx;have lU:∀w',Kept (λ_=>False) wz w'->w'.cell? ⟨bs,os+x.a.toNat,none⟩=some u:=λw' CS=>CS.cell (show wz.cell? _=_ from cu) id
    have lP:∀w',Kept (λ_=>False) wz w'->w'.cell? ⟨bp,op+i,none⟩=some (.int .i64 p):=λw' CS=>CS.cell (show wz.cell? _=_ from cp) id
    push_cast -dsimp[nd MD,nd ha3,cu,cp];refine⟨⟨by omega,by omega⟩,λbB hC=>by rw[lU bB hC];exact rfl,⟨by omega,by omega⟩,λbB hC=>by rw[lP bB hC];exact rfl,?_⟩;refine aA (aJd s (hl s RW) (hc.set s RW) p X u wz.drew hu) ?_;rintro _ w6 ⟨rfl,ob⟩;have k6:Kept (λ_=>False) wz w6:=kd.trans (Kept.aN ob (X:=λ_=>False) (λj h1 h2=>absurd h2 (by have:wz.drew.heap.size=wz.heap.size:=rfl;omega))) (λ_ _=>id);have CN:=vx.kept k6 (λ_ _ _=>id);have Z5:=hkz.trans k6 (λ_ _ h=>h.elim);have hgs:c.sets.getD x.a.toNat []=s:=by rw[List.getD_eq_getElem?_getD,fx];rfl
    refine⟨k6,?_⟩;cases hH:fA s p with
    | true =>
     push_cast -dsimp;refine⟨⟨by omega,by omega⟩,?_⟩;refine aA (oX CN.swap (k:=at_+1) (by omega) (by omega)) ?_;rintro _ w7 ⟨yP,qC⟩;have QP:(fC c ps[i]? x at_ q' nx)=(q',jN nx (at_+1)):=by unfold fC;rw[if_neg h2,if_neg h3,if_neg h4,H9];dsimp only;rw[hgs,hH,if_pos rfl]
     rw[QP]at nG;have K0:=k6.size;have Qu:=yP.swap.narrow (D':=λj=>w2.heap.size<=j) (λj h _=>by omega);have H5:Kept (λj=>w2.heap.size<=j) w2 w7:=Z5.trans qC (λ_ _ h=>h.1);have hlen:q'.length<=q'.length:=Nat.le_refl _;push_cast -dsimp;refine⟨⟨by omega,by omega⟩,⟨k+1,st+1,_,_,by simp,by simp,by omega,by omega,?_,Qu,H5⟩,by rw[vu];simp only[intOf];omega⟩;rw[Tm];exact nG
    | false =>
     push_cast -dsimp;have QP:(fC c ps[i]? x at_ q' nx)=(q',nx):=by unfold fC;rw[if_neg h2,if_neg h3,if_neg h4,H9];dsimp only;rw[hgs,hH];rfl
     rw[QP]at nG;have Qu:=CN.narrow (D':=λj=>w2.heap.size<=j) (λj h _=>h.1);have H5:=Z5;have hlen:q'.length<=q'.length:=Nat.le_refl _;refine⟨⟨by omega,by omega⟩,⟨k+1,st+1,_,_,by simp,by simp,by omega,by omega,?_,Qu,H5⟩,by rw[vu];simp only[intOf];omega⟩;rw[Tm];exact nG
   have QP:(fC c ps[i]? x at_ q' nx)=(q',nx):=by unfold fC;rw[if_neg h2,if_neg h3,if_neg h4,List.getElem?_eq_none (by omega)]
   rw[QP]at nG;have Qu:=(vx.kept kd (λ_ _ _=>id)).narrow (D':=λj=>w2.heap.size<=j) (λj h _=>h.1);have H5:=hkz.trans kd (λ_ _ h=>h.elim);have hlen:q'.length<=q'.length:=Nat.le_refl _;refine⟨⟨by omega,by omega⟩,⟨k+1,st+1,_,_,by simp,by simp,by omega,by omega,?_,Qu,H5⟩,by rw[vu];simp only[intOf];omega⟩;rw[Tm];exact nG
  have hn:q'[k]?=none:=List.getElem?_eq_none (by omega);obtain⟨f,hf⟩:∃f,c.ins.length+1-k=f+1:=⟨c.ins.length-k,by omega⟩;rw[hf,Rn hn]at nG;subst nG;dsimp only at iq;have ZR:Below w.heap.size w wy:=fL.trans (hk.below fL.size (λ_ h=>by have:=fL.size;omega));have AW:(ps.length<=i\/nx=[])->Value.tuple #[.bool false,.int .i64 st,.nilIface]=sT c ps:=λh=>by
   rw[if_pos h]at iq;unfold sT;rw[hR,<-iq];rfl
  refine⟨λaQZ=>?_,λaQU=>⟨AW (.inl (by omega)),ZR⟩⟩;refine Exists.elim hT.swap.read λan hrd=>Exists.elim hrd λcn hrd=>?_;have cB:=hrd.1;clear hrd;push_cast -dsimp[cB];refine⟨λh0=>⟨AW (.inr (List.eq_nil_of_length_eq_zero (by omega))),ZR⟩,λh0=>?_⟩;have jD:¬(ps.length<=i\/nx=[]):=by
   rintro(h|h)
   ·omega
   subst h;exact h0 rfl
  rw[if_neg jD]at iq;refine aA (NY hT (by omega)) ?_;rintro _ w7 ⟨yP,qC⟩;push_cast -dsimp;exact⟨⟨by omega,by omega⟩,⟨i+1,st,pB,pA,nx,rfl,rfl,rfl,rfl,by omega,by omega,iq,yP.swap,hk.trans qC (λ_ _ h=>h)⟩,by rw[Qn];simp only[intOf];omega⟩
theorem Su (l:List Int)(base:Nat)(v:Value)(w:World)(hn:l.length<1000000000)(ho:Vc.Own base 3 1 pq w v l)(HY:base<=w.heap.size) :
  ar Tryz.prog 56 [v] w λ_ w'=>Vc.Own base 3 1 pq w' v l.reverse/\Below base w w':=by
 obtain⟨a,c,rfl⟩:=ho.slice;refine aE Tryz.func56 rfl (by kernel_rfl) [] rfl ?_;push_cast -dsimp(maxSteps:=9^7) [Tryz.ntmps56];refine⟨⟨by omega,by omega⟩,?_⟩;refine aK [2,3,7,8,9,10,11,12,13,14,15,16,17,18,19,20,21,22,23,24,25,26,27] (λz wx=>∃(i:Nat) (cur:List Int),z 2=.int .i64 i/\z 3=.int .i64 ((l.length:Int)-1-i)/\2*i<=l.length/\cur.length=l.length/\(∀k,k<l.length->cur[k]?=if k<i\/l.length-i<=k then l[l.length-1-k]? else l[k]?)/\Vc.Own base 3 1 pq wx (.slice a l.length c) cur/\Below base w wx) (λz _=>l.length-(intOf (z 2)).toNat) ?_ ?_
 ·exact⟨0,l,rfl,by simp[at_],by omega,rfl,λk hk=>by rw[if_neg (by omega)],ho,Below.refl _ _⟩
 intro z wx hI;obtain⟨i,cur,h2,h3,hi,iQ,GU,eG,hb⟩:=hI;have ya:=hb.size;push_cast -dsimp[h2,h3];refine⟨λao=>?_,λeY=>?_⟩
 ·have hex:∃(x y:Int) (g:Nat),cur[i]?=some x/\cur[l.length-1-i]?=some y/\a=some ⟨g,0,none⟩/\wx.cell? ⟨g,i,none⟩=some (.int .i64 x)/\wx.cell? ⟨g,l.length-1-i,none⟩=some (.int .i64 y):=by
   obtain⟨x,hx,_⟩:=ae (l:=cur) (i:=i) (by omega);obtain⟨y,hy,_⟩:=ae (l:=cur) (i:=l.length-1-i) (by omega);have il:=eG.sl.get hx;have DA:=eG.sl.get hy;obtain⟨b,o,e,_,hcx⟩:=il;obtain⟨b',o',e',_,OC⟩:=DA;rw[e]at e';cases e';have ho0:o=0:=Vc.Own.Zg (by rw[<-e];exact eG);subst ho0;exact⟨x,y,b,hx,hy,e,by simpa using hcx 0 _ rfl,by simpa using OC 0 _ rfl⟩
  obtain⟨x,y,g,hx,hy,he,cx,cy⟩:=hex;subst he;have ej:((l.length:Int)-1-i)=((l.length-1-i:Nat):Int):=by omega
  rw[ej];refine Bz [0,1,2,3,4,5,6,7,8,9,10,11,12] 13 [14,15] (λw'=>w'=wx.drew) mixed (by kernel_rfl) rfl ?_;have cx':wx.drew.cell? ⟨g,i,none⟩=some (.int .i64 x):=cx;have cy':wx.drew.cell? ⟨g,l.length-1-i,none⟩=some (.int .i64 y):=cy;have hod:Vc.Own base 3 1 pq wx.drew (.slice (some ⟨g,0,none⟩) l.length c) cur:=eG.aJ (Kept.refl (λ_=>False) _).drew (λ_ _ h=>h);push_cast -dsimp[cx',cy'];refine⟨⟨by omega,by omega⟩,λbB hC=>by rw[hC,cy'];exact rfl,⟨by omega,by omega⟩,λbB hC=>by rw[hC,cx'];exact rfl,⟨by omega,by omega⟩,?_⟩;refine vQ (i:=i) (y:=y) hod rfl (by omega) rfl rfl ?_;intro w1 uU OK pY;refine⟨trivial,?_⟩;push_cast -dsimp;refine⟨⟨by omega,by omega⟩,?_⟩;have vX:l.length-1-i<(cur.set i y).length:=by rw[List.length_set];omega
  have mg:(cur.set i y).length=cur.length:=List.length_set;refine vQ (i:=l.length-1-i) (y:=x) uU rfl vX rfl rfl ?_;intro w2 lF lV Bn;have hkd:Kept (λj=>j=g) wx w2:=(((Kept.refl (λj=>j=g) wx).drew).trans OK (λ_ _ h=>h)).trans lV (λ_ _ h=>h);have CQ:base<=g:=(eG.block g rfl).1;refine⟨trivial,?_⟩;push_cast -dsimp;refine⟨⟨by omega,by omega⟩,⟨by omega,by omega⟩,⟨i+1,(cur.set i y).set (l.length-1-i) x,rfl,by congr 1;omega,by omega,by rw[List.length_set,List.length_set];exact iQ,λk hk=>?_,lF,hb.trans (hkd.below (by omega) (λj h=>by rw[show j=g from h];exact CQ))⟩,by rw[h2];simp only[intOf];omega⟩
  rw[List.getElem?_set,List.getElem?_set];have Cy:=GU i (by omega);have qU:=GU (l.length-1-i) (by omega);rw[if_neg (by omega)]at Cy qU;rw[hx]at Cy;rw[hy]at qU;by_cases e1:l.length-1-i=k
  ·rw[if_pos e1,if_pos vX,if_pos (by omega),Cy];congr 1;omega
  rw[if_neg e1];by_cases e2:i=k
  ·rw[if_pos e2,if_pos (by omega),if_pos (by omega),qU];congr 1;omega
  rw[if_neg e2,GU k hk];by_cases e3:k<i\/l.length-i<=k
  ·rw[if_pos e3,if_pos (by omega)]
  rw[if_neg e3,if_neg (by omega)]
 have aFO:cur=l.reverse:=by
  apply List.ext_getElem?;intro k;by_cases hk:k<l.length
  ·rw[GU k hk,List.getElem?_reverse hk];split
   ·rfl
   congr 1;omega
  rw[List.getElem?_eq_none (by omega),List.getElem?_eq_none (by rw[List.length_reverse];omega)]
 subst aFO;exact⟨eG,hb⟩
end Go.Proofs.YtemjejfpadnljaaGreatDoor
