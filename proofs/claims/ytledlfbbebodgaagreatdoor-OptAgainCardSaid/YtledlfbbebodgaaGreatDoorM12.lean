/- Texts of this claim, merged: Op4, Pop, Pv, Op5, Nev2, RowO, List, CAny, Match. -/
import Derived.Test.YtledlfbbebodgaaGreatDoorM11
import Derived.Shelf.Strings.IndexAnyAll
set_option maxRecDepth 100000
set_option linter.unusedSimpArgs false
set_option linter.unusedVariables false
set_option maxHeartbeats 8000000
section
namespace Go.Proofs.YtledlfbbebodgaaGreatDoor
open Go.Vc Go.Proofs Go.RowKit Cae
attribute [local irreducible] dd ae ak a7 runK bE Sl Vc.Own vc aU cJ a8
def O6 (c:aD)(is:List Bool)(i:Nat):List Nat:=(List.range (c.ins.length+1)).map λj=>if j<i then fU c is j else 0
def Dl (c:aD)(is:List Bool)(i:Nat):List Bool:=(List.range c.ins.length).map λj=>if j<i then eB c is j else decide (is[j]?=some true)
def rj (l:List Nat):List Value:=l.map λ(n:Nat)=>Value.int .i64 (n:Int)
theorem vH {c:aD}{is:List Bool}{i j:Nat}(h:j<c.ins.length+1):(O6 c is i)[j]?=some (if j<i then fU c is j else 0):=by simp[O6,h]
theorem nM {c:aD}{is:List Bool}{i j:Nat}(h:j<c.ins.length):(Dl c is i)[j]?=some (if j<i then eB c is j else decide (is[j]?=some true)):=by simp[Dl,h]
theorem gD (c:aD)(is:List Bool)(i:Nat):(Dl c is i).length=c.ins.length:=by simp[Dl]
theorem r6 (c:aD)(is:List Bool)(i:Nat):(O6 c is i).length=c.ins.length+1:=by simp[O6]
theorem YX (c:aD)(is:List Bool):rj (O6 c is 0)=List.replicate (c.ins.length+1) (.int .i64 0):=by
 apply List.ext_getElem?;intro j;unfold rj;rw[List.getElem?_map,List.getElem?_replicate];by_cases h:j<c.ins.length+1
 ·rw[vH h,if_pos h];rfl
 rw[List.getElem?_eq_none (by rw[r6];omega),if_neg h];rfl
theorem W8 {c:aD}{is:List Bool}(h:is.length=c.ins.length):Dl c is 0=is:=by
 apply List.ext_getElem?;intro j;by_cases hj:j<c.ins.length
 ·rw[nM hj,if_neg (by omega),List.getElem?_eq_getElem (by omega)];cases is[j]<;>simp
 rw[List.getElem?_eq_none (by rw[gD];omega),List.getElem?_eq_none (by omega)]
theorem KM {c:aD}{is:List Bool}{i:Nat}(h:i<c.ins.length+1):(rj (O6 c is i)).set i (.int .i64 (fU c is i:Int))=rj (O6 c is (i+1)):=by
 apply List.ext_getElem?;intro j;unfold rj;rw[List.getElem?_set,List.getElem?_map,List.getElem?_map,List.length_map,r6];by_cases hj:j<c.ins.length+1
 ·rw[vH hj,vH hj];by_cases e:i=j
  ·subst e;rw[if_pos rfl,if_pos h,if_pos (by omega)];rfl
  rw[if_neg e];by_cases h1:j<i
  ·rw[if_pos h1,if_pos (by omega)]
  rw[if_neg h1,if_neg (by omega)]
 rw[List.getElem?_eq_none (by rw[r6];omega),List.getElem?_eq_none (by rw[r6];omega),if_neg (by omega)]
theorem W7 {c:aD}{is:List Bool}{i:Nat}(h:i<c.ins.length)(hs:nR c is i=true):(x6 (Dl c is i)).set i (.bool false)=x6 (Dl c is (i+1)):=by
 apply List.ext_getElem?;intro j;unfold x6;rw[List.getElem?_set,List.getElem?_map,List.getElem?_map,List.length_map,gD];by_cases hj:j<c.ins.length
 ·rw[nM hj,nM hj];by_cases e:i=j
  ·subst e;rw[if_pos rfl,if_pos h,if_pos (by omega)];unfold eB;rw[hs];simp
  rw[if_neg e];by_cases h1:j<i
  ·rw[if_pos h1,if_pos (by omega)]
  rw[if_neg h1,if_neg (by omega)]
 rw[List.getElem?_eq_none (by rw[gD];omega),List.getElem?_eq_none (by rw[gD];omega),if_neg (by omega)]
theorem uY {c:aD}{is:List Bool}{i:Nat}(h:i<c.ins.length)(hs:nR c is i=false):Dl c is (i+1)=Dl c is i:=by
 apply List.ext_getElem?;intro j;by_cases hj:j<c.ins.length
 ·rw[nM hj,nM hj];by_cases e:i=j
  ·subst e;rw[if_pos (by omega),if_neg (by omega)];unfold eB;rw[hs];simp
  by_cases h1:j<i
  ·rw[if_pos h1,if_pos (by omega)]
  rw[if_neg h1,if_neg (by omega)]
 rw[List.getElem?_eq_none (by rw[gD];omega),List.getElem?_eq_none (by rw[gD];omega)]
theorem q9 {is is':List Bool}(hl:is.length=is'.length):∀(f k:Nat),(∀j,k<=j->is[j]?=is'[j]?)->bQ is f k=bQ is' f k
 | 0,k,h=>by rw[bQ,bQ,hl]
 | f+1,k,h=>by
  rw[bQ,bQ,h k (Nat.le_refl _),hl,q9 hl f (k+1) (λj hj=>h j (by omega))]
theorem RS {c:aD}{is:List Bool}(hl:is.length=c.ins.length){i:Nat}:sJ (Dl c is i) i=sJ is i:=by
 unfold sJ;rw[gD,<-hl];apply q9 (by rw[gD,hl]);intro j hj;by_cases h:j<c.ins.length
 ·rw[nM h,if_neg (by omega),List.getElem?_eq_getElem (by omega)];cases is[j]<;>simp
 rw[List.getElem?_eq_none (by rw[gD];omega),List.getElem?_eq_none (by omega)]
theorem zQ (k:Nat):∀(used:List Nat) (n:Nat),eA k ((used.zipIdx n).map λp=>(p.1,Value.int .i64 (p.2:Int)))=if k∈used then some (.int .i64 ((Qj k used+n:Nat):Int)) else none
 | [],n=>rfl
 | a::l,n=>by
  rw[List.zipIdx_cons,List.map_cons,eA,Qj];by_cases h:k=a
  ·subst h;simp
  rw[if_neg h,if_neg (Ne.symm h),zQ k l (n+1)];simp only[List.mem_cons,h,false_or];congr 3;omega
theorem Sa (l:List Nat)(k:Nat):((l++[k]).zipIdx.map λp=>(p.1,Value.int .i64 (p.2:Int)))=(l.zipIdx.map λp=>(p.1,Value.int .i64 (p.2:Int)))++[(k,Value.int .i64 (l.length:Int))]:=by
 rw[List.zipIdx_append,List.map_append];simp
theorem aA2 (c:aD)(hc:CR c)(X:Nat->Prop)(v:Value)(w:World)(hX:∀b,X b->b<w.heap.size)(hv:cW X w v c)(WD:jx c) :
  bE Tryz.prog 105 [v] w λr w'=>(∃is sv iv,r=.agg #[sv,iv]/\sO c is/\dy (λb=>X b\/iv.ownBlock=some b) w' sv (bX c is).sets/\Vc.Own w.heap.size 109 3 bV w' iv (bX c is).ins)/\Below w.heap.size w w':=by
 have hm:=hc.many;have so:=hc.one;have Yo:=hc.sets;have Iz:cW (λ_=>False) w v c:=hv.mono (λ_ _ _=>rfl) (λ_ h=>h.elim);obtain⟨sv,iv,rfl,vP,vk⟩:=hv;obtain⟨a,cp,rfl,N3⟩:=vk.shape;have GF:=vP.shape;obtain⟨sa,sc,rfl,vz⟩:=GF;refine jm Tryz.func105 rfl (by kernel_rfl) [.cell 2 70] rfl ?_;push_cast -dsimp(maxSteps:=4000000) [Tryz.ntmps105];refine aR ?_;intro w1 aZ;have aZ:ly w w1 70 [.slice sa c.sets.length sc,.slice a c.ins.length cp]:=aZ;have sM:=aZ.size;push_cast -dsimp;refine ag (z:=[.slice none 0 0,.slice none 0 0]) (by kernel_rfl) ?_;intro w2 bw;have HQ:=bw.size;have eR:Below w.heap.size w w2:=aZ.below.trans (bw.below.mono (by omega));have hC2:aM w2 w.heap.size 70 [.slice sa c.sets.length sc,.slice a c.ins.length cp]:=aZ.aN.below bw.below (by omega);have AS:aM w2 w1.heap.size 70 [.slice none 0 0,.slice none 0 0]:=bw.aN;have q2:=hC2.aB;simp only[List.length_cons,List.length_nil,Nat.zero_add,Nat.reduceAdd]at q2;push_cast -dsimp[q2];refine aA (Rr c hc _ w2 (Iz.below eR)) ?_;rintro _ w3 ⟨⟨is,sb,rfl,hS3,hCl,uS⟩,fL⟩;have TJ:=fL.size;have hC3:=hC2.below fL (by omega);have hR3:=AS.below fL (by omega);have c3:w3.cell? ⟨w.heap.size,1,none⟩=some (.slice a c.ins.length cp):=hC3.cell rfl;have qS:=hS3.lt;push_cast -dsimp[c3];refine⟨⟨by omega,by omega⟩,?_⟩;have aHv:((c.ins.length:Int)+1)=((c.ins.length+1:Nat):Int):=by omega
 rw[aHv];refine xe (z:=.int .i64 0) bA (by kernel_rfl) rfl (by omega) (by omega) ?_;intro w4 az;have Yu:=az.size;have hC4:=hC3.below az.below (by omega);have hR4:=hR3.below az.below (by omega);have hS4:=hS3.below az.below (by omega);have hT4:aM w4 w3.heap.size 3 (rj (O6 c is 0)):=by rw[YX];exact az.aN
 have kj:Below w.heap.size w w4:=eR.trans ((fL.mono (by omega)).trans (az.below.mono (by omega)));have c4:w4.cell? ⟨w.heap.size,1,none⟩=some (.slice a c.ins.length cp):=hC4.cell rfl;push_cast -dsimp[c4];refine aL [5,6,7,8,25,26,27,28,29,30,31,32,33,34,35,36,37,38,39,40,41,42,43,44,45,46,47,48,49,50,51,52,53,54,55,56,57,58,59,60,61,62,63,64,65] (λz wx=>∃(i:Nat),z 25=.int .i64 i/\z 5=.int .i64 (fU c is i:Int)/\i<=c.ins.length/\aM wx sb 4 (x6 (Dl c is i))/\aM wx w3.heap.size 3 (rj (O6 c is i)) /\
   aM wx w.heap.size 70 [.slice sa c.sets.length sc,.slice a c.ins.length cp]/\aM wx w1.heap.size 70 [.slice none 0 0,.slice none 0 0]/\Below w.heap.size w wx/\w4.heap.size<=wx.heap.size) (λz _=>c.ins.length-(intOf (z 25)).toNat) ?_ ?_
 ·exact⟨0,rfl,rfl,Nat.zero_le _,by rw[W8 hCl.len];exact hS4,hT4,hC4,hR4,kj,Nat.le_refl _⟩
 intro z wx hI;obtain⟨i,VO,h5,hi,hSx,hTx,Zs,yj,bT,EZ⟩:=hI;push_cast -dsimp[VO,h5];refine⟨λaw=>?_,λfT=>?_⟩
 ·have hg:=au (l:=c.ins) (i:=i) (by omega);obtain⟨x,hx,jQ,_⟩:=hg;have hg:=(vk.below bT).get hx;obtain⟨ib,io,rfl,_,hic⟩:=hg;have ci:aB wx ⟨ib,io+i*3,none⟩ 0 3=some [.int .i64 x.op,.int .i64 x.a,.int .i64 x.b]:=ax (bV x) 0 (λj u hu=>by simpa using hic j u hu);push_cast -dsimp[ci];refine⟨⟨by omega,by omega⟩,?_⟩;refine ag (z:=[.int .i64 0,.int .i64 0,.int .i64 0]) (by kernel_rfl) ?_;intro w5 cO;have SX:=cO.size;push_cast -dsimp;refine aJ (n:=3) (by kernel_rfl) cO.aN rfl (by simp) (by simp[Value.oneCell']) ?_;intro w6 bZ;have Mm:=bZ.size;have hX6:aM w6 wx.heap.size 109 [.int .i64 x.op,.int .i64 x.a,.int .i64 x.b]:=bZ.aN;have k6:Kept (λj=>j=wx.heap.size) wx w6:=(Kept.new cO).trans bZ.kept (λ_ _ h=>h);have hS6:=hSx.kept k6 (by omega);have CM:=hTx.kept k6 (by omega);have VQ:=Zs.kept k6 (by omega);have hR6:=yj.kept k6 (by omega);have lp:Below w.heap.size w w6:=bT.trans (k6.below (by omega) (λ_ h=>by omega));push_cast -dsimp;refine⟨⟨by omega,by omega⟩,?_⟩;refine aC CM (by unfold rj;rw[List.length_map,r6];omega) rfl ?_;intro w7 fh;have yL:=fh.aN;rw[KM (by omega)]at yL;have Mn:=fh.size;have NZ:=hS6.kept fh.kept (by omega);have N2:=hX6.kept fh.kept (by omega);have Sm:=VQ.kept fh.kept (by omega);have NW:=hR6.kept fh.kept (by omega);have nw:Below w.heap.size w w7:=lp.trans (fh.kept.below (by omega) (λ_ h=>by omega));push_cast -dsimp;refine bx (λw'=>w'=w7.drew) mixed (by kernel_rfl) rfl ?_;have t0:w7.drew.cell? ⟨wx.heap.size,0,none⟩=some (.int .i64 x.op):=N2.drew.cell rfl
  have t1:w7.drew.cell? ⟨wx.heap.size,1,none⟩=some (.int .i64 x.a):=N2.drew.cell rfl;have yl:∃bi,decide (is[i]?=some true)=bi:=⟨_,rfl⟩;obtain⟨bi,HE⟩:=yl;have b0:w7.drew.cell? ⟨sb,i,none⟩=some (.bool bi):=NZ.drew.cell (by unfold x6;rw[List.getElem?_map,nM (by omega),if_neg (by omega),HE];rfl);have aAH:nR c is i=decide (x.op=3/\(sJ is i:Int)=x.a/\(i:Int)<x.a):=by unfold nR;rw[hx]
  push_cast -dsimp[t0,t1];refine⟨λbU hC=>by rw[hC];exact gV N2.drew rfl,λh3=>?_,λh3=>?_⟩
  ·refine aA (XF (Dl c is i) (by rw[gD];omega) i (λ_=>False) _ w7.drew ?_ (by rw[gD];omega)) ?_
   ·exact aKa (f:=Value.bool) NZ.drew (gD c is i).symm (by rw[gD];omega)
   rintro _ w8 ⟨rfl,rfl⟩;rw[RS hCl.len];refine⟨rfl,?_⟩;by_cases HF:(i:Int)<x.a
   ·have he:decide ((i:Int)<x.a)=true:=decide_eq_true HF;push_cast -dsimp[t0,t1,he];refine⟨λbU hC=>by rw[hC];exact gV N2.drew rfl,λjD=>⟨λbU hC=>by rw[hC];exact gV N2.drew rfl,?_⟩,λjD=>?_⟩
    ·have Iw:nR c is i=true:=by rw[aAH];exact decide_eq_true ⟨h3,jD,HF⟩
     have De:eB c is i=false:=by unfold eB;rw[Iw];simp
     have yp:fU c is (i+1)=fU c is i:=by rw[fU,if_neg (by rw[De];simp)]
     have aIp:aM w7.drew sb 4 (x6 (Dl c is i)):=NZ.drew;have ni:∀w8,Yy w7.drew w8 sb 4 ((x6 (Dl c is i)).set i (.bool false))->aM w8 sb 4 (x6 (Dl c is (i+1)))/\aM w8 w3.heap.size 3 (rj (O6 c is (i+1)))/\aM w8 w.heap.size 70 [.slice sa c.sets.length sc,.slice (some ⟨ib,io,none⟩) c.ins.length cp]/\aM w8 w1.heap.size 70 [.slice none 0 0,.slice none 0 0]/\Below w.heap.size w w8/\w4.heap.size<=w8.heap.size:=λw8 sE=>by
      have sz8:w8.heap.size=w7.heap.size:=sE.size;refine⟨by rw[<-W7 (by omega) Iw];exact sE.aN,yL.drew.kept sE.kept (by omega),Sm.drew.kept sE.kept (by omega),NW.drew.kept sE.kept (by omega),nw.drew.trans (sE.kept.below (by show w.heap.size<=w7.heap.size;omega) (λ_ h=>by omega)),by omega⟩
     cases bi with
     | true =>
      push_cast -dsimp[b0];refine⟨⟨by omega,by omega⟩,⟨by omega,by omega⟩,?_⟩;refine aC aIp (by unfold x6;rw[List.length_map,gD];omega) rfl ?_;intro w8 sE;have hf:=ni w8 sE;obtain⟨f1,f2,f3,f4,f5,f6⟩:=hf;push_cast -dsimp;exact⟨⟨by omega,by omega⟩,⟨i+1,rfl,by rw[yp],by omega,f1,f2,f3,f4,f5,f6⟩,by rw[VO];simp only[intOf];omega⟩
     | false =>
      push_cast -dsimp[b0];refine⟨⟨by omega,by omega⟩,⟨by omega,by omega⟩,?_⟩;refine aC aIp (by unfold x6;rw[List.length_map,gD];omega) rfl ?_;intro w8 sE;have hf:=ni w8 sE;obtain⟨f1,f2,f3,f4,f5,f6⟩:=hf;push_cast -dsimp;exact⟨⟨by omega,by omega⟩,⟨i+1,rfl,by rw[yp],by omega,f1,f2,f3,f4,f5,f6⟩,by rw[VO];simp only[intOf];omega⟩
    have Iw:nR c is i=false:=by rw[aAH];exact decide_eq_false λh=>jD h.2.1
    have De:eB c is i=bi:=by unfold eB;rw[Iw,HE];simp
    have VY:aM w7.drew sb 4 (x6 (Dl c is (i+1))):=by rw[uY (by omega) Iw];exact NZ.drew
    cases bi with
    | true =>
     have yp:fU c is (i+1)=fU c is i+1:=by rw[fU,if_pos De]
     push_cast -dsimp[b0];have hle:=lK (c:=c) (is:=is) i;exact⟨⟨by omega,by omega⟩,⟨by omega,by omega⟩,⟨by omega,by omega⟩,⟨i+1,rfl,by rw[yp];rfl,by omega,VY,yL.drew,Sm.drew,NW.drew,nw.drew,by show w4.heap.size<=w7.heap.size;omega⟩,by rw[VO];simp only[intOf];omega⟩
    | false =>
     have yp:fU c is (i+1)=fU c is i:=by rw[fU,if_neg (by rw[De];simp)]
     push_cast -dsimp[b0];exact⟨⟨by omega,by omega⟩,⟨by omega,by omega⟩,⟨i+1,rfl,by rw[yp],by omega,VY,yL.drew,Sm.drew,NW.drew,nw.drew,by show w4.heap.size<=w7.heap.size;omega⟩,by rw[VO];simp only[intOf];omega⟩
   have he:decide ((i:Int)<x.a)=false:=decide_eq_false HF;have Iw:nR c is i=false:=by rw[aAH];exact decide_eq_false λh=>HF h.2.2
   push_cast -dsimp[t0,t1,he];refine⟨λbU hC=>by rw[hC];exact gV N2.drew rfl,λjD=>⟨λbU hC=>by rw[hC];exact gV N2.drew rfl,?_⟩,λjD=>?_⟩;·
    have De:eB c is i=bi:=by unfold eB;rw[Iw,HE];simp
    have VY:aM w7.drew sb 4 (x6 (Dl c is (i+1))):=by rw[uY (by omega) Iw];exact NZ.drew
    cases bi with
    | true =>
     have yp:fU c is (i+1)=fU c is i+1:=by rw[fU,if_pos De]
     push_cast -dsimp[b0];have hle:=lK (c:=c) (is:=is) i;exact⟨⟨by omega,by omega⟩,⟨by omega,by omega⟩,⟨by omega,by omega⟩,⟨i+1,rfl,by rw[yp];rfl,by omega,VY,yL.drew,Sm.drew,NW.drew,nw.drew,by show w4.heap.size<=w7.heap.size;omega⟩,by rw[VO];simp only[intOf];omega⟩
    | false =>
     have yp:fU c is (i+1)=fU c is i:=by rw[fU,if_neg (by rw[De];simp)]
     push_cast -dsimp[b0];exact⟨⟨by omega,by omega⟩,⟨by omega,by omega⟩,⟨i+1,rfl,by rw[yp],by omega,VY,yL.drew,Sm.drew,NW.drew,nw.drew,by show w4.heap.size<=w7.heap.size;omega⟩,by rw[VO];simp only[intOf];omega⟩
   ·
    have De:eB c is i=bi:=by unfold eB;rw[Iw,HE];simp
    have VY:aM w7.drew sb 4 (x6 (Dl c is (i+1))):=by rw[uY (by omega) Iw];exact NZ.drew
    cases bi with
    | true =>
     have yp:fU c is (i+1)=fU c is i+1:=by rw[fU,if_pos De]
     push_cast -dsimp[b0];have hle:=lK (c:=c) (is:=is) i;exact⟨⟨by omega,by omega⟩,⟨by omega,by omega⟩,⟨by omega,by omega⟩,⟨i+1,rfl,by rw[yp];rfl,by omega,VY,yL.drew,Sm.drew,NW.drew,nw.drew,by show w4.heap.size<=w7.heap.size;omega⟩,by rw[VO];simp only[intOf];omega⟩
    | false =>
     have yp:fU c is (i+1)=fU c is i:=by rw[fU,if_neg (by rw[De];simp)]
     push_cast -dsimp[b0];exact⟨⟨by omega,by omega⟩,⟨by omega,by omega⟩,⟨i+1,rfl,by rw[yp],by omega,VY,yL.drew,Sm.drew,NW.drew,nw.drew,by show w4.heap.size<=w7.heap.size;omega⟩,by rw[VO];simp only[intOf];omega⟩
  have Iw:nR c is i=false:=by rw[aAH];exact decide_eq_false λh=>h3 h.1
  have De:eB c is i=bi:=by unfold eB;rw[Iw,HE];simp
  have VY:aM w7.drew sb 4 (x6 (Dl c is (i+1))):=by rw[uY (by omega) Iw];exact NZ.drew
  cases bi with
  | true =>
   have yp:fU c is (i+1)=fU c is i+1:=by rw[fU,if_pos De]
   push_cast -dsimp[b0];have hle:=lK (c:=c) (is:=is) i;exact⟨⟨by omega,by omega⟩,⟨by omega,by omega⟩,⟨by omega,by omega⟩,⟨i+1,rfl,by rw[yp];rfl,by omega,VY,yL.drew,Sm.drew,NW.drew,nw.drew,by show w4.heap.size<=w7.heap.size;omega⟩,by rw[VO];simp only[intOf];omega⟩
  | false =>
   have yp:fU c is (i+1)=fU c is i:=by rw[fU,if_neg (by rw[De];simp)]
   push_cast -dsimp[b0];exact⟨⟨by omega,by omega⟩,⟨by omega,by omega⟩,⟨i+1,rfl,by rw[yp],by omega,VY,yL.drew,Sm.drew,NW.drew,nw.drew,by show w4.heap.size<=w7.heap.size;omega⟩,by rw[VO];simp only[intOf];omega⟩
 have nH:i=c.ins.length:=by omega
 subst nH;have c1:wx.cell? ⟨w.heap.size,1,none⟩=some (.slice a c.ins.length cp):=Zs.cell rfl;push_cast -dsimp[c1];refine⟨⟨by omega,by omega⟩,?_⟩;refine aC hTx (by unfold rj;rw[List.length_map,r6];omega) rfl ?_;intro w5 cO;have SX:=cO.size;have hT5:=cO.aN;rw[KM (by omega)]at hT5;have hS5:=hSx.kept cO.kept (by omega);have hC5:=Zs.kept cO.kept (by omega);have hR5:=yj.kept cO.kept (by omega);have ng:Below w.heap.size w w5:=bT.trans (cO.kept.below (by omega) (λ_ h=>by omega));push_cast -dsimp;refine ag (z:=[.slice none 0 0,.slice none 0 0]) (by kernel_rfl) ?_;intro w6 bZ;have Mm:=bZ.size;have CM:=hT5.below bZ.below (by omega);have hS6:=hS5.below bZ.below (by omega);have VQ:=hC5.below bZ.below (by omega);have hR6:=hR5.below bZ.below (by omega);have se:aM w6 w5.heap.size 70 [.slice none 0 0,.slice none 0 0]:=bZ.aN;have lp:Below w.heap.size w w6:=ng.trans (bZ.below.mono (by omega));push_cast -dsimp;refine Aw (key:=λn:Nat=>Value.int .i64 (n:Int)) ?_;intro w7 hM7 QJ Mn;have yL:=CM.below QJ (by omega);have NZ:=hS6.below QJ (by omega);have Sm:=VQ.below QJ (by omega);have NW:=hR6.below QJ (by omega);have uD:=se.below QJ (by omega);have nw:Below w.heap.size w w7:=lp.trans (QJ.mono (by omega));have c7:w7.cell? ⟨w.heap.size,1,none⟩=some (.slice a c.ins.length cp):=Sm.cell rfl;push_cast -dsimp[c7];have rO:=dy.values vP;obtain⟨us,aOm,aFc,aFd⟩:=rO
 refine aL [11,12,13,14,76,77,78,79,80,81,82,83,84,85,86,87,88,89,90,91,92,93,94,95,96,97,98,99,100,101,102,103,104,105,106,107,108,109,110,111,112,113,114,115,116,117,118,119,120,121,122,123,124,125,126,127,128,129,130,131,132,133,134,135,136,137,138,139,140,141,142,143,144,145,146,147] (λz wx=>∃(i:Nat) (ov iv:Value),z 76=.int .i64 i/\i<=c.ins.length/\aM wx w5.heap.size 70 [ov,iv]/\Vc.Own w4.heap.size 41 1 nD wx ov ((aX c is i).used.map λa=>us.getD a ⟨none,0,0⟩)/\Vc.Own w4.heap.size 109 3 bV wx iv (aX c is i).ins /\
   ml (λn:Nat=>Value.int .i64 (n:Int)) wx w6.heap.size ((aX c is i).used.zipIdx.map λp=>(p.1,.int .i64 (p.2:Int)))/\aM wx sb 4 (x6 (Dl c is c.ins.length))/\aM wx w3.heap.size 3 (rj (O6 c is (c.ins.length+1))) /\
   aM wx w.heap.size 70 [.slice sa c.sets.length sc,.slice a c.ins.length cp]/\aM wx w1.heap.size 70 [.slice none 0 0,.slice none 0 0]/\Below w.heap.size w wx/\w7.heap.size<=wx.heap.size /\
   (∀g,ov.ownBlock=some g->w7.heap.size<=g)/\(∀g,iv.ownBlock=some g->w7.heap.size<=g)) (λz _=>c.ins.length-(intOf (z 76)).toNat) ?_ ?_
 ·exact⟨0,_,_,rfl,Nat.zero_le _,uD,Vc.Own.nil (enc:=nD) _ _ (λ_=>rfl) _,Vc.Own.nil (enc:=bV) _ _ (λ_=>rfl) _,hM7,NZ,yL,Sm,NW,nw,Nat.le_refl _,λg h=>by simp[Value.ownBlock]at h,λg h=>by simp[Value.ownBlock]at h⟩
 intro z wx hI;obtain⟨i,ov,iv',h76,hi,QC,od,jD,CK,hSx,hTx,Zs,yj,bT,EZ,eZ,Iq⟩:=hI;push_cast -dsimp[h76];refine⟨λaw=>?_,λfT=>?_⟩
 ·have hg:=au (l:=c.ins) (i:=i) (by omega);obtain⟨x,hx,jQ,_⟩:=hg;have hg:=(vk.below bT).get hx;obtain⟨ib,io,rfl,_,hic⟩:=hg;have ci:aB wx ⟨ib,io+i*3,none⟩ 0 3=some [.int .i64 x.op,.int .i64 x.a,.int .i64 x.b]:=ax (bV x) 0 (λj u hu=>by simpa using hic j u hu);push_cast -dsimp[ci];refine⟨⟨by omega,by omega⟩,?_⟩;refine ag (z:=[.int .i64 0,.int .i64 0,.int .i64 0]) (by kernel_rfl) ?_;intro wa dt;have YS:=dt.size;push_cast -dsimp;refine aJ (n:=3) (by kernel_rfl) dt.aN rfl (by simp) (by simp[Value.oneCell']) ?_;intro wb cL;have SY:=cL.size;have HD:aM wb wx.heap.size 109 [.int .i64 x.op,.int .i64 x.a,.int .i64 x.b]:=cL.aN;have kb:Kept (λj=>j=wx.heap.size) wx wb:=(Kept.new dt).trans cL.kept (λ_ _ h=>h);have hSb:=hSx.kept kb (by omega);have hTb:=hTx.kept kb (by omega);have hCb:=Zs.kept kb (by omega);have NX:=yj.kept kb (by omega);have hOb:=QC.kept kb (by omega);have Zw:=CK.kept kb (by omega);have uS:=od.aI kb (λg hg h=>by have:=od.block g hg;omega);have jh:=jD.aI kb (λg hg h=>by have:=jD.block g hg;omega);have jK:Below w.heap.size w wb:=bT.trans (kb.below (by omega) (λ_ h=>by omega));have yl:∃bi,eB c is i=bi:=⟨_,rfl⟩;obtain⟨bi,HE⟩:=yl;have b0:wb.cell? ⟨sb,i,none⟩=some (.bool bi):=hSb.cell (by unfold x6;rw[List.getElem?_map,nM (by omega),if_pos (by omega),HE];rfl);have t0:wb.cell? ⟨wx.heap.size,0,none⟩=some (.int .i64 x.op):=HD.cell rfl;cases bi with
  | false =>
   have ba:aX c is (i+1)=aX c is i:=by rw[aX];unfold ue;rw[hx];dsimp only;rw[if_neg (by rw[HE];simp)]
   push_cast -dsimp[b0];rw[<-ba]at uS jh Zw;exact⟨⟨by omega,by omega⟩,⟨by omega,by omega⟩,⟨i+1,ov,iv',rfl,by omega,hOb,uS,jh,Zw,hSb,hTb,hCb,NX,jK,by omega,eZ,Iq⟩,by rw[h76];simp only[intOf];omega⟩
  | true =>
   have ba:aX c is (i+1)=⟨pj (aX c is i).used x,(aX c is i).ins++[j3 c is (aX c is i).used x]⟩:=by rw[aX];unfold ue;rw[hx];dsimp only;rw[if_pos HE]
   push_cast -dsimp[b0,t0];refine⟨⟨by omega,by omega⟩,λh1=>?_,λh1=>⟨λh3=>?_,λh3=>⟨λh2=>?_,λh2=>?_⟩⟩⟩
   ·have hop:x.op≠2/\x.op≠3/\x.op≠4/\x.op≠5:=by omega
    have hj:=iZ hc hx hop;have Fh:x.a=((x.a.toNat:Nat):Int):=by rw[Int.toNat_of_nonneg hj.2.1]
    have t1:wb.cell? ⟨wx.heap.size,1,none⟩=some (.int .i64 x.a):=HD.cell rfl;have AY:Value.int .i64 x.a=(λn:Nat=>Value.int .i64 (n:Int)) x.a.toNat:=by dsimp only;rw[<-Fh]
    have has:=zQ x.a.toNat (aX c is i).used 0;push_cast -dsimp[t1];by_cases kV:x.a.toNat∈(aX c is i).used
    ·rw[if_pos kV]at has;refine pK (kt:=3) (et:=3) (z:=.int .i64 0) (by kernel_rfl) (MC (by kernel_rfl)) (by kernel_rfl) Zw AY has ?_;push_cast -dsimp;refine aC HD (by simp) rfl ?_;intro wc fz;have szc:=fz.size;have Cl:aM wc wx.heap.size 109 (bV (j3 c is (aX c is i).used x)):=by
      unfold j3;rw[if_pos h1,if_pos kV];exact fz.aN
     have FJ:pj (aX c is i).used x=(aX c is i).used:=by unfold pj;rw[if_pos h1,if_pos kV]
     rw[FJ]at ba;have hk:=fz.kept;have hSc:=hSb.kept hk (by omega);have hTc:=hTb.kept hk (by omega);have Zq:=hCb.kept hk (by omega);have CL:=NX.kept hk (by omega);have yJ:=hOb.kept hk (by omega);have Zx:=Zw.kept hk (by omega);have vz:=uS.aI hk (λg hg h=>by have:=od.block g hg;omega);have vN:=jh.aI hk (λg hg h=>by have:=jD.block g hg;omega);have mm:Below w.heap.size w wc:=jK.trans (hk.below (by omega) (λ_ h=>by omega));have sk:=eZ;have Nc:∃G8,G8=ov:=⟨_,rfl⟩;obtain⟨G8,rfl⟩:=Nc;have QW:∃y,j3 c is (aX c is i).used x=y:=⟨_,rfl⟩;obtain⟨y,hy⟩:=QW;rw[hy]at Cl;have hlen:=(dm hc (is:=is) i hi).len;have aAx:=lK (c:=c) (is:=is) i;have ZR:wc.cell? ⟨w5.heap.size,1,none⟩=some iv':=yJ.cell rfl;have x33:aB wc ⟨wx.heap.size,0,none⟩ 0 3=some [.int .i64 y.op,.int .i64 y.a,.int .i64 y.b]:=Cl.aB;have Q7:=vN.slice;obtain⟨GH,inc,rfl⟩:=Q7;push_cast -dsimp[ZR,x33];refine cT gj rfl rfl (by omega) ?_;intro wd lG;have szd:=lG.size;push_cast -dsimp;refine aS (base:=w4.heap.size) [y] (enc:=bV) gj (vN.new lG) (by rfl) (λj u hu=>by simpa[bV] using lG.cell hu) jl (by simp only[List.length_cons,List.length_nil];omega) (by omega) ?_;intro ve we sD fT Cy;have rP:∀g,(Value.slice GH (aX c is i).ins.length inc).ownBlock=some g->g≠sb/\g≠w3.heap.size/\g≠w.heap.size/\g≠w1.heap.size/\g≠w5.heap.size/\g≠w6.heap.size:=λg hg=>by have:=Iq g hg;omega
     have eN:Kept (λj=>(Value.slice GH (aX c is i).ins.length inc).ownBlock=some j) wd we:=Kept.grown fT (λ_ h=>h);have lY:Kept (λj=>(Value.slice GH (aX c is i).ins.length inc).ownBlock=some j) wc we:=(Kept.new lG).trans eN (λ_ _ h=>h);have hSe:=hSc.kept lY (λh=>(rP _ h).1 rfl);have hTe:=hTc.kept lY (λh=>(rP _ h).2.1 rfl);have Zr:=Zq.kept lY (λh=>(rP _ h).2.2.1 rfl);have NY:=CL.kept lY (λh=>(rP _ h).2.2.2.1 rfl);have QB:=yJ.kept lY (λh=>(rP _ h).2.2.2.2.1 rfl);have VT:=Zx.kept lY (λh=>(rP _ h).2.2.2.2.2 rfl);have DA:=vz.aI lY (λg hg h=>qe vz vN (by decide) g hg h);have sg:Below w.heap.size w we:=mm.trans (lY.below (by omega) (λg h=>by have:=Iq g h;omega));have O1:=lY.size;have Ln:=sD.slice;obtain⟨ea,ec,rfl⟩:=Ln;push_cast -dsimp;refine aC QB (by simp) rfl ?_;intro wf jP;have szf:=jP.size;push_cast -dsimp;have uO:∀g,(Value.slice ea ((aX c is i).ins++[y]).length ec).ownBlock=some g->w7.heap.size<=g:=λg hg=>by
      rcases Cy g hg with h|h
      ·exact Iq g h
      omega
     refine⟨⟨by omega,by omega⟩,⟨i+1,G8,_,rfl,by omega,jP.aN,?_,?_,?_,hSe.kept jP.kept (by omega),hTe.kept jP.kept (by omega),Zr.kept jP.kept (by omega),NY.kept jP.kept (by omega),sg.trans (jP.kept.below (by omega) (λ_ h=>by omega)),by omega,sk,uO⟩,by rw[h76];simp only[intOf];omega⟩
     ·rw[ba];exact DA.aI jP.kept (λg hg h=>by have:=sk g hg;omega)
     ·rw[ba,hy];exact sD.aI jP.kept (λg hg h=>by have:=uO g hg;omega)
     rw[ba];exact VT.kept jP.kept (by omega)
    rw[if_neg kV]at has;refine pJ (kt:=3) (et:=3) (z:=.int .i64 0) (by kernel_rfl) (MC (by kernel_rfl)) (by kernel_rfl) Zw AY has ?_;have HL:(aX c is i).used.length<=c.sets.length:=nN _ _ (dm hc (is:=is) i hi).nodup (dm hc (is:=is) i hi).used;have hos:=uS.slice;obtain⟨oa,oc,rfl⟩:=hos;rw[List.length_map]at hOb eZ uS;have c30:wb.cell? ⟨w5.heap.size,0,none⟩=some (.slice oa (aX c is i).used.length oc):=hOb.cell rfl;have WV:=List.getElem?_eq_getElem (l:=us) (i:=x.a.toNat) (by omega);have hug:=aFc.get WV;obtain⟨ub,uo,rfl,_,huc⟩:=hug;have huv:∃u,us[x.a.toNat]'(by omega)=u:=⟨_,rfl⟩;obtain⟨u,hu⟩:=huv;rw[hu]at WV huc;have csv:w.cell? ⟨ub,uo+x.a.toNat,none⟩=some u.v:=by
     have:=huc 0 _ rfl;rwa [Nat.mul_one,Nat.add_zero]at this
    have aTP:ub<w.heap.size:=World.block_lt_of_cell? w _ csv;have csb:wb.cell? ⟨ub,uo+x.a.toNat,none⟩=some u.v:=(Kept.aO jK (X:=λ_=>False) (λk hk hl=>by omega)).cell csv id;push_cast -dsimp[c30,t1];refine jJ (kt:=3) (et:=3) (by kernel_rfl) (MC (by kernel_rfl)) Zw AY has ?_;intro wm hMm xO szm;rw[<-Sa]at hMm;have hOm:=hOb.kept xO (by omega);have hCm:=hCb.kept xO (by omega);have hXm:=HD.kept xO (by omega);have aOd:=uS.aI xO (λg hg h=>by have:=eZ g hg;omega);have csm:wm.cell? ⟨ub,uo+x.a.toNat,none⟩=some u.v:=xO.cell csb (by show ¬ub=_;omega)
    push_cast -dsimp;refine Bz [0,1,2,3,4,5,6,7,8] 9 [10,11] (λw'=>aM w' w5.heap.size 70 [.slice oa (aX c is i).used.length oc,iv']/\aM w' w.heap.size 70 [.slice (some ⟨ub,uo,none⟩) c.sets.length sc,.slice (some ⟨ib,io,none⟩) c.ins.length cp]/\aM w' wx.heap.size 109 [.int .i64 x.op,.int .i64 x.a,.int .i64 x.b]/\w'.cell? ⟨ub,uo+x.a.toNat,none⟩=some u.v) mixed (by kernel_rfl) ⟨hOm.drew,hCm.drew,hXm.drew,csm⟩ ?_;have d1:wm.drew.cell? ⟨w5.heap.size,0,none⟩=some (.slice oa (aX c is i).used.length oc):=hOm.drew.cell rfl;have d2:wm.drew.cell? ⟨w.heap.size,0,none⟩=some (.slice (some ⟨ub,uo,none⟩) c.sets.length sc):=hCm.drew.cell rfl;have d3:wm.drew.cell? ⟨wx.heap.size,1,none⟩=some (.int .i64 x.a):=hXm.drew.cell rfl;have d4:wm.drew.cell? ⟨ub,uo+x.a.toNat,none⟩=some u.v:=csm;push_cast -dsimp[d1,d2,d3,d4];refine⟨λbU hC=>gV hC.1 rfl,λbU hC=>gV hC.2.1 rfl,λbU hC=>gV hC.2.2.1 rfl,⟨by omega,by omega⟩,λbU hC=>by rw[hC.2.2.2];exact rfl,?_⟩;refine cT vW rfl rfl (by omega) ?_;intro wn hwn;have szn:wn.heap.size=wm.heap.size+1:=hwn.size;have kn:Kept (λ_=>False) wm wn:=((Kept.refl (λ_=>False) wm).drew).trans (Kept.new (X:=λ_=>False) hwn) (λ_ _ h=>h);have hOn:=hOm.kept kn id;have Ss:=hXm.kept kn id;refine⟨⟨hOn,hCm.kept kn id,Ss,kn.cell csm id⟩,?_⟩;push_cast -dsimp;have hsn:=aOd.aI kn (λg hg h=>h.elim)
    refine aS (base:=w4.heap.size) [u] (enc:=nD) vW hsn (by rfl) (λj v' WW=>by simpa[nD] using hwn.cell WW) D2 (by simp only[List.length_cons,List.length_nil,List.length_map];omega) (by omega) ?_;intro ov' wo hoo ym aEW;have aE2:=hoo.slice;obtain⟨oa',oc',rfl⟩:=aE2;have hgx:∃X,X=(λj=>(Value.slice oa (aX c is i).used.length oc).ownBlock=some j):=⟨_,rfl⟩;obtain⟨Xo,hXo⟩:=hgx;have ko:Kept Xo wn wo:=Kept.grown ym (λk h=>by rw[hXo];exact h);have N2:∀g,Xo g->w7.heap.size<=g/\g<wx.heap.size:=λg hg=>by
     rw[hXo]at hg;exact⟨eZ g hg,(od.block g (by rw[List.length_map];exact hg)).2⟩
    have szo:=ko.size;have hOo:=hOn.kept ko (λh=>by have:=N2 _ h;omega);have aMx:=Ss.kept ko (λh=>by have:=N2 _ h;omega);refine⟨trivial,?_⟩;push_cast -dsimp;refine aC hOo (by simp) rfl ?_;intro wp hwp;have szp:wp.heap.size=wo.heap.size:=hwp.size;have hXp:=aMx.kept hwp.kept (by omega);refine⟨trivial,?_⟩;push_cast -dsimp;refine aC hXp (by simp) rfl ?_;intro wc fz;have szc:wc.heap.size=wp.heap.size:=fz.size;have Qu:Kept (λj=>j=w6.heap.size\/j=w5.heap.size\/j=wx.heap.size\/Xo j) wb wc:=by
     refine((((xO.trans kn (λ_ _ h=>h.elim)).weaken (Y:=λj=>j=w6.heap.size\/j=w5.heap.size\/j=wx.heap.size\/Xo j) (λ_ _ h=>.inl h)).trans ko (λ_ _ h=>.inr (.inr (.inr h)))).trans hwp.kept (λ_ _ h=>.inr (.inl h))).trans fz.kept (λ_ _ h=>.inr (.inr (.inl h)))
    have aAA:∀k,k<w7.heap.size->k≠w6.heap.size->k≠w5.heap.size->¬(k=w6.heap.size\/k=w5.heap.size\/k=wx.heap.size\/Xo k):=λk h1 h2 h3 h=>by
     rcases h with h|h|h|h
     ·exact h2 h
     ·exact h3 h
     ·omega
     have:=N2 k h;omega
    have Cl:aM wc wx.heap.size 109 (bV (j3 c is (aX c is i).used x)):=by
     unfold j3;rw[if_pos h1,if_neg kV];exact fz.aN
    have FJ:pj (aX c is i).used x=(aX c is i).used++[x.a.toNat]:=by unfold pj;rw[if_pos h1,if_neg kV]
    rw[FJ]at ba;have hSc:=hSb.kept Qu (aAA _ (by omega) (by omega) (by omega));have hTc:=hTb.kept Qu (aAA _ (by omega) (by omega) (by omega));have Zq:=hCb.kept Qu (aAA _ (by omega) (by omega) (by omega));have CL:=NX.kept Qu (aAA _ (by omega) (by omega) (by omega));have yJ:=hwp.aN.kept fz.kept (by omega);have Zx:=(((hMm.kept kn id).kept ko (λh=>by have:=N2 _ h;omega)).kept hwp.kept (by omega)).kept fz.kept (by omega);have aAz:∀g,(Value.slice oa' (((aX c is i).used.map λa=>us.getD a ⟨none,0,0⟩)++[u]).length oc').ownBlock=some g->w7.heap.size<=g/\g≠wx.heap.size:=λg hg=>by
     rcases aEW g hg with h|h
     ·have:=N2 g (by rw[hXo];simpa using h);omega
     omega
    have vz:=(hoo.aI hwp.kept (λg hg h=>by have:=aAz g hg;omega)).aI fz.kept (λg hg h=>by have:=aAz g hg;omega);have vN:=jh.aI Qu (λg hg h=>by
     have h1:=Iq g hg;have h2:=(jD.block g hg).2;rcases h with h|h|h|h
     ·omega
     ·omega
     ·omega
     rw[hXo]at h;exact qe jD od (by decide) g hg (by rw[List.length_map];exact h))
    have mm:Below w.heap.size w wc:=jK.trans (Qu.below (by omega) (λk h=>by
     rcases h with h|h|h|h
     ·omega
     ·omega
     ·omega
     have:=N2 k h;omega))
    have ems:((aX c is i).used.map λa=>us.getD a ⟨none,0,0⟩)++[u]=((aX c is i).used++[x.a.toNat]).map λa=>us.getD a ⟨none,0,0⟩:=by
     rw[List.map_append];simp only[List.map_cons,List.map_nil,List.getD_eq_getElem?_getD,WV,Option.getD_some]
    rw[ems]at vz yJ aAz;have sk:=λg hg=>(aAz g hg).1;have Nc:∃G8,G8=Value.slice oa' (((aX c is i).used++[x.a.toNat]).map λa=>us.getD a ⟨none,0,0⟩).length oc':=⟨_,rfl⟩;obtain⟨G8,aNZ⟩:=Nc;rw[<-aNZ]at vz yJ sk;have QW:∃y,j3 c is (aX c is i).used x=y:=⟨_,rfl⟩;obtain⟨y,hy⟩:=QW;rw[hy]at Cl;have hlen:=(dm hc (is:=is) i hi).len;have aAx:=lK (c:=c) (is:=is) i;have ZR:wc.cell? ⟨w5.heap.size,1,none⟩=some iv':=yJ.cell rfl;have x33:aB wc ⟨wx.heap.size,0,none⟩ 0 3=some [.int .i64 y.op,.int .i64 y.a,.int .i64 y.b]:=Cl.aB;have Q7:=vN.slice;obtain⟨GH,inc,rfl⟩:=Q7;push_cast -dsimp[ZR,x33];refine cT gj rfl rfl (by omega) ?_;intro wd lG;have szd:=lG.size;push_cast -dsimp;refine aS (base:=w4.heap.size) [y] (enc:=bV) gj (vN.new lG) (by rfl) (λj u hu=>by simpa[bV] using lG.cell hu) jl (by simp only[List.length_cons,List.length_nil];omega) (by omega) ?_;intro ve we sD fT Cy;have rP:∀g,(Value.slice GH (aX c is i).ins.length inc).ownBlock=some g->g≠sb/\g≠w3.heap.size/\g≠w.heap.size/\g≠w1.heap.size/\g≠w5.heap.size/\g≠w6.heap.size:=λg hg=>by have:=Iq g hg;omega
    have eN:Kept (λj=>(Value.slice GH (aX c is i).ins.length inc).ownBlock=some j) wd we:=Kept.grown fT (λ_ h=>h);have lY:Kept (λj=>(Value.slice GH (aX c is i).ins.length inc).ownBlock=some j) wc we:=(Kept.new lG).trans eN (λ_ _ h=>h);have hSe:=hSc.kept lY (λh=>(rP _ h).1 rfl);have hTe:=hTc.kept lY (λh=>(rP _ h).2.1 rfl);have Zr:=Zq.kept lY (λh=>(rP _ h).2.2.1 rfl);have NY:=CL.kept lY (λh=>(rP _ h).2.2.2.1 rfl);have QB:=yJ.kept lY (λh=>(rP _ h).2.2.2.2.1 rfl);have VT:=Zx.kept lY (λh=>(rP _ h).2.2.2.2.2 rfl);have DA:=vz.aI lY (λg hg h=>qe vz vN (by decide) g hg h);have sg:Below w.heap.size w we:=mm.trans (lY.below (by omega) (λg h=>by have:=Iq g h;omega));have O1:=lY.size;have Ln:=sD.slice;obtain⟨ea,ec,rfl⟩:=Ln;push_cast -dsimp;refine aC QB (by simp) rfl ?_;intro wf jP;have szf:=jP.size;push_cast -dsimp;have uO:∀g,(Value.slice ea ((aX c is i).ins++[y]).length ec).ownBlock=some g->w7.heap.size<=g:=λg hg=>by
     rcases Cy g hg with h|h
     ·exact Iq g h
     omega
    refine⟨⟨by omega,by omega⟩,⟨i+1,G8,_,rfl,by omega,jP.aN,?_,?_,?_,hSe.kept jP.kept (by omega),hTe.kept jP.kept (by omega),Zr.kept jP.kept (by omega),NY.kept jP.kept (by omega),sg.trans (jP.kept.below (by omega) (λ_ h=>by omega)),by omega,sk,uO⟩,by rw[h76];simp only[intOf];omega⟩
    ·rw[ba];exact DA.aI jP.kept (λg hg h=>by have:=sk g hg;omega)
    ·rw[ba,hy];exact sD.aI jP.kept (λg hg h=>by have:=uO g hg;omega)
    rw[ba];exact VT.kept jP.kept (by omega)
   ·have hj:=iY hc hx h3;have Fh:x.a=((x.a.toNat:Nat):Int):=by rw[Int.toNat_of_nonneg hj.1]
    have t1:wb.cell? ⟨wx.heap.size,1,none⟩=some (.int .i64 x.a):=HD.cell rfl;have tt:wb.cell? ⟨w3.heap.size,x.a.toNat,none⟩=some (.int .i64 (fU c is x.a.toNat:Int)):=hTb.cell (by unfold rj;rw[List.getElem?_map,vH (by omega),if_pos (by omega)];rfl);push_cast -dsimp[t1,tt];refine⟨⟨by omega,by omega⟩,?_⟩;refine aC HD (by simp) rfl ?_;intro wc fz;have szc:=fz.size;have Cl:aM wc wx.heap.size 109 (bV (j3 c is (aX c is i).used x)):=by
     unfold j3;rw[if_neg h1,if_pos h3];exact fz.aN
    have FJ:pj (aX c is i).used x=(aX c is i).used:=by unfold pj;rw[if_neg h1]
    rw[FJ]at ba;have hk:=fz.kept;have hSc:=hSb.kept hk (by omega);have hTc:=hTb.kept hk (by omega);have Zq:=hCb.kept hk (by omega);have CL:=NX.kept hk (by omega);have yJ:=hOb.kept hk (by omega);have Zx:=Zw.kept hk (by omega);have vz:=uS.aI hk (λg hg h=>by have:=od.block g hg;omega);have vN:=jh.aI hk (λg hg h=>by have:=jD.block g hg;omega);have mm:Below w.heap.size w wc:=jK.trans (hk.below (by omega) (λ_ h=>by omega));have sk:=eZ;have Nc:∃G8,G8=ov:=⟨_,rfl⟩;obtain⟨G8,rfl⟩:=Nc;have QW:∃y,j3 c is (aX c is i).used x=y:=⟨_,rfl⟩;obtain⟨y,hy⟩:=QW;rw[hy]at Cl;have hlen:=(dm hc (is:=is) i hi).len;have aAx:=lK (c:=c) (is:=is) i;have ZR:wc.cell? ⟨w5.heap.size,1,none⟩=some iv':=yJ.cell rfl;have x33:aB wc ⟨wx.heap.size,0,none⟩ 0 3=some [.int .i64 y.op,.int .i64 y.a,.int .i64 y.b]:=Cl.aB;have Q7:=vN.slice;obtain⟨GH,inc,rfl⟩:=Q7;push_cast -dsimp[ZR,x33];refine cT gj rfl rfl (by omega) ?_;intro wd lG;have szd:=lG.size;push_cast -dsimp;refine aS (base:=w4.heap.size) [y] (enc:=bV) gj (vN.new lG) (by rfl) (λj u hu=>by simpa[bV] using lG.cell hu) jl (by simp only[List.length_cons,List.length_nil];omega) (by omega) ?_;intro ve we sD fT Cy;have rP:∀g,(Value.slice GH (aX c is i).ins.length inc).ownBlock=some g->g≠sb/\g≠w3.heap.size/\g≠w.heap.size/\g≠w1.heap.size/\g≠w5.heap.size/\g≠w6.heap.size:=λg hg=>by have:=Iq g hg;omega
    have eN:Kept (λj=>(Value.slice GH (aX c is i).ins.length inc).ownBlock=some j) wd we:=Kept.grown fT (λ_ h=>h);have lY:Kept (λj=>(Value.slice GH (aX c is i).ins.length inc).ownBlock=some j) wc we:=(Kept.new lG).trans eN (λ_ _ h=>h);have hSe:=hSc.kept lY (λh=>(rP _ h).1 rfl);have hTe:=hTc.kept lY (λh=>(rP _ h).2.1 rfl);have Zr:=Zq.kept lY (λh=>(rP _ h).2.2.1 rfl);have NY:=CL.kept lY (λh=>(rP _ h).2.2.2.1 rfl);have QB:=yJ.kept lY (λh=>(rP _ h).2.2.2.2.1 rfl);have VT:=Zx.kept lY (λh=>(rP _ h).2.2.2.2.2 rfl);have DA:=vz.aI lY (λg hg h=>qe vz vN (by decide) g hg h);have sg:Below w.heap.size w we:=mm.trans (lY.below (by omega) (λg h=>by have:=Iq g h;omega));have O1:=lY.size;have Ln:=sD.slice;obtain⟨ea,ec,rfl⟩:=Ln;push_cast -dsimp;refine aC QB (by simp) rfl ?_;intro wf jP;have szf:=jP.size;push_cast -dsimp;have uO:∀g,(Value.slice ea ((aX c is i).ins++[y]).length ec).ownBlock=some g->w7.heap.size<=g:=λg hg=>by
     rcases Cy g hg with h|h
     ·exact Iq g h
     omega
    refine⟨⟨by omega,by omega⟩,⟨i+1,G8,_,rfl,by omega,jP.aN,?_,?_,?_,hSe.kept jP.kept (by omega),hTe.kept jP.kept (by omega),Zr.kept jP.kept (by omega),NY.kept jP.kept (by omega),sg.trans (jP.kept.below (by omega) (λ_ h=>by omega)),by omega,sk,uO⟩,by rw[h76];simp only[intOf];omega⟩
    ·rw[ba];exact DA.aI jP.kept (λg hg h=>by have:=sk g hg;omega)
    ·rw[ba,hy];exact sD.aI jP.kept (λg hg h=>by have:=uO g hg;omega)
    rw[ba];exact VT.kept jP.kept (by omega)
   ·have hj:=mS hc hx h2;have Fh:x.a=((x.a.toNat:Nat):Int):=by rw[Int.toNat_of_nonneg hj.1]
    have QK:x.b=((x.b.toNat:Nat):Int):=by rw[Int.toNat_of_nonneg hj.2.2.1]
    have hTd:aM wb.drew w3.heap.size 3 (rj (O6 c is (c.ins.length+1))):=hTb.drew;refine Y8 [(0,false),(1,false),(2,false),(3,false),(4,false),(5,true),(6,false),(7,false),(8,true),(9,true),(10,false)] 11 [12,13] (λw'=>w'=wb.drew) (λw'=>aM w' w3.heap.size 3 (rj (O6 c is (c.ins.length+1)))) mixed (by kernel_rfl) (λw' h=>by rw[h];exact hTd) rfl ?_;have t1:wb.drew.cell? ⟨wx.heap.size,1,none⟩=some (.int .i64 x.a):=HD.drew.cell rfl;have t2:wb.drew.cell? ⟨wx.heap.size,2,none⟩=some (.int .i64 x.b):=HD.drew.cell rfl;have gt:∀(n:Nat),n<c.ins.length->(rj (O6 c is (c.ins.length+1)))[n]?=some (.int .i64 (fU c is n:Int)):=λn hn=>by unfold rj;rw[List.getElem?_map,vH (by omega),if_pos (by omega)];rfl
    have ta:wb.drew.cell? ⟨w3.heap.size,x.a.toNat,none⟩=some (.int .i64 (fU c is x.a.toNat:Int)):=hTd.cell (gt _ (by omega));have tb:wb.drew.cell? ⟨w3.heap.size,x.b.toNat,none⟩=some (.int .i64 (fU c is x.b.toNat:Int)):=hTd.cell (gt _ (by omega));push_cast -dsimp[t1,t2,ta,tb];refine⟨λbU hC=>by rw[hC];exact gV HD.drew rfl,⟨by omega,by omega⟩,λbU hC=>by rw[hC];exact gV hTd (gt _ (by omega)),λbU hC=>by rw[hC];exact gV HD.drew rfl,⟨by omega,by omega⟩,λbU hC=>gV hC (gt _ (by omega)),?_⟩;refine aC HD.drew (by simp) rfl ?_;intro wc1 aAI;have aOS:wc1.heap.size=wb.heap.size:=aAI.size;have aIq:=hTd.kept aAI.kept (by omega);refine⟨aIq,?_⟩;push_cast -dsimp;refine aC aAI.aN (by simp) rfl ?_;intro wc fz;have szc:wc.heap.size=wb.heap.size:=fz.size.trans aOS;refine⟨aIq.kept fz.kept (by omega),?_⟩;have Cl:aM wc wx.heap.size 109 (bV (j3 c is (aX c is i).used x)):=by
     unfold j3;rw[if_neg h1,if_neg h3,if_pos h2];exact fz.aN
    have FJ:pj (aX c is i).used x=(aX c is i).used:=by unfold pj;rw[if_neg h1]
    rw[FJ]at ba;have hk:Kept (λj=>j=wx.heap.size) wb wc:=(((Kept.refl (λj=>j=wx.heap.size) wb).drew).trans aAI.kept (λ_ _ h=>h)).trans fz.kept (λ_ _ h=>h);have hSc:=hSb.kept hk (by omega);have hTc:=hTb.kept hk (by omega);have Zq:=hCb.kept hk (by omega);have CL:=NX.kept hk (by omega);have yJ:=hOb.kept hk (by omega);have Zx:=Zw.kept hk (by omega);have vz:=uS.aI hk (λg hg h=>by have:=od.block g hg;omega);have vN:=jh.aI hk (λg hg h=>by have:=jD.block g hg;omega);have mm:Below w.heap.size w wc:=jK.trans (hk.below (by omega) (λ_ h=>by omega));have sk:=eZ;have Nc:∃G8,G8=ov:=⟨_,rfl⟩;obtain⟨G8,rfl⟩:=Nc;have QW:∃y,j3 c is (aX c is i).used x=y:=⟨_,rfl⟩;obtain⟨y,hy⟩:=QW;rw[hy]at Cl;have hlen:=(dm hc (is:=is) i hi).len;have aAx:=lK (c:=c) (is:=is) i;have ZR:wc.cell? ⟨w5.heap.size,1,none⟩=some iv':=yJ.cell rfl;have x33:aB wc ⟨wx.heap.size,0,none⟩ 0 3=some [.int .i64 y.op,.int .i64 y.a,.int .i64 y.b]:=Cl.aB;have Q7:=vN.slice;obtain⟨GH,inc,rfl⟩:=Q7;push_cast -dsimp[ZR,x33];refine cT gj rfl rfl (by omega) ?_;intro wd lG;have szd:=lG.size;push_cast -dsimp;refine aS (base:=w4.heap.size) [y] (enc:=bV) gj (vN.new lG) (by rfl) (λj u hu=>by simpa[bV] using lG.cell hu) jl (by simp only[List.length_cons,List.length_nil];omega) (by omega) ?_;intro ve we sD fT Cy;have rP:∀g,(Value.slice GH (aX c is i).ins.length inc).ownBlock=some g->g≠sb/\g≠w3.heap.size/\g≠w.heap.size/\g≠w1.heap.size/\g≠w5.heap.size/\g≠w6.heap.size:=λg hg=>by have:=Iq g hg;omega
    have eN:Kept (λj=>(Value.slice GH (aX c is i).ins.length inc).ownBlock=some j) wd we:=Kept.grown fT (λ_ h=>h);have lY:Kept (λj=>(Value.slice GH (aX c is i).ins.length inc).ownBlock=some j) wc we:=(Kept.new lG).trans eN (λ_ _ h=>h);have hSe:=hSc.kept lY (λh=>(rP _ h).1 rfl);have hTe:=hTc.kept lY (λh=>(rP _ h).2.1 rfl);have Zr:=Zq.kept lY (λh=>(rP _ h).2.2.1 rfl);have NY:=CL.kept lY (λh=>(rP _ h).2.2.2.1 rfl);have QB:=yJ.kept lY (λh=>(rP _ h).2.2.2.2.1 rfl);have VT:=Zx.kept lY (λh=>(rP _ h).2.2.2.2.2 rfl);have DA:=vz.aI lY (λg hg h=>qe vz vN (by decide) g hg h);have sg:Below w.heap.size w we:=mm.trans (lY.below (by omega) (λg h=>by have:=Iq g h;omega));have O1:=lY.size;have Ln:=sD.slice;obtain⟨ea,ec,rfl⟩:=Ln;push_cast -dsimp;refine aC QB (by simp) rfl ?_;intro wf jP;have szf:=jP.size;push_cast -dsimp;have uO:∀g,(Value.slice ea ((aX c is i).ins++[y]).length ec).ownBlock=some g->w7.heap.size<=g:=λg hg=>by
     rcases Cy g hg with h|h
     ·exact Iq g h
     omega
    refine⟨⟨by omega,by omega⟩,⟨i+1,G8,_,rfl,by omega,jP.aN,?_,?_,?_,hSe.kept jP.kept (by omega),hTe.kept jP.kept (by omega),Zr.kept jP.kept (by omega),NY.kept jP.kept (by omega),sg.trans (jP.kept.below (by omega) (λ_ h=>by omega)),by omega,sk,uO⟩,by rw[h76];simp only[intOf];omega⟩
    ·rw[ba];exact DA.aI jP.kept (λg hg h=>by have:=sk g hg;omega)
    ·rw[ba,hy];exact sD.aI jP.kept (λg hg h=>by have:=uO g hg;omega)
    rw[ba];exact VT.kept jP.kept (by omega)
   have FJ:pj (aX c is i).used x=(aX c is i).used:=by unfold pj;rw[if_neg h1]
   rw[FJ]at ba;have fz:∃wc,wc=wb:=⟨_,rfl⟩;obtain⟨wc,rfl⟩:=fz;have szc:wc.heap.size=wc.heap.size:=rfl;have Cl:aM wc wx.heap.size 109 (bV (j3 c is (aX c is i).used x)):=by
    unfold j3;rw[if_neg h1,if_neg h3,if_neg h2];exact HD
   have hk:Kept (λj=>j=wx.heap.size) wc wc:=Kept.refl _ _;have hSc:=hSb.kept hk (by omega);have hTc:=hTb.kept hk (by omega);have Zq:=hCb.kept hk (by omega);have CL:=NX.kept hk (by omega);have yJ:=hOb.kept hk (by omega);have Zx:=Zw.kept hk (by omega);have vz:=uS.aI hk (λg hg h=>by have:=od.block g hg;omega);have vN:=jh.aI hk (λg hg h=>by have:=jD.block g hg;omega);have mm:Below w.heap.size w wc:=jK.trans (hk.below (by omega) (λ_ h=>by omega));have sk:=eZ;have Nc:∃G8,G8=ov:=⟨_,rfl⟩;obtain⟨G8,rfl⟩:=Nc;have QW:∃y,j3 c is (aX c is i).used x=y:=⟨_,rfl⟩;obtain⟨y,hy⟩:=QW;rw[hy]at Cl;have hlen:=(dm hc (is:=is) i hi).len;have aAx:=lK (c:=c) (is:=is) i;have ZR:wc.cell? ⟨w5.heap.size,1,none⟩=some iv':=yJ.cell rfl;have x33:aB wc ⟨wx.heap.size,0,none⟩ 0 3=some [.int .i64 y.op,.int .i64 y.a,.int .i64 y.b]:=Cl.aB;have Q7:=vN.slice;obtain⟨GH,inc,rfl⟩:=Q7;push_cast -dsimp[ZR,x33];refine cT gj rfl rfl (by omega) ?_;intro wd lG;have szd:=lG.size;push_cast -dsimp;refine aS (base:=w4.heap.size) [y] (enc:=bV) gj (vN.new lG) (by rfl) (λj u hu=>by simpa[bV] using lG.cell hu) jl (by simp only[List.length_cons,List.length_nil];omega) (by omega) ?_;intro ve we sD fT Cy;have rP:∀g,(Value.slice GH (aX c is i).ins.length inc).ownBlock=some g->g≠sb/\g≠w3.heap.size/\g≠w.heap.size/\g≠w1.heap.size/\g≠w5.heap.size/\g≠w6.heap.size:=λg hg=>by have:=Iq g hg;omega
   have eN:Kept (λj=>(Value.slice GH (aX c is i).ins.length inc).ownBlock=some j) wd we:=Kept.grown fT (λ_ h=>h);have lY:Kept (λj=>(Value.slice GH (aX c is i).ins.length inc).ownBlock=some j) wc we:=(Kept.new lG).trans eN (λ_ _ h=>h);have hSe:=hSc.kept lY (λh=>(rP _ h).1 rfl);have hTe:=hTc.kept lY (λh=>(rP _ h).2.1 rfl);have Zr:=Zq.kept lY (λh=>(rP _ h).2.2.1 rfl);have NY:=CL.kept lY (λh=>(rP _ h).2.2.2.1 rfl);have QB:=yJ.kept lY (λh=>(rP _ h).2.2.2.2.1 rfl);have VT:=Zx.kept lY (λh=>(rP _ h).2.2.2.2.2 rfl);have DA:=vz.aI lY (λg hg h=>qe vz vN (by decide) g hg h);have sg:Below w.heap.size w we:=mm.trans (lY.below (by omega) (λg h=>by have:=Iq g h;omega));have O1:=lY.size;have Ln:=sD.slice;obtain⟨ea,ec,rfl⟩:=Ln;push_cast -dsimp;refine aC QB (by simp) rfl ?_;intro wf jP;have szf:=jP.size;push_cast -dsimp;have uO:∀g,(Value.slice ea ((aX c is i).ins++[y]).length ec).ownBlock=some g->w7.heap.size<=g:=λg hg=>by
    rcases Cy g hg with h|h
    ·exact Iq g h
    omega
   refine⟨⟨by omega,by omega⟩,⟨i+1,G8,_,rfl,by omega,jP.aN,?_,?_,?_,hSe.kept jP.kept (by omega),hTe.kept jP.kept (by omega),Zr.kept jP.kept (by omega),NY.kept jP.kept (by omega),sg.trans (jP.kept.below (by omega) (λ_ h=>by omega)),by omega,sk,uO⟩,by rw[h76];simp only[intOf];omega⟩
   ·rw[ba];exact DA.aI jP.kept (λg hg h=>by have:=sk g hg;omega)
   ·rw[ba,hy];exact sD.aI jP.kept (λg hg h=>by have:=uO g hg;omega)
   rw[ba];exact VT.kept jP.kept (by omega)
 have nH:i=c.ins.length:=by omega
 subst nH;have q3:=QC.aB;simp only[List.length_cons,List.length_nil,Nat.zero_add,Nat.reduceAdd]at q3;have qS:=od.slice;obtain⟨oa,oc,rfl⟩:=qS;have qS:=jD.slice;obtain⟨na,nc,rfl⟩:=qS;push_cast -dsimp[q3];refine aJ (n:=2) (by kernel_rfl) yj rfl (by simp) (by simp[Value.oneCell']) ?_;intro w8 sE;have sz8:=sE.size;have q5:aB w8 ⟨w1.heap.size,0,none⟩ 0 2=some _:=sE.aN.aB;have jg:Below w.heap.size w w8:=bT.trans (sE.kept.below (by omega) (λ_ h=>by omega));have aE3:=od.aI sE.kept (λg hg h=>by have:=od.block g hg;omega);have aEY:=jD.aI sE.kept (λg hg h=>by have:=jD.block g hg;omega);push_cast -dsimp[q5];refine⟨⟨is,_,_,rfl,hCl,?_,aEY.mono (by omega)⟩,jg⟩;refine dy.rT (us:=(aX c is c.ins.length).used.map λa=>us.getD a ⟨none,0,0⟩) (by unfold bX Wi;simp) (aE3.aKb.weaken λb h=>?_) ?_
 ·rcases h with h|h
  ·intro hh
   have:=aE3.block b hh
   have:=hX b h;omega
  exact λhh=>qe aEY aE3 (by decide) b h hh
 intro j u s hu hs;have hI:=dm hc (is:=is) c.ins.length (Nat.le_refl _);unfold bX Wi at hs;rw[List.getElem?_map]at hu hs;cases hj:(aX c is c.ins.length).used[j]? with
 | none=>rw[hj]at hu;cases hu
 | some d =>
  rw[hj]at hu hs;have hd:=hI.used d (List.mem_of_getElem? hj);have e1:=List.getElem?_eq_getElem (l:=us) (i:=d) (by omega);have e2:=List.getElem?_eq_getElem (l:=c.sets) (i:=d) (by omega);simp only[Option.map_some,Option.some.injEq,List.getD_eq_getElem?_getD,e1,e2,Option.getD_some]at hu hs;subst hu hs;refine Sl.below (w:=w) ((aFd d _ _ e1 e2).fresh (λ_=>by simp[bL]) (λb h=>?_)) jg;rcases h with h|h
  ·exact .inl h
  have:=aEY.block b h;omega
end Go.Proofs.YtledlfbbebodgaaGreatDoor
end
section
namespace Go.Proofs.YtledlfbbebodgaaGreatDoor
open Go.Vc Go.Proofs Go.RowKit Cae
structure fV (c d:aD):Prop where
 cr:CR d
 len:d.ins.length<=c.ins.length
 lens:jx d
 acc:∀ps,Acc d 0 ps↔Acc c 0 ps
theorem fV.refl {c:aD}(hc:CR c)(hl:jx c):fV c c:=⟨hc,Nat.le_refl _,hl,λ_=>Iff.rfl⟩
theorem fV.vm {c d:aD}(h:fV c d)(hc:CR c)(ps:List Int):(eo d ps).1=(eo c ps).1:=by
 rw[Bool.eq_iff_iff,mi h.cr,mi hc];exact h.acc ps
def tF:aD:=⟨[[]],[⟨1,0,0⟩,⟨5,0,0⟩]⟩
theorem JZ:ab tF=true:=by decide
theorem RR (ps:List Int):¬Acc tF 0 ps:=by
 rw[gi (c:=tF) (k:=0) (x:=⟨1,0,0⟩) rfl (by decide)];rintro⟨p,r,_,h,_⟩;exact absurd h (by simp[tF,fK])
theorem mC {c:aD}(eZ:∀x∈c.ins,x.op≠5):∀(h k:Nat) (ps:List Int),¬dI c h k ps
 | 0,k,ps=>λh=>h
 | h+1,k,ps=>by
  intro hh;rw[dI]at hh;cases hx:c.ins[k]? with
  | none=>rw[hx]at hh;exact hh
  | some x =>
   rw[hx]at hh;dsimp only at hh;rw[if_neg (eZ x (List.mem_of_getElem? hx))]at hh;by_cases h2:x.op=2
   ·rw[if_pos h2]at hh;rcases hh with hh|hh
    ·exact mC eZ h _ _ hh
    exact mC eZ h _ _ hh
   rw[if_neg h2]at hh;by_cases h3:x.op=3
   ·rw[if_pos h3]at hh;exact mC eZ h _ _ hh
   rw[if_neg h3]at hh;by_cases h4:x.op=4
   ·rw[if_pos h4]at hh;exact mC eZ h _ _ hh.2
   rw[if_neg h4]at hh;cases ps with
   | nil=>exact hh
   | cons p r=>exact mC eZ h _ _ hh.2
theorem fV.never {c d:aD}(h:fV c d)(eZ:(d.ins.any λx=>decide (x.op=5))=false)(h2:2<=c.ins.length):fV c tF:=by
 have aEW:∀x∈d.ins,x.op≠5:=λx hx e=>by
  rw[List.any_eq_false]at eZ;exact eZ x hx (decide_eq_true e)
 refine⟨CR.of JZ,h2,λs hs=>?_,λps=>⟨λhh=>absurd hh (RR ps),λhh=>?_⟩⟩
 ·have:s=[]:=by simpa[tF] using hs
  subst this;exact Nat.zero_lt_succ _
 obtain⟨n,hn⟩:=(h.acc ps).2 hh;exact absurd hn (mC aEW n 0 ps)
theorem fV.aGc {c d:aD}(h:fV c d):fV c (oX d):=by
 have ht:=ns h.cr d.ins.length;obtain⟨h1,h2,h3,h4,_⟩:=ht;refine⟨h1,by show (ah d d.ins.length).ins.length<=_;rw[h3];exact h.len,λs hs=>h.lens s (by have:s∈(ah d d.ins.length).sets:=hs;rwa [h2]at this),λps=>(h4 0 ps).trans (h.acc ps)⟩
theorem fV.Wj {c d:aD}(h:fV c d){is:List Bool}(hC:sO d is) :
  (ab (bX d is)=true->fV c (bX d is))/\(ab (bX d is)=false->fV c ⟨(bX d is).sets,(bX d is).ins++[DV]⟩)/\(bX d is).ins.length<=2000/\(bX d is).sets.length<=2000/\jx (bX d is):=by
 have hr:=JH h.cr hC;obtain⟨h1,h2,h3,h4⟩:=hr;have hm:=h.cr.many;have hs:=h.cr.sets;have hlen:=h.len;have hl:jx (bX d is):=λs hs=>by
  obtain⟨a,ha,rfl⟩:=List.mem_map.1 (show s∈(aX d is d.ins.length).used.map (λa=>d.sets.getD a []) from hs)
  have aw:=(dm h.cr (is:=is) d.ins.length (Nat.le_refl _)).used a ha;rw[List.getD_eq_getElem?_getD,List.getElem?_eq_getElem aw];exact h.lens _ (List.getElem_mem aw)
 refine⟨λhR=>⟨CR.of hR,by omega,hl,λps=>?_⟩,λhR=>?_,by omega,by omega,hl⟩
 ·have:=Dq h.cr hC [] 0 hC.zero ps;rw[List.append_nil]at this;exact this.symm.trans (h.acc ps)
 rcases h4 with h4|⟨_,h5,h6⟩
 ·rw[hR]at h4;cases h4
 refine⟨h6,by simp only[List.length_append,List.length_cons,List.length_nil];omega,hl,λps=>?_⟩;exact(Dq h.cr hC [DV] 0 hC.zero ps).symm.trans (h.acc ps)
theorem fV.one {c d:aD}(h:fV c d)(hc:c.ins.length=1)(hy:Acc c 0 []):d.ins=[⟨5,0,0⟩]:=by
 have h1:=h.cr.one;have h2:=h.len;match hd:d.ins with
 | []=>rw[hd]at h1;simp at h1
 | [x] =>
  have hx:d.ins[0]?=some x:=by rw[hd];rfl
  have hlen:d.ins.length=1:=by rw[hd];rfl
  have nH:=dL (h.cr.ins 0 x hx);have I1:=(h.acc []).2 hy;obtain⟨n,hn⟩:=I1;have jD:=h.cr.next 0 x hx;by_cases h5:x.op=5
  ·rcases nH with ⟨e,_⟩|⟨e,_⟩|⟨e,_⟩|⟨e,g1,g2⟩
   ·omega
   ·omega
   ·omega
   obtain⟨o,a,b⟩:=x;simp only at h5 g1 g2;subst h5 g1 g2;rfl
  exact absurd hn (mC (λy hy=>by rw[hd]at hy;simp at hy;subst hy;exact h5) n 0 [])
 | x::y::l=>rw[hd]at h2;simp at h2;omega
end Go.Proofs.YtledlfbbebodgaaGreatDoor
end
section
namespace Go.Proofs.YtledlfbbebodgaaGreatDoor
open Go.Vc Go.Proofs Go.RowKit Cae
attribute [local irreducible] dd ae ak a7 runK bE Sl Vc.Own vc aU cJ a8
def rG (c:aD):Prop:=jx c/\c.ins.length<1000000000/\c.sets.length<1000000000
def td (p:dX):Prop:=p.rules.length<1000000000/\∀r∈p.rules,rG r.before/\rG r.after
def fF (X:Nat->Prop)(w:World):List Value->bg->Prop:=λcs r=>∃s1 i1 s2 i2,cs=[.bool r.brk,s1,i1,s2,i2]/\cW X w (.agg #[s1,i1]) r.before/\cW X w (.agg #[s2,i2]) r.after
def nz (X:Nat->Prop)(w:World)(v:Value)(p:dX):Prop:=∃rv,v=.agg #[rv,.bool p.els]/\Sl X 5 (fF X w) w rv p.rules
theorem fF.mono {X X':Nat->Prop}{w w':World}{cs:List Value}{r:bg}(h:fF X w cs r)(hs:∀b,¬X b->b<w.heap.size->w'.heap[b]?=w.heap[b]?)(hX:∀b,X' b->X b):fF X' w' cs r:=by
 obtain⟨s1,i1,s2,i2,rfl,h1,h2⟩:=h;exact⟨s1,i1,s2,i2,rfl,h1.mono hs hX,h2.mono hs hX⟩
theorem og.mono {X X':Nat->Prop}{w w':World}{v:Value}{l:List bg}(h:Sl X 5 (fF X w) w v l)(hs:∀b,¬X b->b<w.heap.size->w'.heap[b]?=w.heap[b]?)(hX:∀b,X' b->X b):Sl X' 5 (fF X' w') w' v l :=
 Sl.mono h hs (λ_ _ _ h=>h.mono hs hX) hX
theorem nz.mono {X X':Nat->Prop}{w w':World}{v:Value}{p:dX}(h:nz X w v p)(hs:∀b,¬X b->b<w.heap.size->w'.heap[b]?=w.heap[b]?)(hX:∀b,X' b->X b):nz X' w' v p:=by
 obtain⟨rv,rfl,h⟩:=h;exact⟨rv,rfl,og.mono h hs hX⟩
theorem og.below {X:Nat->Prop}{w w':World}{v:Value}{l:List bg}(h:Sl X 5 (fF X w) w v l)(hb:Below w.heap.size w w'):Sl X 5 (fF X w') w' v l:=og.mono h (λb _ aw=>hb.block b aw) (λ_ h=>h)
theorem fF.below {X:Nat->Prop}{w w':World}{cs:List Value}{r:bg}(h:fF X w cs r)(hb:Below w.heap.size w w'):fF X w' cs r:=h.mono (λb _ aw=>hb.block b aw) (λ_ h=>h)
theorem nz.below {X:Nat->Prop}{w w':World}{v:Value}{p:dX}(h:nz X w v p)(hb:Below w.heap.size w w'):nz X w' v p:=h.mono (λb _ aw=>hb.block b aw) (λ_ h=>h)
theorem Sl.narrow {α:Type}{X X':Nat->Prop}{k:Nat}{R R':List Value->α->Prop}{w:World}{v:Value}{l:List α}(h:Sl X k R w v l)(hk:0<k)(hR:∀cs x,R cs x->R' cs x)(hX:∀b,b<w.heap.size->X' b->X b):Sl X' k R' w v l:=by
 unfold Sl at h ⊢
 obtain⟨a,c,he,hc,h⟩:=h;refine⟨a,c,he,hc,λi x hx=>?_⟩;obtain⟨b,o,cs,ha,hb,iW,aK,hr⟩:=h i x hx;have h0:=aK 0 cs[0] (List.getElem?_eq_getElem (by omega));exact⟨b,o,cs,ha,λhh=>hb (hX b (World.block_lt_of_cell? w _ h0) hh),iW,aK,hR _ _ hr⟩
theorem cW.narrow {X X':Nat->Prop}{w:World}{v:Value}{c:aD}(h:cW X w v c)(hX:∀b,b<w.heap.size->X' b->X b):cW X' w v c:=by
 obtain⟨sv,iv,rfl,h1,h2⟩:=h;refine⟨sv,iv,rfl,Sl.narrow h1 (by omega) (λcs x hx=>?_) hX,Sl.narrow h2 (by omega) (λ_ _ h=>h) hX⟩;obtain⟨u,rfl,hu⟩:=hx;exact⟨u,rfl,Sl.narrow hu (by omega) (λ_ _ h=>h) hX⟩
theorem fF.narrow {X X':Nat->Prop}{w:World}{cs:List Value}{r:bg}(h:fF X w cs r)(hX:∀b,b<w.heap.size->X' b->X b):fF X' w cs r:=by
 obtain⟨s1,i1,s2,i2,rfl,h1,h2⟩:=h;exact⟨s1,i1,s2,i2,rfl,h1.narrow hX,h2.narrow hX⟩
theorem rH {w:World}{b n:Nat}{e:TypeId}{cs xs:List Value}(h:aM w b e cs)(o:Nat)(hx:(cs.drop o).take n=xs)(hn:xs.length=n):aB w ⟨b,o,none⟩ 0 n=some xs:=by
 subst hn;refine ax xs 0 λj u hu=>?_;rw[Nat.zero_add];refine h.cell ?_;rw[<-hx]at hu
 have:=(List.getElem?_eq_some_iff.1 hu).1;rw[List.length_take]at this;rw[List.getElem?_take_of_lt (by omega),List.getElem?_drop]at hu;exact hu
theorem Ga {α:Type}(R:List Value->α->Prop)(g:FuncId)(cap:List Value)(f:α->Bool)(l:List α)(hl:l.length<1000000000)(X:Nat->Prop)(v:Value)(w:World)(hv:Sl X 5 R w v l)
  (hf:∀x∈l,∀cs,R cs x->cs.length=5->∀w',Below w.heap.size w w'->bE Tryz.prog g (elV cs::cap) w' λr bU=>r=.bool (f x)/\Below w'.heap.size w' bU) :
  bE Tryz.prog 104 [v,.func (.func g) #[] cap.toArray] w λr w'=>(∃n:Int,r=.int .i64 n/\(0<=n↔l.any f=true))/\Below w.heap.size w w':=by
 obtain⟨a,c,rfl,hc⟩:=hv.shape;refine aE Tryz.func104 rfl (by kernel_rfl) [4] rfl ?_;push_cast -dsimp(maxSteps:=4000000) [Tryz.ntmps104];refine aL [4,5,8,9,10,11,12,13,14,15,16,17,18] (λz wx=>∃(i:Nat),z 8=.int .i64 i/\i<=l.length/\(∀x∈l.take i,f x=false)/\Below w.heap.size w wx) (λz _=>l.length-(intOf (z 8)).toNat) ?_ ?_
 ·exact⟨0,rfl,Nat.zero_le _,by simp,Below.refl _ _⟩
 intro z wx hI;obtain⟨i,h8,hi,bJ,hb⟩:=hI;push_cast -dsimp[h8];refine⟨λaw=>?_,λfT=>?_⟩
 ·obtain⟨x,hx,jQ,hd,ht⟩:=au (l:=l) (i:=i) (by omega);obtain⟨b,o,cs,ha,hX,hk,aK,hR⟩:=(hv.below hb).AQ hx;subst ha;obtain⟨u0,u1,u2,u3,u4,rfl⟩:∃u0 u1 u2 u3 u4,cs=[u0,u1,u2,u3,u4]:=(match cs,hk with|[u0,u1,u2,u3,u4],_=>⟨u0,u1,u2,u3,u4,rfl⟩);have c0:aB wx ⟨b,o+i*5,none⟩ 0 5=some [u0,u1,u2,u3,u4]:=(ax [u0,u1,u2,u3,u4] 0 (λj u hu=>by simpa using aK j u hu));push_cast -dsimp[c0]
  refine⟨⟨by omega,by omega⟩,?_⟩;refine aA (hf x jQ _ hR rfl wx hb) ?_;rintro _ w1 ⟨rfl,gX⟩;have nF:=hb.trans (gX.mono hb.size);push_cast -dsimp[Ez];refine⟨λyR=>?_,λeZ=>?_⟩
  ·exact⟨⟨i,rfl,⟨λ_=>List.any_eq_true.2 ⟨x,jQ,yR⟩,λ_=>by omega⟩⟩,nF⟩
  refine⟨⟨by omega,by omega⟩,⟨i+1,rfl,by omega,?_,nF⟩,by rw[h8];simp only[intOf];omega⟩;intro y hy;rw[ht,List.mem_append,List.mem_singleton]at hy;rcases hy with hy|rfl
  ·exact bJ y hy
  exact eZ
 refine⟨⟨-1,rfl,?_⟩,hb⟩;rw[List.take_of_length_le (by omega)]at bJ;constructor
 ·intro h;omega
 intro h;obtain⟨x,hx,hn⟩:=List.any_eq_true.1 h;rw[bJ x hx]at hn;cases hn
theorem yU {α:Type}(R:List Value->α->Prop)(g:FuncId)(cap:List Value)(f:α->Bool)(l:List α)(hl:l.length<1000000000)(X:Nat->Prop)(v:Value)(w:World)(hv:Sl X 5 R w v l)
  (hf:∀x∈l,∀cs,R cs x->cs.length=5->∀w',Below w.heap.size w w'->bE Tryz.prog g (elV cs::cap) w' λr bU=>r=.bool (f x)/\Below w'.heap.size w' bU) :
  bE Tryz.prog 61 [v,.func (.func g) #[] cap.toArray] w λr w'=>r=.bool (l.any f)/\Below w.heap.size w w':=by
 refine aE Tryz.func61 rfl (by kernel_rfl) [4] rfl ?_;push_cast -dsimp(maxSteps:=4000000) [Tryz.ntmps61];refine aA (Ga R g cap f l hl X v w hv hf) ?_;rintro r w1 ⟨⟨n,rfl,hn⟩,hb⟩;push_cast -dsimp;refine⟨?_,hb⟩;congr 1;cases h:l.any f with
 | true=>rw[h]at hn;exact decide_eq_true (hn.2 rfl)
 | false=>rw[h]at hn;exact decide_eq_false (λh0=>by have:=hn.1 h0;cases this)
theorem Jl (r:bg)(hl:rG r.before/\rG r.after)(X:Nat->Prop)(w:World)(cs:List Value)(hv:fF X w cs r) :
  bE Tryz.prog 62 [elV cs] w λu w'=>u=.bool (!(ab r.before && ab r.after))/\Below w.heap.size w w':=by
 obtain⟨s1,i1,s2,i2,rfl,h1,h2⟩:=hv
 show bE _ _ [.agg #[.bool r.brk,s1,i1,s2,i2]] _ _
 refine aE Tryz.func62 rfl (by kernel_rfl) [2] rfl ?_;push_cast -dsimp(maxSteps:=4000000) [Tryz.ntmps62];refine aR ?_;intro w1 aZ;have iW:dJ (.agg #[.bool r.brk,s1,i1,s2,i2])=[.bool r.brk,s1,i1,s2,i2]:=rfl;rw[iW]at aZ;have d1:aB w1 ⟨w.heap.size,1,none⟩ 0 2=some [s1,i1]:=rH (n:=2) (xs:=[s1,i1]) aZ.aN 1 rfl rfl;push_cast -dsimp[d1];refine aA (mr r.before hl.1.1 hl.1.2.1 hl.1.2.2 X _ w1 (h1.below aZ.below)) ?_;rintro _ w2 ⟨rfl,eR⟩;have sM:=aZ.size;have iL:=aZ.below.trans (eR.mono (by omega));have d2:aB w2 ⟨w.heap.size,3,none⟩ 0 2=some [s2,i2]:=rH (n:=2) (xs:=[s2,i2]) (aZ.aN.below eR (by omega)) 3 rfl rfl;cases hr:ab r.before with
 | false =>
  push_cast -dsimp;exact⟨by simp,iL⟩
 | true =>
  push_cast -dsimp[d2];refine aA (mr r.after hl.2.1 hl.2.2.1 hl.2.2.2 X _ w2 (h2.below iL)) ?_;rintro _ w3 ⟨rfl,fL⟩;push_cast -dsimp;exact iL.trans (fL.mono iL.size)
theorem qm (p:dX)(hl:td p)(X:Nat->Prop)(v:Value)(w:World)(hv:nz X w v p) :
  bE Tryz.prog 33 [v] w λu w'=>u=.bool (eG p)/\Below w.heap.size w w':=by
 obtain⟨rv,rfl,hr⟩:=hv;obtain⟨a,c,rfl,hc⟩:=hr.shape;refine aE Tryz.func33 rfl (by kernel_rfl) [2] rfl ?_;push_cast -dsimp(maxSteps:=4000000) [Tryz.ntmps33];refine aR ?_;intro w1 aZ;have d0:w1.cell? ⟨w.heap.size,0,none⟩=some (.slice a p.rules.length c):=aZ.cell rfl;push_cast -dsimp[d0];refine⟨λh1=>?_,λh1=>⟨by congr 1;unfold eG;rw[decide_eq_false (by omega)];rfl,aZ.below⟩⟩;refine aA (yU (fF X w1) 62 [] (λr=>!(ab r.before && ab r.after)) p.rules (by omega) X _ w1 (og.below hr aZ.below) ?_) ?_
 ·intro r hrm cs hR _ w' CO;exact Jl r (hl.2 r hrm) X w' cs (hR.below CO)
 rintro _ w2 ⟨rfl,eR⟩;push_cast -dsimp;refine⟨?_,aZ.below.trans (eR.mono aZ.below.size)⟩;rw[Ec];congr 1;unfold eG;rw[decide_eq_true (by omega),Bool.true_and]
end Go.Proofs.YtledlfbbebodgaaGreatDoor
end
section
namespace Go.Proofs.YtledlfbbebodgaaGreatDoor
open Go.Vc Go.Proofs Go.RowKit Cae
attribute [local irreducible] dd ae ak a7 runK bE Sl Vc.Own vc aU cJ a8
attribute [local irreducible] oX bX
theorem On (x:I3)(w:World):bE Tryz.prog 107 [.agg #[.int .i64 x.op,.int .i64 x.a,.int .i64 x.b]] w λr w'=>r=.bool (decide (x.op=5))/\Below w.heap.size w w':=by
 refine aE Tryz.func107 rfl (by kernel_rfl) [2] rfl ?_;push_cast -dsimp(maxSteps:=4000000) [Tryz.ntmps107];refine aR ?_;intro w1 aZ;have c0:w1.cell? ⟨w.heap.size,0,none⟩=some (.int .i64 x.op):=aZ.cell rfl;push_cast -dsimp[c0];exact aZ.below
def kI (w:World):Prop:=∃a cp,w.cell? ⟨2,1,none⟩=some (.slice a 2 cp)/\Sl (λ_=>False) 3 (En bV) w (.slice a 2 cp) [⟨1,0,0⟩,⟨5,0,0⟩]
theorem kI.below {w w':World}(h:kI w)(hb:Below w.heap.size w w'):kI w':=by
 obtain⟨a,cp,h1,h2⟩:=h;exact⟨a,cp,(Kept.aO hb (X:=λ_=>False) (λk hk hl=>by omega)).cell h1 id,h2.below hb⟩
def HR (X:Nat->Prop)(c:aD)(r:Value)(w':World):Prop :=
 if ab c=true then ∃d v,r=.tuple #[v,.nilIface]/\fV c d/\cW X w' v d else r=.tuple #[.agg #[.slice none 0 0,.slice none 0 0],.iface 83 (.int .i64 1)]
theorem LP (c:aD)(WD:jx c)(hi:c.ins.length<1000000)(hs:c.sets.length<1000000)(X:Nat->Prop)(v:Value)(w:World)(hX:∀b,X b->b<w.heap.size)(hN:kI w)(hv:cW X w v c) :
  bE Tryz.prog 64 [v] w λr w'=>HR X c r w'/\Below w.heap.size w w':=by
 have Iz:=hv;obtain⟨sv,iv,rfl,vP,vk⟩:=hv;obtain⟨a,cp,rfl,N3⟩:=vk.shape;have GF:=vP.shape;obtain⟨sa,sc,rfl,vz⟩:=GF;refine jm Tryz.func64 rfl (by kernel_rfl) [.cell 2 70,.tmp 3] rfl ?_;push_cast -dsimp(maxSteps:=4000000) [Tryz.ntmps64];refine aR ?_;intro w1 aZ;have aZ:ly w w1 70 [.slice sa c.sets.length sc,.slice a c.ins.length cp]:=aZ;have sM:=aZ.size;push_cast -dsimp;refine ag (z:=[.slice none 0 0,.slice none 0 0]) (by kernel_rfl) ?_;intro w2 bw;have HQ:=bw.size;have eR:Below w.heap.size w w2:=aZ.below.trans (bw.below.mono (by omega));have iL:aM w2 w.heap.size 70 [.slice sa c.sets.length sc,.slice a c.ins.length cp]:=aZ.aN.below bw.below (by omega);have AS:aM w2 w1.heap.size 70 [.slice none 0 0,.slice none 0 0]:=bw.aN;have d2:=iL.aB;simp only[List.length_cons,List.length_nil,Nat.zero_add,Nat.reduceAdd]at d2;push_cast -dsimp[d2];refine aA (mr c WD (by omega) (by omega) _ _ w2 (Iz.below eR)) ?_;rintro _ w3 ⟨rfl,fL⟩;have TJ:=fL.size;have Ps:=iL.below fL (by omega);have hR3:=AS.below fL (by omega);have dZ:Below w.heap.size w w3:=eR.trans (fL.mono (by omega));unfold HR;cases hR:ab c with
 | false =>
  push_cast -dsimp;refine aJ (n:=2) (by kernel_rfl) hR3 rfl (by simp) (by simp[Value.oneCell']) ?_;intro w4 az;have q4:aB w4 ⟨w1.heap.size,0,none⟩ 0 2=some [.slice none 0 0,.slice none 0 0]:=az.aN.aB;push_cast -dsimp[q4,Bool.false_eq_true,if_false];exact dZ.trans (az.kept.below (by omega) (λ_ h=>by omega))
 | true =>
  have hCR:=CR.of hR;have d3:=Ps.aB;simp only[List.length_cons,List.length_nil,Nat.zero_add,Nat.reduceAdd]at d3;push_cast -dsimp[d3];refine ag (z:=[.slice none 0 0,.slice none 0 0]) (by kernel_rfl) ?_;intro w4 az;have Yu:=az.size;push_cast -dsimp;refine aJ (n:=2) (by kernel_rfl) az.aN rfl (by simp) (by simp[Value.oneCell']) ?_;intro w5 cO;have SX:=cO.size;have k5:Kept (λj=>j=w3.heap.size) w3 w5:=(Kept.new az).trans cO.kept (λ_ _ h=>h);have Zo:=Ps.kept k5 (by omega);have hR5:=hR3.kept k5 (by omega);have hW5:aM w5 w3.heap.size 70 [.slice sa c.sets.length sc,.slice a c.ins.length cp]:=cO.aN;have ng:Below w.heap.size w w5:=dZ.trans (k5.below (by omega) (λ_ h=>by omega));have TG:cW (λj=>X j\/j=w.heap.size\/j=w1.heap.size) w (.agg #[.slice sa c.sets.length sc,.slice a c.ins.length cp]) c:=Iz.narrow (λb hb h=>by rcases h with h|h|h;exact h;omega;omega);push_cast -dsimp;refine aL [11,12,13,14,15,16,17,18,19,20,21,22,23,24,25] (λz wx=>∃(k:Nat) (d:aD) (sa':Option Addr) (sc':Nat) (a':Option Addr) (c':Nat),z 11=.int .i64 k/\k<=3/\fV c d/\aM wx w.heap.size 70 [.slice sa' d.sets.length sc',.slice a' d.ins.length c']/\cW (λj=>X j\/j=w.heap.size\/j=w1.heap.size) wx (.agg #[.slice sa' d.sets.length sc',.slice a' d.ins.length c']) d /\
    aM wx w1.heap.size 70 [.slice none 0 0,.slice none 0 0]/\aM wx w3.heap.size 70 [.slice sa c.sets.length sc,.slice a c.ins.length cp]/\Below w.heap.size w wx/\w5.heap.size<=wx.heap.size) (λz _=>3-(intOf (z 11)).toNat) ?_ ?_
  ·exact⟨0,c,sa,sc,a,cp,rfl,by omega,fV.refl hCR WD,Zo,TG.below ng,hR5,hW5,ng,Nat.le_refl _⟩
  intro z wx hI;obtain⟨k,d,sa',sc',a',c',Zm,AX,hL,nu,hvx,yj,hWx,bT,EZ⟩:=hI;push_cast -dsimp[Zm];refine⟨λaw=>?_,λfT=>?_⟩
  ·have dx:=nu.aB;simp only[List.length_cons,List.length_nil,Nat.zero_add,Nat.reduceAdd]at dx;push_cast -dsimp[dx];refine aA (Mp d hL.cr (λj=>X j\/j=w.heap.size\/j=w1.heap.size) _ wx (λb h=>by rcases h with h|h|h;(have:=hX b h;omega);omega;omega) hvx) ?_;rintro tv wa ⟨hta,tT⟩;have YS:=tT.size;have hT:=hL.aGc;push_cast -dsimp;refine aA (aA2 (oX d) hT.cr (λj=>X j\/j=w.heap.size\/j=w1.heap.size) tv wa (λb h=>by rcases h with h|h|h;(have:=hX b h;omega);omega;omega) hta hT.lens) ?_;rintro _ wb ⟨⟨is,sv2,iv2,rfl,hC,Qg,Ft⟩,jK⟩;have SY:=jK.size;have hls:=hT.Wj hC;obtain⟨vn,mn,QZ,CT,Yk⟩:=hls;have fT:∃e,e=bX (oX d) is:=⟨_,rfl⟩;obtain⟨e,he⟩:=fT;rw[<-he]at vn mn QZ CT Yk Qg Ft;have aNr:=Ft.slice;obtain⟨a2,c2,rfl⟩:=aNr;have hBb:aM wb w.heap.size 70 [.slice sa' d.sets.length sc',.slice a' d.ins.length c']:=(nu.below tT (by omega)).below jK (by omega);have NX:=(yj.below tT (by omega)).below jK (by omega);have hWb:=(hWx.below tT (by omega)).below jK (by omega);have cL:Below w.heap.size w wb:=(bT.trans (tT.mono (by omega))).trans (jK.mono (by omega));have gd:=Qg.shape;obtain⟨Jo,Jp,rfl,_⟩:=gd;push_cast -dsimp;refine aJ (n:=2) (by kernel_rfl) hBb rfl (by simp) (by simp[Value.oneCell']) ?_;intro wc fz;have szc:=fz.size;have hBc:aM wc w.heap.size 70 [.slice Jo e.sets.length Jp,.slice a2 e.ins.length c2]:=fz.aN;have CL:=NX.kept fz.kept (by omega);have hWc:=hWb.kept fz.kept (by omega);have aOx:Below w.heap.size w wc:=cL.trans (fz.kept.below (by omega) (λ_ h=>by omega))
   have hvc:cW (λj=>X j\/j=w.heap.size\/j=w1.heap.size) wc (.agg #[.slice Jo e.sets.length Jp,.slice a2 e.ins.length c2]) e :=
    oC (sets:=e.sets) (base:=wa.heap.size) (λb h=>by rcases h with h|h|h;(have:=hX b h;omega);omega;omega) ((dy.kept Qg fz.kept (λb h=>.inl (.inr (.inl h)))).mono (λ_ _ _=>rfl) (λb h=>.inl h)) (Ft.aI fz.kept (λg hg h=>by have:=Ft.block g hg;omega)) rfl
   have aNp:=Ft.aI fz.kept (λg hg h=>by have:=Ft.block g hg;omega);have aOg:dy (λb=>(X b\/b=w.heap.size\/b=w1.heap.size)\/(Value.slice a2 e.ins.length c2).ownBlock=some b) wc (.slice Jo e.sets.length Jp) e.sets:=dy.kept Qg fz.kept (λb h=>.inl (.inr (.inl h)));have qc:=hBc.aB;simp only[List.length_cons,List.length_nil,Nat.zero_add,Nat.reduceAdd]at qc;push_cast -dsimp[qc];refine aA (mr e Yk (by omega) (by omega) _ _ wc hvc) ?_;rintro _ wd ⟨rfl,vL⟩;have szd:=vL.size;have Cj:=hBc.below vL (by omega);have hRd:=CL.below vL (by omega);have hWd:=hWc.below vL (by omega);have aJN:Below w.heap.size w wd:=aOx.trans (vL.mono (by omega));cases NY:ab e with
   | true =>
    have hLe:=vn NY;push_cast -dsimp;exact⟨⟨by omega,by omega⟩,⟨k+1,e,Jo,Jp,a2,c2,rfl,by omega,hLe,Cj,hvc.below vL,hRd,hWd,aJN,by omega⟩,by rw[Zm];simp only[intOf];omega⟩
   | false =>
    have hLe:=mn NY;have hlm:=hLe.cr.many;have cd:wd.cell? ⟨w.heap.size,1,none⟩=some (.slice a2 e.ins.length c2):=Cj.cell rfl;push_cast -dsimp[cd];refine cT gj rfl rfl (by omega) ?_;intro we nK;have O1:=nK.size;have aNq:=(aNp.aI (Kept.aO vL (X:=λ_=>False) (λk hk hl=>by omega)) (λ_ _ h=>h)).new nK;push_cast -dsimp;refine aS (base:=wa.heap.size) [DV] (enc:=bV) gj aNq (by rfl) (λj u hu=>by simpa[bV] using nK.cell hu) jl (by simp only[List.length_cons,List.length_nil];omega) (by omega) ?_;intro ve wf hof hgf hnf;have Ln:=hof.slice;obtain⟨a3,c3,rfl⟩:=Ln;have kf:Kept (λj=>(Value.slice a2 e.ins.length c2).ownBlock=some j) we wf:=Kept.grown hgf (λ_ h=>h);have ha7:∀g,(Value.slice a2 e.ins.length c2).ownBlock=some g->wa.heap.size<=g:=λg hg=>(Ft.block g hg).1;have kdf:Kept (λj=>(Value.slice a2 e.ins.length c2).ownBlock=some j) wd wf:=(Kept.new nK).trans kf (λ_ _ h=>h);have szf:=kdf.size;have hBf:=Cj.kept kdf (λh=>by have:=ha7 _ h;omega);have hRf:=hRd.kept kdf (λh=>by have:=ha7 _ h;omega);have hWf:=hWd.kept kdf (λh=>by have:=ha7 _ h;omega);push_cast -dsimp;refine aC hBf (by simp) rfl ?_;intro wg nk;have szg:=nk.size;push_cast -dsimp;have hvg:cW (λj=>X j\/j=w.heap.size\/j=w1.heap.size) wg (.agg #[.slice Jo e.sets.length Jp,.slice a3 (e.ins++[DV]).length c3]) ⟨e.sets,e.ins++[DV]⟩ :=
     oC (sets:=e.sets) (base:=wa.heap.size) (λb h=>by rcases h with h|h|h;(have:=hX b h;omega);omega;omega) (dy.mono (dy.kept (dy.kept (aOg.below vL) kdf (λb h=>.inr h)) nk.kept (λb h=>.inl (.inr (.inl h)))) (λ_ _ _=>rfl) (λb h=>.inl h)) (hof.aI nk.kept (λg hg h=>by have:=(hof.block g hg).1;omega)) rfl
    exact⟨⟨by omega,by omega⟩,⟨k+1,⟨e.sets,e.ins++[DV]⟩,Jo,Jp,a3,c3,rfl,by omega,hLe,nk.aN,hvg,hRf.kept nk.kept (by omega),hWf.kept nk.kept (by omega),aJN.trans ((kdf.below (by omega) (λg h=>by have:=ha7 g h;omega)).trans (nk.kept.below (by omega) (λ_ h=>by omega))),by omega⟩,by rw[Zm];simp only[intOf];omega⟩
  have De:k=3:=by omega
  subst De;have hdm:=hL.cr.many;have hdl:=hL.len;have aOs:=hvx;obtain⟨_,_,he,od,hix⟩:=hvx;cases he;have c1:wx.cell? ⟨w.heap.size,1,none⟩=some (.slice a' d.ins.length c'):=nu.cell rfl;push_cast -dsimp[c1];refine aA (sF (En bV) 107 [] (λx=>decide (x.op=5)) d.ins (by omega) _ _ wx hix ?_) ?_
  ·rintro y hy cs rfl _ w' CO;exact On y w'
  rintro _ wa ⟨rfl,tT⟩;have YS:=tT.size;have hBa:=nu.below tT (by omega);have hRa:=yj.below tT (by omega);have hWa:=hWx.below tT (by omega);have dt:Below w.heap.size w wa:=bT.trans (tT.mono (by omega));have WX:=aOs.below tT;have t1:wa.cell? ⟨w3.heap.size,1,none⟩=some (.slice a c.ins.length cp):=hWa.cell rfl;have t2:wa.cell? ⟨w.heap.size,1,none⟩=some (.slice a' d.ins.length c'):=hBa.cell rfl;cases aMB:d.ins.any (λx=>decide (x.op=5)) with
  | false =>
   push_cast -dsimp[t1];refine⟨λh2=>?_,λh2=>?_⟩
   ·refine cT vW rfl rfl (by omega) ?_;intro wb cL;have SY:=cL.size;have NX:=hRa.below cL.below (by omega);have aJM:Below w.heap.size w wb:=dt.trans (cL.below.mono (by omega));have hNb:=hN.below aJM;obtain⟨na,nc,Yl,hn2⟩:=hNb;have ho:=cL.own (base:=wa.heap.size) (k:=1) (n:=1) (enc:=nD) (l:=[⟨none,0,0⟩]) rfl rfl (λ_=>rfl) (Nat.le_refl _) (by omega);push_cast -dsimp[Yl];refine aA (AD [⟨1,0,0⟩,⟨5,0,0⟩] (by decide) (λ_=>False) _ wb hn2 (by simp)) ?_;rintro vc wc ⟨vw,mm⟩;have szc:=mm.size;have CL:=NX.below mm (by omega);have aOy:Below w.heap.size w wc:=aJM.trans (mm.mono (by omega));have hos:=vw.slice;obtain⟨ca,cc,rfl⟩:=hos;push_cast -dsimp;refine aJ (n:=2) (by kernel_rfl) CL rfl (by simp) (by simp[Value.oneCell']) ?_;intro wd lG;have szd:=lG.size;have qd:aB wd ⟨w1.heap.size,0,none⟩ 0 2=some [.slice (some ⟨wa.heap.size,0,none⟩) 1 1,.slice ca ([⟨1,0,0⟩,⟨5,0,0⟩]:List I3).length cc]:=lG.aN.aB;push_cast -dsimp[qd,if_true];have GB:=(ho.aI (Kept.aO mm (X:=λ_=>False) (λk hk hl=>by omega)) (λ_ _ h=>h)).aI lG.kept (λg hg h=>by have:=(ho.block g hg).1;omega);have aNX:=vw.aI lG.kept (λg hg h=>by have:=(vw.block g hg).1;omega);refine⟨⟨tF,_,rfl,hL.never aMB (by omega),?_⟩,aOy.trans (lG.kept.below (by omega) (λ_ h=>by omega))⟩;refine oC (sets:=[[]]) (base:=w.heap.size) hX ?_ (aNX.mono (by omega)) rfl;refine dy.rT (us:=[⟨none,0,0⟩]) rfl (GB.sl.weaken λb h=>by have:=hX b h;omega) (λi u s hu hs=>?_);cases i with
    | zero =>
     simp only[List.getElem?_cons_zero,Option.some.injEq]at hu hs;subst hu hs;exact Sl.nil _ _ _ _ _ _
    | succ i=>simp at hs
   ·
    have t1:wa.cell? ⟨w3.heap.size,1,none⟩=some (.slice a c.ins.length cp):=hWa.cell rfl
    have t2:wa.cell? ⟨w.heap.size,1,none⟩=some (.slice a' d.ins.length c'):=hBa.cell rfl
    have qa:=hBa.aB
    simp only[List.length_cons,List.length_nil,Nat.zero_add,Nat.reduceAdd]at qa
    push_cast -dsimp[t1,t2,qa]
    refine⟨λ_=>?_,λh=>absurd h (by omega)⟩
    refine aA (mr d hL.lens (by omega) (by have:=hL.cr.sets;omega) _ _ wa WX) ?_
    rintro _ wb ⟨rfl,jK⟩
    have SY:=jK.size
    rw[hL.cr.to]
    have hBb:=hBa.below jK (by omega)
    have NX:=hRa.below jK (by omega)
    have qb:=hBb.aB
    simp only[List.length_cons,List.length_nil,Nat.zero_add,Nat.reduceAdd]at qb
    push_cast -dsimp[qb]
    refine aJ (n:=2) (by kernel_rfl) NX rfl (by simp) (by simp[Value.oneCell']) ?_
    intro wc fz
    have qc:aB wc ⟨w1.heap.size,0,none⟩ 0 2=some [.slice sa' d.sets.length sc',.slice a' d.ins.length c']:=fz.aN.aB
    push_cast -dsimp[qc,if_true]
    exact⟨⟨d,_,rfl,hL,((WX.below jK).kept fz.kept (λb h=>.inr (.inr h))).mono (λ_ _ _=>rfl) (λ_ h=>.inl h)⟩,(dt.trans (jK.mono (by omega))).trans (fz.kept.below (by omega) (λ_ h=>by omega))⟩
  | true =>
   push_cast -dsimp;have t1:wa.cell? ⟨w3.heap.size,1,none⟩=some (.slice a c.ins.length cp):=hWa.cell rfl;have t2:wa.cell? ⟨w.heap.size,1,none⟩=some (.slice a' d.ins.length c'):=hBa.cell rfl;have qa:=hBa.aB;simp only[List.length_cons,List.length_nil,Nat.zero_add,Nat.reduceAdd]at qa;push_cast -dsimp[t1,t2,qa];refine⟨λ_=>?_,λh=>absurd h (by omega)⟩;refine aA (mr d hL.lens (by omega) (by have:=hL.cr.sets;omega) _ _ wa WX) ?_;rintro _ wb ⟨rfl,jK⟩;have SY:=jK.size;rw[hL.cr.to];have hBb:=hBa.below jK (by omega);have NX:=hRa.below jK (by omega);have qb:=hBb.aB;simp only[List.length_cons,List.length_nil,Nat.zero_add,Nat.reduceAdd]at qb;push_cast -dsimp[qb];refine aJ (n:=2) (by kernel_rfl) NX rfl (by simp) (by simp[Value.oneCell']) ?_;intro wc fz;have qc:aB wc ⟨w1.heap.size,0,none⟩ 0 2=some [.slice sa' d.sets.length sc',.slice a' d.ins.length c']:=fz.aN.aB;push_cast -dsimp[qc,if_true];exact⟨⟨d,_,rfl,hL,((WX.below jK).kept fz.kept (λb h=>.inr (.inr h))).mono (λ_ _ _=>rfl) (λ_ h=>.inl h)⟩,(dt.trans (jK.mono (by omega))).trans (fz.kept.below (by omega) (λ_ h=>by omega))⟩
end Go.Proofs.YtledlfbbebodgaaGreatDoor
end
section
namespace Go.Vc
open Go.RowKit
theorem J6 {H:Type}{enc:TypeId×Value->H}{P:Program}{W:World}{base:Nat}{sp:Nat->Bool}{held:Bool}{α:Type}{t e:TypeId}{k:Nat}{R:List Value->α->Prop}{D:DataW H->α->Prop}(ht:P.underlying t=some (.slice e))(hc:P.cellsOf e=k)(hk:0<k)
  {fuel:Nat} {cs:List Value} {ds rs:List (DataW H)} {q:List MemPlace} (h:DataW.trod enc P W base sp held fuel t cs=some (.slice ds rs,q)) (yN:∀n cs y,cs.length=k->DataW.trod enc P W base sp held n e cs=some y->∃x,R cs x/\D y.1 x) :
  ∃v l,cs=[v]/\Sl (λ_=>False) k R W v l/\l.length=ds.length/\∀(i:Nat) (d:DataW H) (y:α),ds[i]?=some d->l[i]?=some y->D d y:=by
 rcases DataW.trod_slice ht h with ⟨rfl,hx⟩|⟨a,len,cap,elems,rest,n,_,rfl,hx,_,Ke,_,hlen,he,_⟩
 ·simp at hx
 obtain⟨l,hl,hp⟩:=xI (λi (x:α)=>(∃ci:List Value,ci.length=k/\(∀j u,ci[j]?=some u->W.cell? ((a.add (i*k)).add j)=some u)/\R ci x)/\∀y,elems[i]?=some y->D y.1 x) len (λi hi=>by
  have hE:=he i hi;rw[hc]at hE;have hs:elems[i]?=some elems[i]:=List.getElem?_eq_getElem (by omega);rw[hs]at hE;obtain⟨ci,h1,h2⟩:=Option.bind_eq_some_iff.1 hE;obtain⟨h3,h4⟩:=LJ h1;obtain⟨x,hx,hd⟩:=yN n ci _ h3 h2;exact⟨x,⟨ci,h3,h4,hx⟩,λy hy=>by rw[hs]at hy;cases hy;exact hd⟩)
 have hds:ds=elems.map (·.1):=by
  have:=(Prod.mk.inj hx).1;injection this
 refine⟨_,l,rfl,⟨some a,cap,by rw[hl],by omega,λi x hx=>?_⟩,by rw[hds,List.length_map];omega,λi d y hd hy=>?_⟩
 ·obtain⟨⟨ci,h1,h2,h3⟩,_⟩:=hp i x hx;have hi0:=(List.getElem?_eq_some_iff.1 hx).1;obtain⟨⟨c0,g1,g2,_⟩,_⟩:=hp 0 l[0] (List.getElem?_eq_getElem (by omega));have h0:=g2 0 c0[0] (List.getElem?_eq_getElem (by omega));obtain⟨b,o,spot⟩:=a;have tV:spot=none:=by
   have:=World.cell?_spot h0;rw[Nat.zero_mul]at this;simpa[Addr.add] using this
  subst tV;exact⟨b,o,ci,rfl,id,h1,λj u hu=>by have:=h2 j u hu;rwa [add_lit,add_lit]at this,h3⟩
 rw[hds,List.getElem?_map]at hd;cases hj:elems[i]? with
 | none=>rw[hj]at hd;cases hd
 | some e =>
  rw[hj]at hd;simp only[Option.map_some,Option.some.injEq]at hd;subst hd;exact(hp i y hy).2 e hj
end Go.Vc
namespace Go.Proofs.YtledlfbbebodgaaGreatDoor
open Go.ChangeShapes Go.WideShapes Go.ChangeAt Go.Deep Go.RowKit Go.Vc Cae
section
variable {H:Type} {enc:TypeId×Value->H} {W:World} {base:Nat} {sp:Nat->Bool} {held:Bool}
theorem MY {n:Nat}{cs:List Value}{y:DataW H×List MemPlace}(h:DataW.trod enc Tryz.prog W base sp held n 109 cs=some y):∃r:I3,cs=bV r/\y.1=.agg [.lit (.int .i64 r.op),.lit (.int .i64 r.a),.lit (.int .i64 r.b)]:=by
 obtain⟨y0,y1,y2,m,hy,hl,h0,h1,h2⟩:=trod_struct3 Tryz.underlying109 h;rw[show Tryz.prog.cellsOf 109=3 by kernel_rfl]at hl
 match cs,hl with
 | [a,b,c],_ =>
  have HB:DataW.trod enc Tryz.prog W base sp held m 3 (List.take (Tryz.prog.cellsOf 3) [a,b,c])=some y0:=h0;have yi:DataW.trod enc Tryz.prog W base sp held m 3 (List.take (Tryz.prog.cellsOf 3) [b,c])=some y1:=h1;have h2':DataW.trod enc Tryz.prog W base sp held m 3 (List.take (Tryz.prog.cellsOf 3) [c])=some y2:=h2;rw[aHo]at HB yi h2';obtain⟨z0,e0,q0,_⟩:=DataW.trod_int Tryz.underlying3 HB;obtain⟨z1,e1,q1,_⟩:=DataW.trod_int Tryz.underlying3 yi;obtain⟨z2,e2,q2,_⟩:=DataW.trod_int Tryz.underlying3 h2';simp at e0 e1 e2;subst e0 e1 e2 q0 q1 q2;exact⟨⟨z0,z1,z2⟩,rfl,by rw[hy]⟩
end
theorem JY {W:World}{l:List (String×DataW Unit)}(hl:(l.filter λx=>x.1 == "caesura/opt.never")=[("caesura/opt.never",Rows.laid_caesura_opt_never)])(h:laidMetH Tryz.prog l W):kI W:=by
 have h:=h.filter (λx=>x.1 == "caesura/opt.never");rw[hl,MakeChecks.laidMetH_plain _ _ _ (by kernel_rfl)]at h;obtain⟨ps,⟨g,t,cs,fuel,p,q,hg,ht,hv,hd,_,_⟩,_,_⟩:=h;obtain rfl:=Option.some.inj ((show Tryz.prog.globalNamed "caesura/opt.never"=some 2 by kernel_rfl).symm.trans hg)
 obtain rfl:=Option.some.inj ((show (Tryz.prog.globals[2]?).map (·.type)=some 70 by kernel_rfl).symm.trans ht)
 obtain⟨y0,y1,m,hy,hlen,h0,h1⟩:=trod_struct2 Tryz.underlying70 hd;rw[show Tryz.prog.cellsOf 70=2 by kernel_rfl]at hlen
 obtain⟨lc⟩:=cs;match lc,hlen with
 | [a,b],_ =>
  have yi:DataW.trod _ Tryz.prog W _ _ _ m 68 (List.take (Tryz.prog.cellsOf 68) [b])=some y1:=h1;rw[show Tryz.prog.cellsOf 68=1 by kernel_rfl]at yi
  have hy1:=(List.cons.inj (List.cons.inj (DataW.agg.inj (Prod.mk.inj hy).1)).2).1;obtain⟨d1,q1⟩:=y1;have hy1:DataW.slice [.agg [.lit (.int .i64 1),.lit (.int .i64 0),.lit (.int .i64 0)],.agg [.lit (.int .i64 5),.lit (.int .i64 0),.lit (.int .i64 0)]] []=d1:=hy1;subst hy1;obtain⟨v,ins,e1,hi,HG,hD⟩:=J6 (k:=3) (R:=En bV) (D:=λd (r:I3)=>d=.agg [.lit (.int .i64 r.op),.lit (.int .i64 r.a),.lit (.int .i64 r.b)]) Tryz.underlying68 (by kernel_rfl) (by omega) yi λn cs y _ hh=>MY hh;simp only[List.take_succ_cons,List.take_zero,List.cons.injEq,and_true]at e1;subst e1;have Cs:ins=[⟨1,0,0⟩,⟨5,0,0⟩]:=by
   match ins,HG with
   | [⟨o,x,y⟩,⟨o',x',y'⟩],_ =>
    have k0:=hD 0 _ _ rfl rfl;have k1:=hD 1 _ _ rfl rfl;simp at k0 k1;obtain⟨rfl,rfl,rfl⟩:=k0;obtain⟨rfl,rfl,rfl⟩:=k1;rfl
  subst Cs;obtain⟨av,cv,rfl,_⟩:=hi.shape;exact⟨av,cv,by simpa using World.var?_cell hg hv 1,hi⟩
end Go.Proofs.YtledlfbbebodgaaGreatDoor
end
section
namespace Go.Proofs.YtledlfbbebodgaaGreatDoor
open Go.ChangeShapes Go.WideShapes Go.ChangeAt Go.RowKit Go.Vc Cae
def We:List (String×DataW Unit):=[("math/bits.deBruijn32tab",Rows.laid_math_bits_deBruijn32tab),("math/bits.deBruijn64tab",Rows.laid_math_bits_deBruijn64tab),("internal/strconv.uint64pow10",Rows.laid_internal_strconv_uint64pow10),("unicode/utf8.acceptRanges",Rows.laid_unicode_utf8_acceptRanges),("caesura/utf.least",Rows.laid_caesura_utf_least),("strconv.ErrRange",Rows.laid_strconv_ErrRange),("strconv.ErrSyntax",Rows.laid_strconv_ErrSyntax),("caesura/opt.never",Rows.laid_caesura_opt_never),("unicode/utf8.first",Rows.laid_unicode_utf8_first)]
end Go.Proofs.YtledlfbbebodgaaGreatDoor
end
section
namespace Go.Proofs.YtledlfbbebodgaaGreatDoor
open Go.Vc Go.Proofs Go.RowKit Cae
attribute [local irreducible] dd ae ak a7 runK bE Sl Vc.Own vc aU cJ a8
theorem Ja (s:List UInt8)(hs:s.length<1000000)(w:World)(hg:xA w) :
  bE Tryz.prog 24 [str s] w λv w'=>Vc.Own w.heap.size 3 1 nd w' v ((jw 0 s).map λu=>(u.p:Int))/\Below w.heap.size w w':=by
 refine aE Tryz.func24 rfl (by kernel_rfl) [2] rfl ?_;push_cast -dsimp(maxSteps:=4000000) [Tryz.ntmps24];refine aA (Hj s hs w hg) ?_;rintro v w1 ⟨ho,hb⟩;have qS:=ho.sl;obtain⟨a,c,rfl,hc⟩:=qS.shape;push_cast -dsimp;refine aL [3,5,8,9,10,11,12,13,14,15,16,17,18,19,20,21] (λz wx=>∃(i:Nat),z 5=.int .i64 i/\i<=(jw 0 s).length /\
  Vc.Own w1.heap.size 3 1 nd wx (z 3) (((jw 0 s).take i).map λu=>(u.p:Int))/\Below w1.heap.size w1 wx) (λz _=>(jw 0 s).length-(intOf (z 5)).toNat) ?_ ?_
 ·exact⟨0,rfl,Nat.zero_le _,Vc.Own.nil (enc:=nd) _ _ (λ_=>rfl) _,Below.refl _ _⟩
 intro z wx hI;obtain⟨i,h5,hi,oH,gX⟩:=hI;push_cast -dsimp[h5];refine⟨λaw=>?_,λfT=>?_⟩
 ·obtain⟨x,hx,jQ,hd,ht⟩:=au (l:=jw 0 s) (i:=i) (by omega);obtain⟨b,o,rfl,hX,aK⟩:=(qS.below gX).get hx;have c0:wx.cell? ⟨b,o+i*3,none⟩=some (.int .i64 x.p):=aK 0 _ rfl;push_cast -dsimp[c0];refine⟨⟨by omega,by omega⟩,?_⟩;refine cT bA rfl rfl (by omega) ?_;intro w2 bw;push_cast -dsimp;refine Ed (ys:=[(x.p:Int)]) (enc:=nd) bA (oH.below bw.below) (λj u hu=>by simpa using bw.cell hu) (by simp[nd,Value.oneCell']) (by have:=rB s.length s 0 rfl;simp only[List.length_map,List.length_take,List.length_cons,List.length_nil];omega) (by have:=hb.size;have:=gX.size;have:=bw.size;omega) ?_;intro v' w3 qQ _ fL;push_cast -dsimp;have hl:=rB s.length s 0 rfl;exact⟨⟨by omega,by omega⟩,⟨i+1,rfl,by omega,by rw[ht];simpa using qQ,gX.trans ((bw.below.mono gX.size).trans fL)⟩,by rw[h5];simp only[intOf];omega⟩
 rw[List.take_of_length_le (by omega)]at oH;exact⟨oH.mono hb.size,hb.trans (gX.mono hb.size)⟩
end Go.Proofs.YtledlfbbebodgaaGreatDoor
end
section
namespace Cae
theorem uV:∀(s cs:List UInt8) (x:UInt8),x∈s->cs.contains x=true->0<=Go.Lib.indexAny s cs:=by
 intro s cs x hx hc;induction s with
 | nil=>cases hx
 | cons b l ih =>
  unfold Go.Lib.indexAny;split
  ·decide
  rename_i hb;have hl:x∈l:=by
   rcases List.mem_cons.1 hx with e|h
   ·subst e;exact absurd hc hb
   exact h
  have:=ih hl;split
  ·rename_i he
   have:=beq_iff_eq.1 he;omega
  omega
end Cae
namespace Go.Proofs.YtledlfbbebodgaaGreatDoor
open Go.Vc Go.Proofs Go.RowKit Cae
attribute [local irreducible] dd ae ak a7 runK bE Sl Vc.Own vc aU cJ a8
def xX:Go.Shelf.Ren:=⟨λ| 153=>50|152=>80|226=>81|227=>82|228=>83|137=>122|119=>123|224=>124|225=>125|217=>158|266=>178|n=>n,λ| 9=>9|3=>3|4=>4|5=>5|21=>21|117=>161|116=>160|0=>0|46=>103|124=>207|n=>n,λ| n=>n⟩
theorem aAO:Go.Proofs.Lays.n153 Tryz.prog xX:={
 mixed:=by kernel_rfl
 f119:=Tryz.func123.trans (congrArg some (by kernel_rfl))
 f137:=Tryz.func122.trans (congrArg some (by kernel_rfl))
 f152:=Tryz.func80.trans (congrArg some (by kernel_rfl))
 f153:=Tryz.func50.trans (congrArg some (by kernel_rfl))
 f217:=Tryz.func158.trans (congrArg some (by kernel_rfl))
 f224:=Tryz.func124.trans (congrArg some (by kernel_rfl))
 f225:=Tryz.func125.trans (congrArg some (by kernel_rfl))
 f226:=Tryz.func81.trans (congrArg some (by kernel_rfl))
 f227:=Tryz.func82.trans (congrArg some (by kernel_rfl))
 f228:=Tryz.func83.trans (congrArg some (by kernel_rfl))
 f266:=Tryz.func178.trans (congrArg some (by kernel_rfl))
 t0:=Tryz.underlying0
 a0:=Tryz.isAgg0
 z0:=Tryz.sizeOf0
 v0:=Tryz.zeroValue0
 t3:=Tryz.underlying3
 a3:=Tryz.isAgg3
 z3:=Tryz.sizeOf3
 v3:=Tryz.zeroValue3
 t4:=Tryz.underlying4
 a4:=Tryz.isAgg4
 z4:=Tryz.sizeOf4
 v4:=Tryz.zeroValue4
 t5:=Tryz.underlying5
 a5:=Tryz.isAgg5
 z5:=Tryz.sizeOf5
 v5:=Tryz.zeroValue5
 t9:=Tryz.underlying9
 a9:=Tryz.isAgg9
 z9:=Tryz.sizeOf9
 v9:=Tryz.zeroValue9
 t21:=Tryz.underlying21
 a21:=Tryz.isAgg21
 z21:=Tryz.sizeOf21
 v21:=Tryz.zeroValue21
 t46:=Tryz.underlying103
 a46:=Tryz.isAgg103
 z46:=Tryz.sizeOf103
 v46:=Tryz.zeroValue103
 t116:=Tryz.underlying160
 a116:=Tryz.isAgg160
 z116:=Tryz.sizeOf160
 t117:=Tryz.underlying161
 a117:=Tryz.isAgg161
 z117:=Tryz.sizeOf161
 v117:=Tryz.zeroValue161
 t124:=Tryz.underlying207
 a124:=Tryz.isAgg207
 z124:=Tryz.sizeOf207
 v124:=Tryz.zeroValue207 }
theorem W0 (s cs:List UInt8)(w:World)(h8:8<s.length)(hs:s.length<=1000000)(h2:2<=cs.length)(iW:cs.length<=1000000)(hac:∀(j:Nat) b,cs[j]?=some b->b.toNat<128) :
  bE Tryz.prog 50 [str s,str cs] w λr w'=>r=.int .i64 (Lib.indexAny s cs)/\Below w.heap.size w w':=by
 refine cR Tryz.func50 (by kernel_rfl) (by kernel_rfl) ?_;have hz:=Go.zero_of_info (P:=Tryz.prog) (t:=xX.t 116) (v:=.agg (Array.replicate 256 (.bool false))) (n:=256) (by kernel_rfl);refine Calls.mono (Any.strings_IndexAny_long aAO hz.1 hz.2 ⟨s.toArray⟩ ⟨cs.toArray⟩ w (by show 2<=cs.toArray.size;simp;omega) (by show 8<s.toArray.size;simp;omega) (by show s.toArray.size<_;simp;omega) (by show cs.toArray.size<_;simp;omega) hac) ?_
 rintro e w' ⟨rfl,rfl⟩;refine⟨_,rfl,rfl,?_⟩;exact((Below.refl w.heap.size w).alloc (Nat.le_refl _) _).alloc (by simp) _
theorem Vb (s:List UInt8)(w:World)(h8:8<s.length)(hs:s.length<=1000000)(h:(43:UInt8)∈s\/(123:UInt8)∈s) :
  bE Tryz.prog 27 [str s,str [123,43]] w λr w'=>r=.bool true/\Below w.heap.size w w':=by
 have pC:0<=Lib.indexAny s [123,43]:=by
  rcases h with h|h
  ·exact Cae.uV s _ 43 h (by decide)
  exact Cae.uV s _ 123 h (by decide)
 refine aE Tryz.func27 rfl (by kernel_rfl) [4] rfl ?_;push_cast -dsimp(maxSteps:=4000000) [Tryz.ntmps27];refine aA (W0 s [123,43] w h8 hs (by decide) (by decide) ?_) ?_
 ·intro j b hj;match j,hj with
  | 0,e=>cases e;decide
  | 1,e=>cases e;decide
 rintro _ w1 ⟨rfl,gX⟩;push_cast -dsimp[pC];exact gX
end Go.Proofs.YtledlfbbebodgaaGreatDoor
end
section
namespace Go.Proofs.YtledlfbbebodgaaGreatDoor
open Go.Vc Go.Proofs Go.RowKit Cae
attribute [local irreducible] dd ae ak a7 runK bE Sl Vc.Own vc aU cJ a8
def sP (c:aD)(ps:List Int):Value :=
 if ab c then .tuple #[.bool (eo c ps).1,.int .i64 (eo c ps).2,.nilIface] else .tuple #[.bool false,.int .i64 0,.iface 83 (.int .i64 1)]
theorem Nt (c:aD)(ps:List Int)(hl:jx c)(hi:c.ins.length<1000000000)(hs:c.sets.length<1000000000)(xU:ps.length<1000000000)(X Xp:Nat->Prop)(v pv:Value)(w:World)(hv:cW X w v c)(Ym:Sl Xp 1 (En nd) w pv ps) :
  bE Tryz.prog 28 [v,pv] w λr w'=>r=sP c ps/\Below w.heap.size w w':=by
 have Iz:=hv;obtain⟨sv,iv,rfl,vP,vk⟩:=Iz;obtain⟨a1,c1,rfl,QP⟩:=vP.shape;obtain⟨a2,c2,rfl,yM⟩:=vk.shape;obtain⟨a3,c3,rfl,hc3⟩:=Ym.shape;refine aE Tryz.func28 rfl (by kernel_rfl) [4,5,6] rfl ?_;push_cast -dsimp(maxSteps:=4000000) [Tryz.ntmps28];refine aR ?_;intro w1 aZ;have d1:aB w1 ⟨w.heap.size,0,none⟩ 0 2=some [.slice a1 c.sets.length c1,.slice a2 c.ins.length c2]:=aZ.aN.aB;push_cast -dsimp[d1];refine aA (mr c hl hi hs X _ w1 (hv.below aZ.below)) ?_;rintro _ w2 ⟨rfl,eR⟩;have iL:Below w.heap.size w w2:=aZ.below.trans (eR.mono (by have:=aZ.size;omega));have aOi:=aZ.size;cases hR:ab c with
 | false =>
  push_cast -dsimp;refine⟨?_,iL⟩;unfold sP;rw[hR];rfl
 | true =>
  have hc:=CR.of hR;have Yl:=hc.one;have hn2:=hc.many;have Vk:aM w2 w.heap.size 70 [.slice a1 c.sets.length c1,.slice a2 c.ins.length c2]:=aZ.aN.below eR aZ.aN.lt;have e1:w2.cell? ⟨w.heap.size,1,none⟩=some (.slice a2 c.ins.length c2):=Vk.cell rfl;push_cast -dsimp[e1];have oI:List.replicate c.ins.length (Value.bool false)=gb c.ins.length []:=by
   unfold gb;apply List.ext_getElem?;intro j;simp only[List.getElem?_map,List.getElem?_replicate];by_cases hj:j<c.ins.length
   ·simp[hj]
   simp[hj]
  refine aCd [8,9,22,23,24,25,26,27,28,29] (λz wx=>∃pA pB:Nat,z 8=.pointer (some ⟨pA,0,none⟩)/\z 9=.pointer (some ⟨pB,0,none⟩)/\CH (λj=>w2.heap.size<=j) wx pA pB c.ins.length [] []/\Kept (λj=>w2.heap.size<=j) w2 wx) ?_ ?_
  ·refine vI (.one 0 (.one 4 (.two 1 (.one 2 (.two 3 (.one 5 (.one 6 (.one 7 (.one 8 (.one 9 .done))))) 5 (.one 6 (.two 3 (.one 7 (.one 8 (.one 9 .done))) 7 (.one 3 (.one 8 (.one 9 .done))))))) 5 (.one 6 (.two 1 (.one 2 (.two 3 (.one 7 (.one 8 (.one 9 .done))) 7 (.one 3 (.one 8 (.one 9 .done))))) 7 (.one 1 (.one 2 (.one 3 (.one 8 (.one 9 .done)))))))))) (λ_=>True) mixed (by kernel_rfl) trivial ?_;push_cast -dsimp;constructor
   ·refine xe (z:=.bool false) sW (by kernel_rfl) rfl (by omega) (by omega) ?_;intro y1 n1;refine⟨trivial,?_⟩;push_cast -dsimp;constructor
    ·refine aR ?_;intro y2 n2;refine⟨trivial,?_⟩;push_cast -dsimp;refine xe (z:=.bool false) sW (by kernel_rfl) rfl (by omega) (by omega) ?_;intro y3 n3;refine⟨trivial,?_⟩;push_cast -dsimp;refine aR ?_;intro y4 n4;refine⟨trivial,?_⟩;push_cast -dsimp;have s1:=n1.size;have s2:=n2.size;have s3:=n3.size;have s4:=n4.size;have s0:w2.drew.heap.size=w2.heap.size:=rfl;have b3:Below y3.heap.size y3 y4:=n4.below;have b2:Below y2.heap.size y2 y4:=n3.below.trans (b3.mono (by omega));have b1:Below y1.heap.size y1 y4:=n2.below.trans (b2.mono (by omega));have b4:Below y4.heap.size y4 y4:=Below.refl _ _;refine⟨y1.heap.size,y3.heap.size,rfl,rfl,⟨λj=>j=w2.drew.heap.size\/j=y1.heap.size,λj=>j=y2.heap.size\/j=y3.heap.size,⟨.slice none 0 0,w2.drew.heap.size,(n2.aN.below b2 n2.aN.lt),Vc.Own.nil (enc:=aY) _ _ (λ_=>rfl) _,by rw[<-oI];exact(n1.aN.below b1 n1.aN.lt),by omega,λg h=>by simp[Value.ownBlock]at h,.inr rfl,.inl rfl,bh.nil _⟩,⟨.slice none 0 0,y2.heap.size,(n4.aN.below b4 n4.aN.lt),Vc.Own.nil (enc:=aY) _ _ (λ_=>rfl) _,by rw[<-oI];exact(n3.aN.below b3 n3.aN.lt),by omega,λg h=>by simp[Value.ownBlock]at h,.inr rfl,.inl rfl,bh.nil _⟩,λj h1 h2=>by omega,λj h=>by omega,λj h=>by omega⟩,Kept.aO ((Below.refl w2.heap.size w2).drew.trans (n1.below.trans (b1.mono (by omega)))) (λi h _=>h)⟩
    refine xe (z:=.bool false) sW (by kernel_rfl) rfl (by omega) (by omega) ?_;intro y2 n2;refine⟨trivial,?_⟩;push_cast -dsimp;constructor
    ·refine aR ?_;intro y3 n3;refine⟨trivial,?_⟩;push_cast -dsimp;refine aR ?_;intro y4 n4;refine⟨trivial,?_⟩;push_cast -dsimp;have s1:=n1.size;have s2:=n2.size;have s3:=n3.size;have s4:=n4.size;have s0:w2.drew.heap.size=w2.heap.size:=rfl;have b3:Below y3.heap.size y3 y4:=n4.below;have b2:Below y2.heap.size y2 y4:=n3.below.trans (b3.mono (by omega));have b1:Below y1.heap.size y1 y4:=n2.below.trans (b2.mono (by omega));have b4:Below y4.heap.size y4 y4:=Below.refl _ _;refine⟨y2.heap.size,y3.heap.size,rfl,rfl,⟨λj=>j=w2.drew.heap.size\/j=y2.heap.size,λj=>j=y1.heap.size\/j=y3.heap.size,⟨.slice none 0 0,w2.drew.heap.size,(n3.aN.below b3 n3.aN.lt),Vc.Own.nil (enc:=aY) _ _ (λ_=>rfl) _,by rw[<-oI];exact(n1.aN.below b1 n1.aN.lt),by omega,λg h=>by simp[Value.ownBlock]at h,.inr rfl,.inl rfl,bh.nil _⟩,⟨.slice none 0 0,y1.heap.size,(n4.aN.below b4 n4.aN.lt),Vc.Own.nil (enc:=aY) _ _ (λ_=>rfl) _,by rw[<-oI];exact(n2.aN.below b2 n2.aN.lt),by omega,λg h=>by simp[Value.ownBlock]at h,.inr rfl,.inl rfl,bh.nil _⟩,λj h1 h2=>by omega,λj h=>by omega,λj h=>by omega⟩,Kept.aO ((Below.refl w2.heap.size w2).drew.trans (n1.below.trans (b1.mono (by omega)))) (λi h _=>h)⟩
    refine aR ?_;intro y3 n3;refine⟨trivial,?_⟩;push_cast -dsimp;refine aR ?_;intro y4 n4;refine⟨trivial,?_⟩;push_cast -dsimp;have s1:=n1.size;have s2:=n2.size;have s3:=n3.size;have s4:=n4.size;have s0:w2.drew.heap.size=w2.heap.size:=rfl;have b3:Below y3.heap.size y3 y4:=n4.below;have b2:Below y2.heap.size y2 y4:=n3.below.trans (b3.mono (by omega));have b1:Below y1.heap.size y1 y4:=n2.below.trans (b2.mono (by omega));have b4:Below y4.heap.size y4 y4:=Below.refl _ _;refine⟨y3.heap.size,y2.heap.size,rfl,rfl,⟨λj=>j=w2.drew.heap.size\/j=y3.heap.size,λj=>j=y1.heap.size\/j=y2.heap.size,⟨.slice none 0 0,w2.drew.heap.size,(n4.aN.below b4 n4.aN.lt),Vc.Own.nil (enc:=aY) _ _ (λ_=>rfl) _,by rw[<-oI];exact(n1.aN.below b1 n1.aN.lt),by omega,λg h=>by simp[Value.ownBlock]at h,.inr rfl,.inl rfl,bh.nil _⟩,⟨.slice none 0 0,y1.heap.size,(n3.aN.below b3 n3.aN.lt),Vc.Own.nil (enc:=aY) _ _ (λ_=>rfl) _,by rw[<-oI];exact(n2.aN.below b2 n2.aN.lt),by omega,λg h=>by simp[Value.ownBlock]at h,.inr rfl,.inl rfl,bh.nil _⟩,λj h1 h2=>by omega,λj h=>by omega,λj h=>by omega⟩,Kept.aO ((Below.refl w2.heap.size w2).drew.trans (n1.below.trans (b1.mono (by omega)))) (λi h _=>h)⟩
   refine xe (z:=.bool false) sW (by kernel_rfl) rfl (by omega) (by omega) ?_;intro y1 n1;refine⟨trivial,?_⟩;push_cast -dsimp;constructor
   ·refine xe (z:=.bool false) sW (by kernel_rfl) rfl (by omega) (by omega) ?_;intro y2 n2;refine⟨trivial,?_⟩;push_cast -dsimp;constructor
    ·refine aR ?_;intro y3 n3;refine⟨trivial,?_⟩;push_cast -dsimp;refine aR ?_;intro y4 n4;refine⟨trivial,?_⟩;push_cast -dsimp;have s1:=n1.size;have s2:=n2.size;have s3:=n3.size;have s4:=n4.size;have s0:w2.drew.heap.size=w2.heap.size:=rfl;have b3:Below y3.heap.size y3 y4:=n4.below;have b2:Below y2.heap.size y2 y4:=n3.below.trans (b3.mono (by omega));have b1:Below y1.heap.size y1 y4:=n2.below.trans (b2.mono (by omega));have b4:Below y4.heap.size y4 y4:=Below.refl _ _;refine⟨y2.heap.size,y3.heap.size,rfl,rfl,⟨λj=>j=y1.heap.size\/j=y2.heap.size,λj=>j=w2.drew.heap.size\/j=y3.heap.size,⟨.slice none 0 0,y1.heap.size,(n3.aN.below b3 n3.aN.lt),Vc.Own.nil (enc:=aY) _ _ (λ_=>rfl) _,by rw[<-oI];exact(n2.aN.below b2 n2.aN.lt),by omega,λg h=>by simp[Value.ownBlock]at h,.inr rfl,.inl rfl,bh.nil _⟩,⟨.slice none 0 0,w2.drew.heap.size,(n4.aN.below b4 n4.aN.lt),Vc.Own.nil (enc:=aY) _ _ (λ_=>rfl) _,by rw[<-oI];exact(n1.aN.below b1 n1.aN.lt),by omega,λg h=>by simp[Value.ownBlock]at h,.inr rfl,.inl rfl,bh.nil _⟩,λj h1 h2=>by omega,λj h=>by omega,λj h=>by omega⟩,Kept.aO ((Below.refl w2.heap.size w2).drew.trans (n1.below.trans (b1.mono (by omega)))) (λi h _=>h)⟩
    refine aR ?_;intro y3 n3;refine⟨trivial,?_⟩;push_cast -dsimp;refine aR ?_;intro y4 n4;refine⟨trivial,?_⟩;push_cast -dsimp;have s1:=n1.size;have s2:=n2.size;have s3:=n3.size;have s4:=n4.size;have s0:w2.drew.heap.size=w2.heap.size:=rfl;have b3:Below y3.heap.size y3 y4:=n4.below;have b2:Below y2.heap.size y2 y4:=n3.below.trans (b3.mono (by omega));have b1:Below y1.heap.size y1 y4:=n2.below.trans (b2.mono (by omega));have b4:Below y4.heap.size y4 y4:=Below.refl _ _;refine⟨y3.heap.size,y2.heap.size,rfl,rfl,⟨λj=>j=y1.heap.size\/j=y3.heap.size,λj=>j=w2.drew.heap.size\/j=y2.heap.size,⟨.slice none 0 0,y1.heap.size,(n4.aN.below b4 n4.aN.lt),Vc.Own.nil (enc:=aY) _ _ (λ_=>rfl) _,by rw[<-oI];exact(n2.aN.below b2 n2.aN.lt),by omega,λg h=>by simp[Value.ownBlock]at h,.inr rfl,.inl rfl,bh.nil _⟩,⟨.slice none 0 0,w2.drew.heap.size,(n3.aN.below b3 n3.aN.lt),Vc.Own.nil (enc:=aY) _ _ (λ_=>rfl) _,by rw[<-oI];exact(n1.aN.below b1 n1.aN.lt),by omega,λg h=>by simp[Value.ownBlock]at h,.inr rfl,.inl rfl,bh.nil _⟩,λj h1 h2=>by omega,λj h=>by omega,λj h=>by omega⟩,Kept.aO ((Below.refl w2.heap.size w2).drew.trans (n1.below.trans (b1.mono (by omega)))) (λi h _=>h)⟩
   refine aR ?_;intro y2 n2;refine⟨trivial,?_⟩;push_cast -dsimp;refine xe (z:=.bool false) sW (by kernel_rfl) rfl (by omega) (by omega) ?_;intro y3 n3;refine⟨trivial,?_⟩;push_cast -dsimp;refine aR ?_;intro y4 n4;refine⟨trivial,?_⟩;push_cast -dsimp;have s1:=n1.size;have s2:=n2.size;have s3:=n3.size;have s4:=n4.size;have s0:w2.drew.heap.size=w2.heap.size:=rfl;have b3:Below y3.heap.size y3 y4:=n4.below;have b2:Below y2.heap.size y2 y4:=n3.below.trans (b3.mono (by omega));have b1:Below y1.heap.size y1 y4:=n2.below.trans (b2.mono (by omega));have b4:Below y4.heap.size y4 y4:=Below.refl _ _;refine⟨y3.heap.size,y1.heap.size,rfl,rfl,⟨λj=>j=y2.heap.size\/j=y3.heap.size,λj=>j=w2.drew.heap.size\/j=y1.heap.size,⟨.slice none 0 0,y2.heap.size,(n4.aN.below b4 n4.aN.lt),Vc.Own.nil (enc:=aY) _ _ (λ_=>rfl) _,by rw[<-oI];exact(n3.aN.below b3 n3.aN.lt),by omega,λg h=>by simp[Value.ownBlock]at h,.inr rfl,.inl rfl,bh.nil _⟩,⟨.slice none 0 0,w2.drew.heap.size,(n2.aN.below b2 n2.aN.lt),Vc.Own.nil (enc:=aY) _ _ (λ_=>rfl) _,by rw[<-oI];exact(n1.aN.below b1 n1.aN.lt),by omega,λg h=>by simp[Value.ownBlock]at h,.inr rfl,.inl rfl,bh.nil _⟩,λj h1 h2=>by omega,λj h=>by omega,λj h=>by omega⟩,Kept.aO ((Below.refl w2.heap.size w2).drew.trans (n1.below.trans (b1.mono (by omega)))) (λi h _=>h)⟩
  intro z w6 hJ;obtain⟨pA0,pB0,h8,h9,hT,k26⟩:=hJ;push_cast -dsimp[h8,h9];refine aA (oY hT (k:=0) (by omega) (by omega)) ?_;rintro _ w7 ⟨yL,k67⟩;have k27:Kept (λj=>w2.heap.size<=j) w2 w7:=k26.trans k67 (λ_ _ h=>h);have s26:=k26.size;have yL:CH (λj=>w2.heap.size<=j) w7 pA0 pB0 c.ins.length [0] []:=yL.narrow (λj h _=>by omega);clear hT k26 k67 d1 oI;push_cast -dsimp;refine aL [4,5,6,8,9,10,11,12,13,14,32,33,34,35,36,37,38,39,40,41,42,43,44,45,46,47,48,49,50,51,52,53,54,55,56,57,58,59,60,61,62,63,64,65,66,67,68,69,70,71,72,73,74,75,76,77,78,79,80,81,82,83,84,85,86,87,88,89,90,91,92,93,94,95,96,97,98,99,100,101,102,103,104,105,106,107,108,109,110,111,112,113,114,115,116,117,118,119,120,121,122,123,124,125] (λz wx=>∃(i st pA pB:Nat) (q:List Nat),z 11=.int .i64 i/\z 10=.int .i64 st/\z 8=.pointer (some ⟨pA,0,none⟩)/\z 9=.pointer (some ⟨pB,0,none⟩)/\i<=ps.length/\st<=i*2001 /\
   outer c (ps.drop i) q st=eo c ps/\CH (λj=>w2.heap.size<=j) wx pA pB c.ins.length q []/\Kept (λj=>w2.heap.size<=j) w2 wx) (λz _=>ps.length-(intOf (z 11)).toNat) ?_ ?_
  ·exact⟨0,0,pA0,pB0,[0],rfl,rfl,rfl,rfl,Nat.zero_le _,Nat.le_refl _,rfl,yL,k27⟩
  intro z wx hI;obtain⟨i,st0,pA,pB,q,Zm,vK,h8,h9,hip,ba,iu,hT,hk⟩:=hI;push_cast -dsimp[Zm,vK,h8,h9];rw[XV c ps i q st0 hip]at iu;generalize hR0:inner c ps[i]? (c.ins.length+1) q 0 [] st0=R0 at iu;refine aL [4,5,6,10,12,13,14,34,35,36,37,38,39,40,41,42,43,44,45,46,47,48,49,50,51,52,53,54,55,56,57,58,59,60,61,62,63,64,65,66,67,68,69,70,71,72,73,74,75,76,77,78,79,80,81,82,83,84,85,86,87,88,89,90,91,92,93,94,95,96,97,98,99,100,101,102,103,104,105,106,107,108] (λz' wy=>∃(k st:Nat) (q' nx:List Nat),z' 12=.int .i64 k/\z' 10=.int .i64 st/\k<=q'.length/\st<=st0+k/\inner c ps[i]? (c.ins.length+1-k) q' k nx st=R0 /\
   CH (λj=>w2.heap.size<=j) wy pA pB c.ins.length q' nx/\Kept (λj=>w2.heap.size<=j) w2 wy) (λz' _=>c.ins.length+1-(intOf (z' 12)).toNat) ?_ ?_
  ·exact⟨0,st0,q,[],rfl,rfl,Nat.zero_le _,Nat.le_refl _,hR0,hT,hk⟩
  intro z' wy hI;obtain⟨k,st,q',nx,HC,vK,pk,aTI,nH,hT,hk⟩:=hI;obtain⟨al,cl,cA,hqs⟩:=hT.read;have hP:=hT.places;have hql:=hP.1.len;have aCI:=Vk.kept hk (by have:=Vk.lt;show ¬w2.heap.size<=w.heap.size;omega)
  have b0:wy.cell? ⟨w.heap.size,0,none⟩=some (.slice a1 c.sets.length c1):=aCI.cell rfl;have b1:wy.cell? ⟨w.heap.size,1,none⟩=some (.slice a2 c.ins.length c2):=aCI.cell rfl;push_cast -dsimp[HC,vK,cA,h8,h9];refine⟨λaw=>?_,λfT=>?_⟩
  ·have Zp:Below w.heap.size w wy:=iL.trans (hk.below iL.size (λ_ h=>by have:=iL.size;omega));have hex:∃(at_:Nat) (x:I3) (bq oq bi oi:Nat),q'[k]?=some at_/\at_<c.ins.length/\c.ins[at_]?=some x/\al=some ⟨bq,oq,none⟩/\a2=some ⟨bi,oi,none⟩/\wy.cell? ⟨bq,oq+k,none⟩=some (.int .i64 at_) /\
     aB wy ⟨bi,oi+at_*3,none⟩ 0 3=some [.int .i64 x.op,.int .i64 x.a,.int .i64 x.b]:=by
    obtain⟨at_,Fj,aMD,_,_⟩:=au (l:=q') (i:=k) (by omega);have aEi:=hP.1.2 at_ aMD;obtain⟨bq,oq,hal,_,aEz⟩:=hqs.get Fj;obtain⟨x,hx,jQ,_,_⟩:=au (l:=c.ins) (i:=at_) aEi;obtain⟨bi,oi,hai,_,aEy⟩:=(vk.below Zp).get hx;exact⟨at_,x,bq,oq,bi,oi,Fj,aEi,hx,hal,hai,by simpa using aEz 0 _ rfl,ax (bV x) 0 (λj u hu=>by simpa using aEy j u hu)⟩
   refine Exists.elim hex λat_ hex=>Exists.elim hex λx hex=>Exists.elim hex λbq hex=>Exists.elim hex λoq hex=>Exists.elim hex λbi hex=>Exists.elim hex λoi hex=>?_;have Fj:=hex.1;have aEi:=hex.2.1;have hx:=hex.2.2.1;have hal:=hex.2.2.2.1;have hai:=hex.2.2.2.2.1;have cq:=hex.2.2.2.2.2.1;have ci:=hex.2.2.2.2.2.2;clear hex;push_cast -dsimp[hal,cq,b1,nn hai,ci];obtain⟨f,hf⟩:∃f,c.ins.length+1-k=f+1:=⟨c.ins.length-k,by omega⟩;have Yh:c.ins.length+1-(k+1)=f:=by omega
   rw[hf]at nH;have aCJ:=dL (hc.ins at_ x hx);have xQ:=hc.next at_ x hx;refine⟨⟨by omega,by omega⟩,⟨by omega,by omega⟩,⟨by omega,by omega⟩,?_⟩;refine ag (z:=[.int .i64 0,.int .i64 0,.int .i64 0]) (by kernel_rfl) ?_;intro wz0 aAJ;push_cast -dsimp;refine aJ (n:=3) (by kernel_rfl) aAJ.aN rfl (by simp) (by simp[Value.oneCell']) ?_;intro wz Ae;have aTK:wz.heap.size=wy.heap.size+1:=by rw[Ae.size,aAJ.size]
   have kz:Kept (λj=>j=wy.heap.size) wy wz:=(Kept.new aAJ).trans Ae.kept (λ_ _ h=>h);have o0:wz.cell? ⟨wy.heap.size,0,none⟩=some (.int .i64 x.op):=Ae.aN.cell rfl;have nu:aM wz wy.heap.size 109 [.int .i64 x.op,.int .i64 x.a,.int .i64 x.b]:=Ae.aN;have vf:CH (λj=>w2.heap.size<=j/\j<wy.heap.size) wz pA pB c.ins.length q' nx:=(hT.narrow (λj h hl=>⟨h,hl⟩)).kept kz (λj h _ hh=>by omega);have hkz:Kept (λj=>w2.heap.size<=j) w2 wz:=hk.trans kz (λi hi h=>by subst h;exact hk.size);have sy:=hk.size;clear Ae aAJ hT kz;push_cast -dsimp[o0];refine⟨λh5=>?_,λh5=>⟨λh2=>?_,λh2=>⟨λh3=>?_,λh3=>⟨λh4=>?_,λh4=>?_⟩⟩⟩⟩
   ·rw[Qo Fj hx h5]at nH;subst nH;dsimp only at iu;unfold sP;rw[hR,<-iu];exact⟨rfl,iL.trans (hkz.below iL.size (λ_ h=>by have:=iL.size;omega))⟩
   ·rw[pF Fj hx h5]at nH;have hr:0<=x.a/\x.a<c.ins.length/\0<=x.b/\x.b<c.ins.length:=by omega
    have ea:x.a=(x.a.toNat:Int):=by omega
    have eb:x.b=(x.b.toNat:Int):=by omega
    have o1:wz.cell? ⟨wy.heap.size,1,none⟩=some (.int .i64 (x.a.toNat:Int)):=by rw[<-ea];exact nu.cell rfl
    push_cast -dsimp[o1];refine aA (oY vf (k:=x.a.toNat) (by omega) (by omega)) ?_;rintro _ w5 ⟨hT5,CS⟩;have aLS:=nu.kept CS (by omega);have o2:w5.cell? ⟨wy.heap.size,2,none⟩=some (.int .i64 (x.b.toNat:Int)):=by rw[<-eb];exact aLS.cell rfl
    push_cast -dsimp[o2];refine aA (oY hT5 (k:=x.b.toNat) (by omega) (by omega)) ?_;rintro _ w6 ⟨CM,xN⟩;have PG:(ew c ps[i]? x at_ q' nx)=(jS (jS q' x.a.toNat) x.b.toNat,nx):=by unfold ew;rw[if_pos h2]
    rw[PG]at nH;have SX:=CS.size;have QE:=CM.narrow (D':=λj=>w2.heap.size<=j) (λj h _=>by omega);have QY:Kept (λj=>w2.heap.size<=j) w2 w6:=(hkz.trans CS (λ_ _ h=>h.1)).trans xN (λi hi h=>by omega);have hlen:q'.length<=(jS (jS q' x.a.toNat) x.b.toNat).length:=Nat.le_trans (tg _ _) (tg _ _);push_cast -dsimp;refine⟨⟨by omega,by omega⟩,⟨k+1,st+1,_,_,by simp,by simp,by omega,by omega,?_,QE,QY⟩,by rw[HC];simp only[intOf];omega⟩;rw[Yh];exact nH
   ·rw[pF Fj hx h5]at nH;have hr:0<=x.a/\x.a<c.ins.length:=by omega
    have ea:x.a=(x.a.toNat:Int):=by omega
    have o1:wz.cell? ⟨wy.heap.size,1,none⟩=some (.int .i64 (x.a.toNat:Int)):=by rw[<-ea];exact nu.cell rfl
    push_cast -dsimp[o1];refine aA (oY vf (k:=x.a.toNat) (by omega) (by omega)) ?_;rintro _ w6 ⟨hT5,CS⟩;have PG:(ew c ps[i]? x at_ q' nx)=(jS q' x.a.toNat,nx):=by unfold ew;rw[if_neg h2,if_pos h3]
    rw[PG]at nH;have QE:=hT5.narrow (D':=λj=>w2.heap.size<=j) (λj h _=>by omega);have QY:Kept (λj=>w2.heap.size<=j) w2 w6:=(hkz.trans CS (λ_ _ h=>h.1));have hlen:q'.length<=(jS q' x.a.toNat).length:=tg _ _;push_cast -dsimp;refine⟨⟨by omega,by omega⟩,⟨k+1,st+1,_,_,by simp,by simp,by omega,by omega,?_,QE,QY⟩,by rw[HC];simp only[intOf];omega⟩;rw[Yh];exact nH
   ·rw[pF Fj hx h5]at nH;have jD:=xQ (.inr h4);refine⟨λFp=>⟨⟨by omega,by omega⟩,?_⟩,λFp=>?_⟩
    ·refine aA (oY vf (k:=at_+1) (by omega) (by omega)) ?_;rintro _ w6 ⟨hT5,CS⟩;have PG:(ew c ps[i]? x at_ q' nx)=(jS q' (at_+1),nx):=by unfold ew;rw[if_neg h2,if_neg h3,if_pos h4,List.getElem?_eq_none (by omega)];rfl
     rw[PG]at nH;have QE:=hT5.narrow (D':=λj=>w2.heap.size<=j) (λj h _=>by omega);have QY:Kept (λj=>w2.heap.size<=j) w2 w6:=(hkz.trans CS (λ_ _ h=>h.1));have hlen:q'.length<=(jS q' (at_+1)).length:=tg _ _;push_cast -dsimp;refine⟨⟨by omega,by omega⟩,⟨k+1,st+1,_,_,by simp,by simp,by omega,by omega,?_,QE,QY⟩,by rw[HC];simp only[intOf];omega⟩;rw[Yh];exact nH
    have PG:(ew c ps[i]? x at_ q' nx)=(q',nx):=by unfold ew;rw[if_neg h2,if_neg h3,if_pos h4,List.getElem?_eq_getElem (show i<ps.length by omega)];rfl
    rw[PG]at nH;have QE:=vf.narrow (D':=λj=>w2.heap.size<=j) (λj h _=>h.1);have QY:=hkz;have hlen:q'.length<=q'.length:=Nat.le_refl _;refine⟨⟨by omega,by omega⟩,⟨k+1,st+1,_,_,by simp,by simp,by omega,by omega,?_,QE,QY⟩,by rw[HC];simp only[intOf];omega⟩;rw[Yh];exact nH
   rw[pF Fj hx h5]at nH;have hop:x.op=1/\0<=x.a/\x.a<c.sets.length:=by omega
   refine bx (λw'=>Kept (λ_=>False) wz w') mixed (by kernel_rfl) (Kept.refl _ _).drew ?_;have sxn:=xQ (.inl hop.1);have ea:x.a=(x.a.toNat:Int):=by omega
   have lB:∀w',Kept (λ_=>False) wz w'->w'.cell? ⟨w.heap.size,0,none⟩=some (.slice a1 c.sets.length c1):=λw' CQ=>CQ.cell ((Vk.kept hkz (by have:=Vk.lt;show ¬w2.heap.size<=w.heap.size;omega)).cell rfl) id
   have lX:∀w',Kept (λ_=>False) wz w'->w'.cell? ⟨wy.heap.size,1,none⟩=some (.int .i64 (x.a.toNat:Int)):=λw' CQ=>CQ.cell (by rw[<-ea];exact nu.cell rfl) id;have kd:Kept (λ_=>False) wz wz.drew:=(Kept.refl _ _).drew;have d1:=lB _ kd;have d2:=lX _ kd;push_cast -dsimp[d1,d2];refine⟨λaQb=>⟨λbU hC=>by rw[lB bU hC];exact rfl,λbU hC=>by rw[lX bU hC];exact rfl,?_⟩,λaNY=>?_⟩
   ·have hBz:Below w.heap.size w wz:=iL.trans (hkz.below iL.size (λ_ h=>by have:=iL.size;omega));have hex:∃(s:List Rg) (u:Value) (bs os:Nat) (p:Int) (bp op:Nat),c.sets[x.a.toNat]?=some s/\a1=some ⟨bs,os,none⟩/\wz.drew.cell? ⟨bs,os+x.a.toNat,none⟩=some u/\Sl X 2 (En bL) wz.drew u s/\ps[i]?=some p/\a3=some ⟨bp,op,none⟩/\wz.drew.cell? ⟨bp,op+i,none⟩=some (.int .i64 p):=by
     obtain⟨s,gA,_,_,_⟩:=au (l:=c.sets) (i:=x.a.toNat) (by omega);obtain⟨p,HI,_,_,_⟩:=au (l:=ps) (i:=i) (by omega);have GG:Sl X 1 (Od X wz) wz (.slice a1 c.sets.length c1) c.sets:=vP.below hBz;obtain⟨bs,os,cs,Kb,_,_,iW,u,rfl,hu⟩:=GG.AQ gA;obtain⟨bp,op,ha3,_,N3⟩:=(Ym.below hBz).get HI;exact⟨s,u,bs,os,p,bp,op,gA,Kb,by simpa using iW 0 u rfl,hu.below (Below.refl _ _).drew,HI,ha3,by simpa using N3 0 _ rfl⟩
    refine Exists.elim hex λs hex=>Exists.elim hex λu hex=>Exists.elim hex λbs hex=>Exists.elim hex λos hex=>Exists.elim hex λp hex=>Exists.elim hex λbp hex=>Exists.elim hex λop hex=>?_;have gA:=hex.1;have Kb:=hex.2.1;have cu:=hex.2.2.1;have hu:=hex.2.2.2.1;have HI:=hex.2.2.2.2.1;have ha3:=hex.2.2.2.2.2.1;have cp:=hex.2.2.2.2.2.2;clear hex;have Yo:=List.mem_of_getElem? gA;have lU:∀w',Kept (λ_=>False) wz w'->w'.cell? ⟨bs,os+x.a.toNat,none⟩=some u:=λw' CQ=>CQ.cell (show wz.cell? _=_ from cu) id
    have lP:∀w',Kept (λ_=>False) wz w'->w'.cell? ⟨bp,op+i,none⟩=some (.int .i64 p):=λw' CQ=>CQ.cell (show wz.cell? _=_ from cp) id
    push_cast -dsimp[nn Kb,nn ha3,cu,cp];refine⟨⟨by omega,by omega⟩,λbU hC=>by rw[lU bU hC];exact rfl,⟨by omega,by omega⟩,λbU hC=>by rw[lP bU hC];exact rfl,?_⟩;refine aA (aCG s (hl s Yo) (hc.set s Yo) p X u wz.drew hu) ?_;rintro _ w6 ⟨rfl,lp⟩;have k6:Kept (λ_=>False) wz w6:=kd.trans (Kept.aO lp (X:=λ_=>False) (λj h1 h2=>absurd h2 (by have:wz.drew.heap.size=wz.heap.size:=rfl;omega))) (λ_ _=>id);have CM:=vf.kept k6 (λ_ _ _=>id);have xN:=hkz.trans k6 (λ_ _ h=>h.elim);have hgs:c.sets.getD x.a.toNat []=s:=by rw[List.getD_eq_getElem?_getD,gA];rfl
    refine⟨k6,?_⟩;cases hH:fK s p with
    | true =>
     push_cast -dsimp;refine⟨⟨by omega,by omega⟩,?_⟩;refine aA (oY CM.swap (k:=at_+1) (by omega) (by omega)) ?_;rintro _ w7 ⟨yL,mP⟩;have PG:(ew c ps[i]? x at_ q' nx)=(q',jS nx (at_+1)):=by unfold ew;rw[if_neg h2,if_neg h3,if_neg h4,HI];dsimp only;rw[hgs,hH,if_pos rfl]
     rw[PG]at nH;have Mm:=k6.size;have QE:=yL.swap.narrow (D':=λj=>w2.heap.size<=j) (λj h _=>by omega);have QY:Kept (λj=>w2.heap.size<=j) w2 w7:=xN.trans mP (λ_ _ h=>h.1);have hlen:q'.length<=q'.length:=Nat.le_refl _;push_cast -dsimp;refine⟨⟨by omega,by omega⟩,⟨k+1,st+1,_,_,by simp,by simp,by omega,by omega,?_,QE,QY⟩,by rw[HC];simp only[intOf];omega⟩;rw[Yh];exact nH
    | false =>
     push_cast -dsimp;have PG:(ew c ps[i]? x at_ q' nx)=(q',nx):=by unfold ew;rw[if_neg h2,if_neg h3,if_neg h4,HI];dsimp only;rw[hgs,hH];rfl
     rw[PG]at nH;have QE:=CM.narrow (D':=λj=>w2.heap.size<=j) (λj h _=>h.1);have QY:=xN;have hlen:q'.length<=q'.length:=Nat.le_refl _;refine⟨⟨by omega,by omega⟩,⟨k+1,st+1,_,_,by simp,by simp,by omega,by omega,?_,QE,QY⟩,by rw[HC];simp only[intOf];omega⟩;rw[Yh];exact nH
   have PG:(ew c ps[i]? x at_ q' nx)=(q',nx):=by unfold ew;rw[if_neg h2,if_neg h3,if_neg h4,List.getElem?_eq_none (by omega)]
   rw[PG]at nH;have QE:=(vf.kept kd (λ_ _ _=>id)).narrow (D':=λj=>w2.heap.size<=j) (λj h _=>h.1);have QY:=hkz.trans kd (λ_ _ h=>h.elim);have hlen:q'.length<=q'.length:=Nat.le_refl _;refine⟨⟨by omega,by omega⟩,⟨k+1,st+1,_,_,by simp,by simp,by omega,by omega,?_,QE,QY⟩,by rw[HC];simp only[intOf];omega⟩;rw[Yh];exact nH
  have hn:q'[k]?=none:=List.getElem?_eq_none (by omega);obtain⟨f,hf⟩:∃f,c.ins.length+1-k=f+1:=⟨c.ins.length-k,by omega⟩;rw[hf,Qn hn]at nH;subst nH;dsimp only at iu;have Zp:Below w.heap.size w wy:=iL.trans (hk.below iL.size (λ_ h=>by have:=iL.size;omega));have yP:(ps.length<=i\/nx=[])->Value.tuple #[.bool false,.int .i64 st,.nilIface]=sP c ps:=λh=>by
   rw[if_pos h]at iu;unfold sP;rw[hR,<-iu];rfl
  refine⟨λaQe=>?_,λaQa=>⟨yP (.inl (by omega)),Zp⟩⟩;refine Exists.elim hT.swap.read λan hrd=>Exists.elim hrd λcn hrd=>?_;have cB:=hrd.1;clear hrd;push_cast -dsimp[cB];refine⟨λh0=>⟨yP (.inr (List.eq_nil_of_length_eq_zero (by omega))),Zp⟩,λh0=>?_⟩;have jD:¬(ps.length<=i\/nx=[]):=by
   rintro(h|h)
   ·omega
   subst h;exact h0 rfl
  rw[if_neg jD]at iu;refine aA (Mv hT (by omega)) ?_;rintro _ w7 ⟨yL,mP⟩;push_cast -dsimp;exact⟨⟨by omega,by omega⟩,⟨i+1,st,pB,pA,nx,rfl,rfl,rfl,rfl,by omega,by omega,iu,yL.swap,hk.trans mP (λ_ _ h=>h)⟩,by rw[Zm];simp only[intOf];omega⟩
end Go.Proofs.YtledlfbbebodgaaGreatDoor
end
