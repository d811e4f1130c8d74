/- Texts of this claim, merged: Op4, Pop, Pv, Op5, Nev2, RowO, RowE, Match, At0, Rev. -/
import Derived.Test.YtemjejfpadnljaaGreatDoorM11
import Derived.Test.YtemjejfpadnljaaGreatDoorM10
set_option maxRecDepth 100000
set_option linter.unusedSimpArgs false
set_option linter.unusedVariables false
set_option maxHeartbeats 8000000
section
namespace Go.Proofs.YtemjejfpadnljaaGreatDoor
open Go.Vc Go.Proofs Go.RowKit Cae
attribute [local irreducible] cg aa ag aX runK ar Sl Vc.Own vc aQ br a7
def Oo (c:aD)(is:List Bool)(i:Nat):List Nat:=(List.range (c.ins.length+1)).map λj=>if j<i then fT c is j else 0
def D7 (c:aD)(is:List Bool)(i:Nat):List Bool:=(List.range c.ins.length).map λj=>if j<i then eB c is j else decide (is[j]?=some true)
def rj (l:List Nat):List Value:=l.map λ(n:Nat)=>Value.int .i64 (n:Int)
theorem vG {c:aD}{is:List Bool}{i j:Nat}(h:j<c.ins.length+1):(Oo c is i)[j]?=some (if j<i then fT c is j else 0):=by simp[Oo,h]
theorem nG {c:aD}{is:List Bool}{i j:Nat}(h:j<c.ins.length):(D7 c is i)[j]?=some (if j<i then eB c is j else decide (is[j]?=some true)):=by simp[D7,h]
theorem gB (c:aD)(is:List Bool)(i:Nat):(D7 c is i).length=c.ins.length:=by simp[D7]
theorem rW (c:aD)(is:List Bool)(i:Nat):(Oo c is i).length=c.ins.length+1:=by simp[Oo]
theorem Y7 (c:aD)(is:List Bool):rj (Oo c is 0)=List.replicate (c.ins.length+1) (.int .i64 0):=by
 apply List.ext_getElem?;intro j;unfold rj;rw[List.getElem?_map,List.getElem?_replicate];by_cases h:j<c.ins.length+1
 ·rw[vG h,if_pos h];rfl
 rw[List.getElem?_eq_none (by rw[rW];omega),if_neg h];rfl
theorem Wj {c:aD}{is:List Bool}(h:is.length=c.ins.length):D7 c is 0=is:=by
 apply List.ext_getElem?;intro j;by_cases hj:j<c.ins.length
 ·rw[nG hj,if_neg (by omega),List.getElem?_eq_getElem (by omega)];cases is[j]<;>simp
 rw[List.getElem?_eq_none (by rw[gB];omega),List.getElem?_eq_none (by omega)]
theorem KG {c:aD}{is:List Bool}{i:Nat}(h:i<c.ins.length+1):(rj (Oo c is i)).set i (.int .i64 (fT c is i:Int))=rj (Oo c is (i+1)):=by
 apply List.ext_getElem?;intro j;unfold rj;rw[List.getElem?_set,List.getElem?_map,List.getElem?_map,List.length_map,rW];by_cases hj:j<c.ins.length+1
 ·rw[vG hj,vG hj];by_cases e:i=j
  ·subst e;rw[if_pos rfl,if_pos h,if_pos (by omega)];rfl
  rw[if_neg e];by_cases h1:j<i
  ·rw[if_pos h1,if_pos (by omega)]
  rw[if_neg h1,if_neg (by omega)]
 rw[List.getElem?_eq_none (by rw[rW];omega),List.getElem?_eq_none (by rw[rW];omega),if_neg (by omega)]
theorem Wi {c:aD}{is:List Bool}{i:Nat}(h:i<c.ins.length)(hs:nL c is i=true):(xJ (D7 c is i)).set i (.bool false)=xJ (D7 c is (i+1)):=by
 apply List.ext_getElem?;intro j;unfold xJ;rw[List.getElem?_set,List.getElem?_map,List.getElem?_map,List.length_map,gB];by_cases hj:j<c.ins.length
 ·rw[nG hj,nG hj];by_cases e:i=j
  ·subst e;rw[if_pos rfl,if_pos h,if_pos (by omega)];unfold eB;rw[hs];simp
  rw[if_neg e];by_cases h1:j<i
  ·rw[if_pos h1,if_pos (by omega)]
  rw[if_neg h1,if_neg (by omega)]
 rw[List.getElem?_eq_none (by rw[gB];omega),List.getElem?_eq_none (by rw[gB];omega),if_neg (by omega)]
theorem uW {c:aD}{is:List Bool}{i:Nat}(h:i<c.ins.length)(hs:nL c is i=false):D7 c is (i+1)=D7 c is i:=by
 apply List.ext_getElem?;intro j;by_cases hj:j<c.ins.length
 ·rw[nG hj,nG hj];by_cases e:i=j
  ·subst e;rw[if_pos (by omega),if_neg (by omega)];unfold eB;rw[hs];simp
  by_cases h1:j<i
  ·rw[if_pos h1,if_pos (by omega)]
  rw[if_neg h1,if_neg (by omega)]
 rw[List.getElem?_eq_none (by rw[gB];omega),List.getElem?_eq_none (by rw[gB];omega)]
theorem q8 {is is':List Bool}(hl:is.length=is'.length):∀(f k:Nat),(∀j,k<=j->is[j]?=is'[j]?)->bO is f k=bO is' f k
 | 0,k,h=>by rw[bO,bO,hl]
 | f+1,k,h=>by
  rw[bO,bO,h k (Nat.le_refl _),hl,q8 hl f (k+1) (λj hj=>h j (by omega))]
theorem Rm {c:aD}{is:List Bool}(hl:is.length=c.ins.length){i:Nat}:q9 (D7 c is i) i=q9 is i:=by
 unfold q9;rw[gB,<-hl];apply q8 (by rw[gB,hl]);intro j hj;by_cases h:j<c.ins.length
 ·rw[nG h,if_neg (by omega),List.getElem?_eq_getElem (by omega)];cases is[j]<;>simp
 rw[List.getElem?_eq_none (by rw[gB];omega),List.getElem?_eq_none (by omega)]
theorem yy (k:Nat):∀(used:List Nat) (n:Nat),eA k ((used.zipIdx n).map λp=>(p.1,Value.int .i64 (p.2:Int)))=if k∈used then some (.int .i64 ((Qx k used+n:Nat):Int)) else none
 | [],n=>rfl
 | a::l,n=>by
  rw[List.zipIdx_cons,List.map_cons,eA,Qx];by_cases h:k=a
  ·subst h;simp
  rw[if_neg h,if_neg (Ne.symm h),yy k l (n+1)];simp only[List.mem_cons,h,false_or];congr 3;omega
theorem Sv (l:List Nat)(k:Nat):((l++[k]).zipIdx.map λp=>(p.1,Value.int .i64 (p.2:Int)))=(l.zipIdx.map λp=>(p.1,Value.int .i64 (p.2:Int)))++[(k,Value.int .i64 (l.length:Int))]:=by
 rw[List.zipIdx_append,List.map_append];simp
theorem aA8 (c:aD)(hc:CR c)(X:Nat->Prop)(v:Value)(w:World)(hX:∀b,X b->b<w.heap.size)(hv:cL X w v c)(Ic:jq c) :
  ar Tryz.prog 113 [v] w λr w'=>(∃is sv iv,r=.agg #[sv,iv]/\sM c is/\dp (λb=>X b\/iv.ownBlock=some b) w' sv (b8 c is).sets/\Vc.Own w.heap.size 164 3 bN w' iv (b8 c is).ins)/\Below w.heap.size w w':=by
 have hm:=hc.many;have sg:=hc.one;have Qq:=hc.sets;have Nw:cL (λ_=>False) w v c:=hv.mono (λ_ _ _=>rfl) (λ_ h=>h.elim);obtain⟨sv,iv,rfl,so,tS⟩:=hv;obtain⟨a,cp,rfl,Qc⟩:=tS.shape;have GH:=so.shape;obtain⟨sa,sc,rfl,CH⟩:=GH;refine gh Tryz.func113 rfl (by kernel_rfl) [.cell 2 127] rfl ?_;push_cast -dsimp(maxSteps:=4000000) [Tryz.ntmps113];refine aR ?_;intro w1 aV;have aV:mg w w1 127 [.slice sa c.sets.length sc,.slice a c.ins.length cp]:=aV;have ph:=aV.size;push_cast -dsimp;refine ao (z:=[.slice none 0 0,.slice none 0 0]) (by kernel_rfl) ?_;intro w2 bH;have BV:=bH.size;have dt:Below w.heap.size w w2:=aV.below.trans (bH.below.mono (by omega));have hC2:aL w2 w.heap.size 127 [.slice sa c.sets.length sc,.slice a c.ins.length cp]:=aV.aM.below bH.below (by omega);have xz:aL w2 w1.heap.size 127 [.slice none 0 0,.slice none 0 0]:=bH.aM;have q2:=hC2.aB;simp only[List.length_cons,List.length_nil,Nat.zero_add,Nat.reduceAdd]at q2;push_cast -dsimp[q2];refine aA (SH c hc _ w2 (Nw.below dt)) ?_;rintro _ w3 ⟨⟨is,sb,rfl,hS3,hCl,uP⟩,gV⟩;have Kf:=gV.size;have hC3:=hC2.below gV (by omega);have Zy:=xz.below gV (by omega);have c3:w3.cell? ⟨w.heap.size,1,none⟩=some (.slice a c.ins.length cp):=hC3.cell rfl;have oh:=hS3.lt;push_cast -dsimp[c3];refine⟨⟨by omega,by omega⟩,?_⟩;have aHu:((c.ins.length:Int)+1)=((c.ins.length+1:Nat):Int):=by omega
 rw[aHu];refine xQ (z:=.int .i64 0) bm (by kernel_rfl) rfl (by omega) (by omega) ?_;intro w4 ae;have KB:=ae.size;have hC4:=hC3.below ae.below (by omega);have hR4:=Zy.below ae.below (by omega);have hS4:=hS3.below ae.below (by omega);have hT4:aL w4 w3.heap.size 3 (rj (Oo c is 0)):=by rw[Y7];exact ae.aM
 have nd:Below w.heap.size w w4:=dt.trans ((gV.mono (by omega)).trans (ae.below.mono (by omega)));have c4:w4.cell? ⟨w.heap.size,1,none⟩=some (.slice a c.ins.length cp):=hC4.cell rfl;push_cast -dsimp[c4];refine aK [5,6,7,8,25,26,27,28,29,30,31,32,33,34,35,36,37,38,39,40,41,42,43,44,45,46,47,48,49,50,51,52,53,54,55,56,57,58,59,60,61,62,63,64,65] (λz wx=>∃(i:Nat),z 25=.int .i64 i/\z 5=.int .i64 (fT c is i:Int)/\i<=c.ins.length/\aL wx sb 4 (xJ (D7 c is i))/\aL wx w3.heap.size 3 (rj (Oo c is i)) /\
   aL wx w.heap.size 127 [.slice sa c.sets.length sc,.slice a c.ins.length cp]/\aL wx w1.heap.size 127 [.slice none 0 0,.slice none 0 0]/\Below w.heap.size w wx/\w4.heap.size<=wx.heap.size) (λz _=>c.ins.length-(intOf (z 25)).toNat) ?_ ?_
 ·exact⟨0,rfl,rfl,Nat.zero_le _,by rw[Wj hCl.len];exact hS4,hT4,hC4,hR4,nd,Nat.le_refl _⟩
 intro z wx hI;obtain⟨i,Vg,h5,hi,hSx,hTx,Zo,vf,eW,yS⟩:=hI;push_cast -dsimp[Vg,h5];refine⟨λaj=>?_,λeo=>?_⟩
 ·have hg:=ah (l:=c.ins) (i:=i) (by omega);obtain⟨x,hx,mm,_⟩:=hg;have hg:=(tS.below eW).get hx;obtain⟨ib,io,rfl,_,hic⟩:=hg;have ci:aB wx ⟨ib,io+i*3,none⟩ 0 3=some [.int .i64 x.op,.int .i64 x.a,.int .i64 x.b]:=ak (bN x) 0 (λj u hu=>by simpa using hic j u hu);push_cast -dsimp[ci];refine⟨⟨by omega,by omega⟩,?_⟩;refine ao (z:=[.int .i64 0,.int .i64 0,.int .i64 0]) (by kernel_rfl) ?_;intro w5 cH;have Mq:=cH.size;push_cast -dsimp;refine aH (n:=3) (by kernel_rfl) cH.aM rfl (by simp) (by simp[Value.oneCell']) ?_;intro w6 bQ;have KC:=bQ.size;have hX6:aL w6 wx.heap.size 164 [.int .i64 x.op,.int .i64 x.a,.int .i64 x.b]:=bQ.aM;have k6:Kept (λj=>j=wx.heap.size) wx w6:=(Kept.new cH).trans bQ.kept (λ_ _ h=>h);have hS6:=hSx.kept k6 (by omega);have Bv:=hTx.kept k6 (by omega);have Vh:=Zo.kept k6 (by omega);have Yp:=vf.kept k6 (by omega);have mI:Below w.heap.size w w6:=eW.trans (k6.below (by omega) (λ_ h=>by omega));push_cast -dsimp;refine⟨⟨by omega,by omega⟩,?_⟩;refine aC Bv (by unfold rj;rw[List.length_map,rW];omega) rfl ?_;intro w7 fK;have yA:=fK.aM;rw[KG (by omega)]at yA;have KD:=fK.size;have Na:=hS6.kept fK.kept (by omega);have Nb:=hX6.kept fK.kept (by omega);have TH:=Vh.kept fK.kept (by omega);have IS:=Yp.kept fK.kept (by omega);have kr:Below w.heap.size w w7:=mI.trans (fK.kept.below (by omega) (λ_ h=>by omega));push_cast -dsimp;refine ba (λw'=>w'=w7.drew) mixed (by kernel_rfl) rfl ?_;have t0:w7.drew.cell? ⟨wx.heap.size,0,none⟩=some (.int .i64 x.op):=Nb.drew.cell rfl
  have t1:w7.drew.cell? ⟨wx.heap.size,1,none⟩=some (.int .i64 x.a):=Nb.drew.cell rfl;have CA:∃bi,decide (is[i]?=some true)=bi:=⟨_,rfl⟩;obtain⟨bi,HH⟩:=CA;have b0:w7.drew.cell? ⟨sb,i,none⟩=some (.bool bi):=Na.drew.cell (by unfold xJ;rw[List.getElem?_map,nG (by omega),if_neg (by omega),HH];rfl);have aAP:nL c is i=decide (x.op=3/\(q9 is i:Int)=x.a/\(i:Int)<x.a):=by unfold nL;rw[hx]
  push_cast -dsimp[t0,t1];refine⟨λbE hC=>by rw[hC];exact fX Nb.drew rfl,λh3=>?_,λh3=>?_⟩
  ·refine aA (XQ (D7 c is i) (by rw[gB];omega) i (λ_=>False) _ w7.drew ?_ (by rw[gB];omega)) ?_
   ·exact aKe (f:=Value.bool) Na.drew (gB c is i).symm (by rw[gB];omega)
   rintro _ w8 ⟨rfl,rfl⟩;rw[Rm hCl.len];refine⟨rfl,?_⟩;by_cases HJ:(i:Int)<x.a
   ·have he:decide ((i:Int)<x.a)=true:=decide_eq_true HJ;push_cast -dsimp[t0,t1,he];refine⟨λbE hC=>by rw[hC];exact fX Nb.drew rfl,λjC=>⟨λbE hC=>by rw[hC];exact fX Nb.drew rfl,?_⟩,λjC=>?_⟩
    ·have Im:nL c is i=true:=by rw[aAP];exact decide_eq_true ⟨h3,jC,HJ⟩
     have CD:eB c is i=false:=by unfold eB;rw[Im];simp
     have rh:fT c is (i+1)=fT c is i:=by rw[fT,if_neg (by rw[CD];simp)]
     have aIl:aL w7.drew sb 4 (xJ (D7 c is i)):=Na.drew;have kE:∀w8,yV w7.drew w8 sb 4 ((xJ (D7 c is i)).set i (.bool false))->aL w8 sb 4 (xJ (D7 c is (i+1)))/\aL w8 w3.heap.size 3 (rj (Oo c is (i+1)))/\aL w8 w.heap.size 127 [.slice sa c.sets.length sc,.slice (some ⟨ib,io,none⟩) c.ins.length cp]/\aL w8 w1.heap.size 127 [.slice none 0 0,.slice none 0 0]/\Below w.heap.size w w8/\w4.heap.size<=w8.heap.size:=λw8 nf=>by
      have sz8:w8.heap.size=w7.heap.size:=nf.size;refine⟨by rw[<-Wi (by omega) Im];exact nf.aM,yA.drew.kept nf.kept (by omega),TH.drew.kept nf.kept (by omega),IS.drew.kept nf.kept (by omega),kr.drew.trans (nf.kept.below (by show w.heap.size<=w7.heap.size;omega) (λ_ h=>by omega)),by omega⟩
     cases bi with
     | true =>
      push_cast -dsimp[b0];refine⟨⟨by omega,by omega⟩,⟨by omega,by omega⟩,?_⟩;refine aC aIl (by unfold xJ;rw[List.length_map,gB];omega) rfl ?_;intro w8 nf;have hf:=kE w8 nf;obtain⟨f1,f2,f3,f4,f5,f6⟩:=hf;push_cast -dsimp;exact⟨⟨by omega,by omega⟩,⟨i+1,rfl,by rw[rh],by omega,f1,f2,f3,f4,f5,f6⟩,by rw[Vg];simp only[intOf];omega⟩
     | false =>
      push_cast -dsimp[b0];refine⟨⟨by omega,by omega⟩,⟨by omega,by omega⟩,?_⟩;refine aC aIl (by unfold xJ;rw[List.length_map,gB];omega) rfl ?_;intro w8 nf;have hf:=kE w8 nf;obtain⟨f1,f2,f3,f4,f5,f6⟩:=hf;push_cast -dsimp;exact⟨⟨by omega,by omega⟩,⟨i+1,rfl,by rw[rh],by omega,f1,f2,f3,f4,f5,f6⟩,by rw[Vg];simp only[intOf];omega⟩
    have Im:nL c is i=false:=by rw[aAP];exact decide_eq_false λh=>jC h.2.1
    have CD:eB c is i=bi:=by unfold eB;rw[Im,HH];simp
    have Vp:aL w7.drew sb 4 (xJ (D7 c is (i+1))):=by rw[uW (by omega) Im];exact Na.drew
    cases bi with
    | true =>
     have rh:fT c is (i+1)=fT c is i+1:=by rw[fT,if_pos CD]
     push_cast -dsimp[b0];have hle:=kW (c:=c) (is:=is) i;exact⟨⟨by omega,by omega⟩,⟨by omega,by omega⟩,⟨by omega,by omega⟩,⟨i+1,rfl,by rw[rh];rfl,by omega,Vp,yA.drew,TH.drew,IS.drew,kr.drew,by show w4.heap.size<=w7.heap.size;omega⟩,by rw[Vg];simp only[intOf];omega⟩
    | false =>
     have rh:fT c is (i+1)=fT c is i:=by rw[fT,if_neg (by rw[CD];simp)]
     push_cast -dsimp[b0];exact⟨⟨by omega,by omega⟩,⟨by omega,by omega⟩,⟨i+1,rfl,by rw[rh],by omega,Vp,yA.drew,TH.drew,IS.drew,kr.drew,by show w4.heap.size<=w7.heap.size;omega⟩,by rw[Vg];simp only[intOf];omega⟩
   have he:decide ((i:Int)<x.a)=false:=decide_eq_false HJ;have Im:nL c is i=false:=by rw[aAP];exact decide_eq_false λh=>HJ h.2.2
   push_cast -dsimp[t0,t1,he];refine⟨λbE hC=>by rw[hC];exact fX Nb.drew rfl,λjC=>⟨λbE hC=>by rw[hC];exact fX Nb.drew rfl,?_⟩,λjC=>?_⟩;·
    have CD:eB c is i=bi:=by unfold eB;rw[Im,HH];simp
    have Vp:aL w7.drew sb 4 (xJ (D7 c is (i+1))):=by rw[uW (by omega) Im];exact Na.drew
    cases bi with
    | true =>
     have rh:fT c is (i+1)=fT c is i+1:=by rw[fT,if_pos CD]
     push_cast -dsimp[b0];have hle:=kW (c:=c) (is:=is) i;exact⟨⟨by omega,by omega⟩,⟨by omega,by omega⟩,⟨by omega,by omega⟩,⟨i+1,rfl,by rw[rh];rfl,by omega,Vp,yA.drew,TH.drew,IS.drew,kr.drew,by show w4.heap.size<=w7.heap.size;omega⟩,by rw[Vg];simp only[intOf];omega⟩
    | false =>
     have rh:fT c is (i+1)=fT c is i:=by rw[fT,if_neg (by rw[CD];simp)]
     push_cast -dsimp[b0];exact⟨⟨by omega,by omega⟩,⟨by omega,by omega⟩,⟨i+1,rfl,by rw[rh],by omega,Vp,yA.drew,TH.drew,IS.drew,kr.drew,by show w4.heap.size<=w7.heap.size;omega⟩,by rw[Vg];simp only[intOf];omega⟩
   ·
    have CD:eB c is i=bi:=by unfold eB;rw[Im,HH];simp
    have Vp:aL w7.drew sb 4 (xJ (D7 c is (i+1))):=by rw[uW (by omega) Im];exact Na.drew
    cases bi with
    | true =>
     have rh:fT c is (i+1)=fT c is i+1:=by rw[fT,if_pos CD]
     push_cast -dsimp[b0];have hle:=kW (c:=c) (is:=is) i;exact⟨⟨by omega,by omega⟩,⟨by omega,by omega⟩,⟨by omega,by omega⟩,⟨i+1,rfl,by rw[rh];rfl,by omega,Vp,yA.drew,TH.drew,IS.drew,kr.drew,by show w4.heap.size<=w7.heap.size;omega⟩,by rw[Vg];simp only[intOf];omega⟩
    | false =>
     have rh:fT c is (i+1)=fT c is i:=by rw[fT,if_neg (by rw[CD];simp)]
     push_cast -dsimp[b0];exact⟨⟨by omega,by omega⟩,⟨by omega,by omega⟩,⟨i+1,rfl,by rw[rh],by omega,Vp,yA.drew,TH.drew,IS.drew,kr.drew,by show w4.heap.size<=w7.heap.size;omega⟩,by rw[Vg];simp only[intOf];omega⟩
  have Im:nL c is i=false:=by rw[aAP];exact decide_eq_false λh=>h3 h.1
  have CD:eB c is i=bi:=by unfold eB;rw[Im,HH];simp
  have Vp:aL w7.drew sb 4 (xJ (D7 c is (i+1))):=by rw[uW (by omega) Im];exact Na.drew
  cases bi with
  | true =>
   have rh:fT c is (i+1)=fT c is i+1:=by rw[fT,if_pos CD]
   push_cast -dsimp[b0];have hle:=kW (c:=c) (is:=is) i;exact⟨⟨by omega,by omega⟩,⟨by omega,by omega⟩,⟨by omega,by omega⟩,⟨i+1,rfl,by rw[rh];rfl,by omega,Vp,yA.drew,TH.drew,IS.drew,kr.drew,by show w4.heap.size<=w7.heap.size;omega⟩,by rw[Vg];simp only[intOf];omega⟩
  | false =>
   have rh:fT c is (i+1)=fT c is i:=by rw[fT,if_neg (by rw[CD];simp)]
   push_cast -dsimp[b0];exact⟨⟨by omega,by omega⟩,⟨by omega,by omega⟩,⟨i+1,rfl,by rw[rh],by omega,Vp,yA.drew,TH.drew,IS.drew,kr.drew,by show w4.heap.size<=w7.heap.size;omega⟩,by rw[Vg];simp only[intOf];omega⟩
 have mc:i=c.ins.length:=by omega
 subst mc;have c1:wx.cell? ⟨w.heap.size,1,none⟩=some (.slice a c.ins.length cp):=Zo.cell rfl;push_cast -dsimp[c1];refine⟨⟨by omega,by omega⟩,?_⟩;refine aC hTx (by unfold rj;rw[List.length_map,rW];omega) rfl ?_;intro w5 cH;have Mq:=cH.size;have hT5:=cH.aM;rw[KG (by omega)]at hT5;have hS5:=hSx.kept cH.kept (by omega);have hC5:=Zo.kept cH.kept (by omega);have hR5:=vf.kept cH.kept (by omega);have mj:Below w.heap.size w w5:=eW.trans (cH.kept.below (by omega) (λ_ h=>by omega));push_cast -dsimp;refine ao (z:=[.slice none 0 0,.slice none 0 0]) (by kernel_rfl) ?_;intro w6 bQ;have KC:=bQ.size;have Bv:=hT5.below bQ.below (by omega);have hS6:=hS5.below bQ.below (by omega);have Vh:=hC5.below bQ.below (by omega);have Yp:=hR5.below bQ.below (by omega);have Fo:aL w6 w5.heap.size 127 [.slice none 0 0,.slice none 0 0]:=bQ.aM;have mI:Below w.heap.size w w6:=mj.trans (bQ.below.mono (by omega));push_cast -dsimp;refine A6 (key:=λn:Nat=>Value.int .i64 (n:Int)) ?_;intro w7 hM7 Q0 KD;have yA:=Bv.below Q0 (by omega);have Na:=hS6.below Q0 (by omega);have TH:=Vh.below Q0 (by omega);have IS:=Yp.below Q0 (by omega);have Zv:=Fo.below Q0 (by omega);have kr:Below w.heap.size w w7:=mI.trans (Q0.mono (by omega));have c7:w7.cell? ⟨w.heap.size,1,none⟩=some (.slice a c.ins.length cp):=TH.cell rfl;push_cast -dsimp[c7];have pq:=dp.values so;obtain⟨us,aOm,aFk,aFl⟩:=pq
 refine aK [11,12,13,14,76,77,78,79,80,81,82,83,84,85,86,87,88,89,90,91,92,93,94,95,96,97,98,99,100,101,102,103,104,105,106,107,108,109,110,111,112,113,114,115,116,117,118,119,120,121,122,123,124,125,126,127,128,129,130,131,132,133,134,135,136,137,138,139,140,141,142,143,144,145,146,147] (λz wx=>∃(i:Nat) (ov iv:Value),z 76=.int .i64 i/\i<=c.ins.length/\aL wx w5.heap.size 127 [ov,iv]/\Vc.Own w4.heap.size 139 1 j9 wx ov ((aZ c is i).used.map λa=>us.getD a ⟨none,0,0⟩)/\Vc.Own w4.heap.size 164 3 bN wx iv (aZ c is i).ins /\
   mf (λn:Nat=>Value.int .i64 (n:Int)) wx w6.heap.size ((aZ c is i).used.zipIdx.map λp=>(p.1,.int .i64 (p.2:Int)))/\aL wx sb 4 (xJ (D7 c is c.ins.length))/\aL wx w3.heap.size 3 (rj (Oo c is (c.ins.length+1))) /\
   aL wx w.heap.size 127 [.slice sa c.sets.length sc,.slice a c.ins.length cp]/\aL wx w1.heap.size 127 [.slice none 0 0,.slice none 0 0]/\Below w.heap.size w wx/\w7.heap.size<=wx.heap.size /\
   (∀g,ov.ownBlock=some g->w7.heap.size<=g)/\(∀g,iv.ownBlock=some g->w7.heap.size<=g)) (λz _=>c.ins.length-(intOf (z 76)).toNat) ?_ ?_
 ·exact⟨0,_,_,rfl,Nat.zero_le _,Zv,Vc.Own.nil (enc:=j9) _ _ (λ_=>rfl) _,Vc.Own.nil (enc:=bN) _ _ (λ_=>rfl) _,hM7,Na,yA,TH,IS,kr,Nat.le_refl _,λg h=>by simp[Value.ownBlock]at h,λg h=>by simp[Value.ownBlock]at h⟩
 intro z wx hI;obtain⟨i,ov,iv',h76,hi,QV,ny,jC,Bt,hSx,hTx,Zo,vf,eW,yS,gG,Ii⟩:=hI;push_cast -dsimp[h76];refine⟨λaj=>?_,λeo=>?_⟩
 ·have hg:=ah (l:=c.ins) (i:=i) (by omega);obtain⟨x,hx,mm,_⟩:=hg;have hg:=(tS.below eW).get hx;obtain⟨ib,io,rfl,_,hic⟩:=hg;have ci:aB wx ⟨ib,io+i*3,none⟩ 0 3=some [.int .i64 x.op,.int .i64 x.a,.int .i64 x.b]:=ak (bN x) 0 (λj u hu=>by simpa using hic j u hu);push_cast -dsimp[ci];refine⟨⟨by omega,by omega⟩,?_⟩;refine ao (z:=[.int .i64 0,.int .i64 0,.int .i64 0]) (by kernel_rfl) ?_;intro wa fu;have T0:=fu.size;push_cast -dsimp;refine aH (n:=3) (by kernel_rfl) fu.aM rfl (by simp) (by simp[Value.oneCell']) ?_;intro wb dE;have Ms:=dE.size;have IU:aL wb wx.heap.size 164 [.int .i64 x.op,.int .i64 x.a,.int .i64 x.b]:=dE.aM;have kb:Kept (λj=>j=wx.heap.size) wx wb:=(Kept.new fu).trans dE.kept (λ_ _ h=>h);have hSb:=hSx.kept kb (by omega);have hTb:=hTx.kept kb (by omega);have hCb:=Zo.kept kb (by omega);have N8:=vf.kept kb (by omega);have hOb:=QV.kept kb (by omega);have Zs:=Bt.kept kb (by omega);have uP:=ny.aJ kb (λg hg h=>by have:=ny.block g hg;omega);have mJ:=jC.aJ kb (λg hg h=>by have:=jC.block g hg;omega);have j6:Below w.heap.size w wb:=eW.trans (kb.below (by omega) (λ_ h=>by omega));have CA:∃bi,eB c is i=bi:=⟨_,rfl⟩;obtain⟨bi,HH⟩:=CA;have b0:wb.cell? ⟨sb,i,none⟩=some (.bool bi):=hSb.cell (by unfold xJ;rw[List.getElem?_map,nG (by omega),if_pos (by omega),HH];rfl);have t0:wb.cell? ⟨wx.heap.size,0,none⟩=some (.int .i64 x.op):=IU.cell rfl;cases bi with
  | false =>
   have cI:aZ c is (i+1)=aZ c is i:=by rw[aZ];unfold u7;rw[hx];dsimp only;rw[if_neg (by rw[HH];simp)]
   push_cast -dsimp[b0];rw[<-cI]at uP mJ Zs;exact⟨⟨by omega,by omega⟩,⟨by omega,by omega⟩,⟨i+1,ov,iv',rfl,by omega,hOb,uP,mJ,Zs,hSb,hTb,hCb,N8,j6,by omega,gG,Ii⟩,by rw[h76];simp only[intOf];omega⟩
  | true =>
   have cI:aZ c is (i+1)=⟨pj (aZ c is i).used x,(aZ c is i).ins++[jW c is (aZ c is i).used x]⟩:=by rw[aZ];unfold u7;rw[hx];dsimp only;rw[if_pos HH]
   push_cast -dsimp[b0,t0];refine⟨⟨by omega,by omega⟩,λh1=>?_,λh1=>⟨λh3=>?_,λh3=>⟨λh2=>?_,λh2=>?_⟩⟩⟩
   ·have hop:x.op≠2/\x.op≠3/\x.op≠4/\x.op≠5:=by omega
    have hj:=iV hc hx hop;have Fp:x.a=((x.a.toNat:Nat):Int):=by rw[Int.toNat_of_nonneg hj.2.1]
    have t1:wb.cell? ⟨wx.heap.size,1,none⟩=some (.int .i64 x.a):=IU.cell rfl;have AD:Value.int .i64 x.a=(λn:Nat=>Value.int .i64 (n:Int)) x.a.toNat:=by dsimp only;rw[<-Fp]
    have has:=yy x.a.toNat (aZ c is i).used 0;push_cast -dsimp[t1];by_cases yG:x.a.toNat∈(aZ c is i).used
    ·rw[if_pos yG]at has;refine oz (kt:=3) (et:=3) (z:=.int .i64 0) (by kernel_rfl) (ME (by kernel_rfl)) (by kernel_rfl) Zs AD has ?_;push_cast -dsimp;refine aC IU (by simp) rfl ?_;intro wc jV;have ZA:=jV.size;have CX:aL wc wx.heap.size 164 (bN (jW c is (aZ c is i).used x)):=by
      unfold jW;rw[if_pos h1,if_pos yG];exact jV.aM
     have Ez:pj (aZ c is i).used x=(aZ c is i).used:=by unfold pj;rw[if_pos h1,if_pos yG]
     rw[Ez]at cI;have hk:=jV.kept;have Zz:=hSb.kept hk (by omega);have hTc:=hTb.kept hk (by omega);have Zm:=hCb.kept hk (by omega);have Bu:=N8.kept hk (by omega);have xy:=hOb.kept hk (by omega);have Zt:=Zs.kept hk (by omega);have CH:=uP.aJ hk (λg hg h=>by have:=ny.block g hg;omega);have vr:=mJ.aJ hk (λg hg h=>by have:=jC.block g hg;omega);have vh:Below w.heap.size w wc:=j6.trans (hk.below (by omega) (λ_ h=>by omega));have se:=gG;have Np:∃G9,G9=ov:=⟨_,rfl⟩;obtain⟨G9,rfl⟩:=Np;have Cg:∃y,jW c is (aZ c is i).used x=y:=⟨_,rfl⟩;obtain⟨y,hy⟩:=Cg;rw[hy]at CX;have hlen:=(di hc (is:=is) i hi).len;have aAx:=kW (c:=c) (is:=is) i;have ZQ:wc.cell? ⟨w5.heap.size,1,none⟩=some iv':=xy.cell rfl;have x33:aB wc ⟨wx.heap.size,0,none⟩ 0 3=some [.int .i64 y.op,.int .i64 y.a,.int .i64 y.b]:=CX.aB;have hns:=vr.slice;obtain⟨GK,inc,rfl⟩:=hns;push_cast -dsimp[ZQ,x33];refine cG ee rfl rfl (by omega) ?_;intro wd iT;have ZB:=iT.size;push_cast -dsimp;refine aW (base:=w4.heap.size) [y] (enc:=bN) ee (vr.new iT) (by rfl) (λj u hu=>by simpa[bN] using iT.cell hu) jA (by simp only[List.length_cons,List.length_nil];omega) (by omega) ?_;intro ve we yI eo Ck;have pt:∀g,(Value.slice GK (aZ c is i).ins.length inc).ownBlock=some g->g≠sb/\g≠w3.heap.size/\g≠w.heap.size/\g≠w1.heap.size/\g≠w5.heap.size/\g≠w6.heap.size:=λg hg=>by have:=Ii g hg;omega
     have eQ:Kept (λj=>(Value.slice GK (aZ c is i).ins.length inc).ownBlock=some j) wd we:=Kept.grown eo (λ_ h=>h);have lR:Kept (λj=>(Value.slice GK (aZ c is i).ins.length inc).ownBlock=some j) wc we:=(Kept.new iT).trans eQ (λ_ _ h=>h);have hSe:=Zz.kept lR (λh=>(pt _ h).1 rfl);have hTe:=hTc.kept lR (λh=>(pt _ h).2.1 rfl);have Zn:=Zm.kept lR (λh=>(pt _ h).2.2.1 rfl);have N9:=Bu.kept lR (λh=>(pt _ h).2.2.2.1 rfl);have QU:=xy.kept lR (λh=>(pt _ h).2.2.2.2.1 rfl);have Vm:=Zt.kept lR (λh=>(pt _ h).2.2.2.2.2 rfl);have Cm:=CH.aJ lR (λg hg h=>qh CH vr (by decide) g hg h);have s9:Below w.heap.size w we:=vh.trans (lR.below (by omega) (λg h=>by have:=Ii g h;omega));have Kg:=lR.size;have GI:=yI.slice;obtain⟨ea,ec,rfl⟩:=GI;push_cast -dsimp;refine aC QU (by simp) rfl ?_;intro wf iG;have szf:=iG.size;push_cast -dsimp;have uM:∀g,(Value.slice ea ((aZ c is i).ins++[y]).length ec).ownBlock=some g->w7.heap.size<=g:=λg hg=>by
      rcases Ck g hg with h|h
      ·exact Ii g h
      omega
     refine⟨⟨by omega,by omega⟩,⟨i+1,G9,_,rfl,by omega,iG.aM,?_,?_,?_,hSe.kept iG.kept (by omega),hTe.kept iG.kept (by omega),Zn.kept iG.kept (by omega),N9.kept iG.kept (by omega),s9.trans (iG.kept.below (by omega) (λ_ h=>by omega)),by omega,se,uM⟩,by rw[h76];simp only[intOf];omega⟩
     ·rw[cI];exact Cm.aJ iG.kept (λg hg h=>by have:=se g hg;omega)
     ·rw[cI,hy];exact yI.aJ iG.kept (λg hg h=>by have:=uM g hg;omega)
     rw[cI];exact Vm.kept iG.kept (by omega)
    rw[if_neg yG]at has;refine oy (kt:=3) (et:=3) (z:=.int .i64 0) (by kernel_rfl) (ME (by kernel_rfl)) (by kernel_rfl) Zs AD has ?_;have HR:(aZ c is i).used.length<=c.sets.length:=nH _ _ (di hc (is:=is) i hi).nodup (di hc (is:=is) i hi).used;have hos:=uP.slice;obtain⟨oa,oc,rfl⟩:=hos;rw[List.length_map]at hOb gG uP;have c30:wb.cell? ⟨w5.heap.size,0,none⟩=some (.slice oa (aZ c is i).used.length oc):=hOb.cell rfl;have Wa:=List.getElem?_eq_getElem (l:=us) (i:=x.a.toNat) (by omega);have hug:=aFk.get Wa;obtain⟨ub,uo,rfl,_,huc⟩:=hug;have huv:∃u,us[x.a.toNat]'(by omega)=u:=⟨_,rfl⟩;obtain⟨u,hu⟩:=huv;rw[hu]at Wa huc;have csv:w.cell? ⟨ub,uo+x.a.toNat,none⟩=some u.v:=by
     have:=huc 0 _ rfl;rwa [Nat.mul_one,Nat.add_zero]at this
    have aUe:ub<w.heap.size:=World.block_lt_of_cell? w _ csv;have csb:wb.cell? ⟨ub,uo+x.a.toNat,none⟩=some u.v:=(Kept.aN j6 (X:=λ_=>False) (λk hk hl=>by omega)).cell csv id;push_cast -dsimp[c30,t1];refine jG (kt:=3) (et:=3) (by kernel_rfl) (ME (by kernel_rfl)) Zs AD has ?_;intro wm hMm vK szm;rw[<-Sv]at hMm;have hOm:=hOb.kept vK (by omega);have hCm:=hCb.kept vK (by omega);have hXm:=IU.kept vK (by omega);have aOb:=uP.aJ vK (λg hg h=>by have:=gG g hg;omega);have csm:wm.cell? ⟨ub,uo+x.a.toNat,none⟩=some u.v:=vK.cell csb (by show ¬ub=_;omega)
    push_cast -dsimp;refine Bh [0,1,2,3,4,5,6,7,8] 9 [10,11] (λw'=>aL w' w5.heap.size 127 [.slice oa (aZ c is i).used.length oc,iv']/\aL w' w.heap.size 127 [.slice (some ⟨ub,uo,none⟩) c.sets.length sc,.slice (some ⟨ib,io,none⟩) c.ins.length cp]/\aL w' wx.heap.size 164 [.int .i64 x.op,.int .i64 x.a,.int .i64 x.b]/\w'.cell? ⟨ub,uo+x.a.toNat,none⟩=some u.v) mixed (by kernel_rfl) ⟨hOm.drew,hCm.drew,hXm.drew,csm⟩ ?_;have d1:wm.drew.cell? ⟨w5.heap.size,0,none⟩=some (.slice oa (aZ c is i).used.length oc):=hOm.drew.cell rfl;have d2:wm.drew.cell? ⟨w.heap.size,0,none⟩=some (.slice (some ⟨ub,uo,none⟩) c.sets.length sc):=hCm.drew.cell rfl;have d3:wm.drew.cell? ⟨wx.heap.size,1,none⟩=some (.int .i64 x.a):=hXm.drew.cell rfl;have d4:wm.drew.cell? ⟨ub,uo+x.a.toNat,none⟩=some u.v:=csm;push_cast -dsimp[d1,d2,d3,d4];refine⟨λbE hC=>fX hC.1 rfl,λbE hC=>fX hC.2.1 rfl,λbE hC=>fX hC.2.2.1 rfl,⟨by omega,by omega⟩,λbE hC=>by rw[hC.2.2.2];exact rfl,?_⟩;refine cG nA rfl rfl (by omega) ?_;intro wn hwn;have szn:wn.heap.size=wm.heap.size+1:=hwn.size;have kn:Kept (λ_=>False) wm wn:=((Kept.refl (λ_=>False) wm).drew).trans (Kept.new (X:=λ_=>False) hwn) (λ_ _ h=>h);have hOn:=hOm.kept kn id;have Vr:=hXm.kept kn id;refine⟨⟨hOn,hCm.kept kn id,Vr,kn.cell csm id⟩,?_⟩;push_cast -dsimp;have hsn:=aOb.aJ kn (λg hg h=>h.elim)
    refine aW (base:=w4.heap.size) [u] (enc:=j9) nA hsn (by rfl) (λj v' Nv=>by simpa[j9] using hwn.cell Nv) vX (by simp only[List.length_cons,List.length_nil,List.length_map];omega) (by omega) ?_;intro ov' wo hoo K8 aE3;have aE8:=hoo.slice;obtain⟨oa',oc',rfl⟩:=aE8;have oU:∃X,X=(λj=>(Value.slice oa (aZ c is i).used.length oc).ownBlock=some j):=⟨_,rfl⟩;obtain⟨Xo,hXo⟩:=oU;have ko:Kept Xo wn wo:=Kept.grown K8 (λk h=>by rw[hXo];exact h);have Nb:∀g,Xo g->w7.heap.size<=g/\g<wx.heap.size:=λg hg=>by
     rw[hXo]at hg;exact⟨gG g hg,(ny.block g (by rw[List.length_map];exact hg)).2⟩
    have szo:=ko.size;have hOo:=hOn.kept ko (λh=>by have:=Nb _ h;omega);have aMq:=Vr.kept ko (λh=>by have:=Nb _ h;omega);refine⟨trivial,?_⟩;push_cast -dsimp;refine aC hOo (by simp) rfl ?_;intro wp hwp;have szp:wp.heap.size=wo.heap.size:=hwp.size;have hXp:=aMq.kept hwp.kept (by omega);refine⟨trivial,?_⟩;push_cast -dsimp;refine aC hXp (by simp) rfl ?_;intro wc jV;have ZA:wc.heap.size=wp.heap.size:=jV.size;have RI:Kept (λj=>j=w6.heap.size\/j=w5.heap.size\/j=wx.heap.size\/Xo j) wb wc:=by
     refine((((vK.trans kn (λ_ _ h=>h.elim)).weaken (Y:=λj=>j=w6.heap.size\/j=w5.heap.size\/j=wx.heap.size\/Xo j) (λ_ _ h=>.inl h)).trans ko (λ_ _ h=>.inr (.inr (.inr h)))).trans hwp.kept (λ_ _ h=>.inr (.inl h))).trans jV.kept (λ_ _ h=>.inr (.inr (.inl h)))
    have aAE:∀k,k<w7.heap.size->k≠w6.heap.size->k≠w5.heap.size->¬(k=w6.heap.size\/k=w5.heap.size\/k=wx.heap.size\/Xo k):=λk h1 h2 h3 h=>by
     rcases h with h|h|h|h
     ·exact h2 h
     ·exact h3 h
     ·omega
     have:=Nb k h;omega
    have CX:aL wc wx.heap.size 164 (bN (jW c is (aZ c is i).used x)):=by
     unfold jW;rw[if_pos h1,if_neg yG];exact jV.aM
    have Ez:pj (aZ c is i).used x=(aZ c is i).used++[x.a.toNat]:=by unfold pj;rw[if_pos h1,if_neg yG]
    rw[Ez]at cI;have Zz:=hSb.kept RI (aAE _ (by omega) (by omega) (by omega));have hTc:=hTb.kept RI (aAE _ (by omega) (by omega) (by omega));have Zm:=hCb.kept RI (aAE _ (by omega) (by omega) (by omega));have Bu:=N8.kept RI (aAE _ (by omega) (by omega) (by omega));have xy:=hwp.aM.kept jV.kept (by omega);have Zt:=(((hMm.kept kn id).kept ko (λh=>by have:=Nb _ h;omega)).kept hwp.kept (by omega)).kept jV.kept (by omega);have aAC:∀g,(Value.slice oa' (((aZ c is i).used.map λa=>us.getD a ⟨none,0,0⟩)++[u]).length oc').ownBlock=some g->w7.heap.size<=g/\g≠wx.heap.size:=λg hg=>by
     rcases aE3 g hg with h|h
     ·have:=Nb g (by rw[hXo];simpa using h);omega
     omega
    have CH:=(hoo.aJ hwp.kept (λg hg h=>by have:=aAC g hg;omega)).aJ jV.kept (λg hg h=>by have:=aAC g hg;omega);have vr:=mJ.aJ RI (λg hg h=>by
     have h1:=Ii g hg;have h2:=(jC.block g hg).2;rcases h with h|h|h|h
     ·omega
     ·omega
     ·omega
     rw[hXo]at h;exact qh jC ny (by decide) g hg (by rw[List.length_map];exact h))
    have vh:Below w.heap.size w wc:=j6.trans (RI.below (by omega) (λk h=>by
     rcases h with h|h|h|h
     ·omega
     ·omega
     ·omega
     have:=Nb k h;omega))
    have ems:((aZ c is i).used.map λa=>us.getD a ⟨none,0,0⟩)++[u]=((aZ c is i).used++[x.a.toNat]).map λa=>us.getD a ⟨none,0,0⟩:=by
     rw[List.map_append];simp only[List.map_cons,List.map_nil,List.getD_eq_getElem?_getD,Wa,Option.getD_some]
    rw[ems]at CH xy aAC;have se:=λg hg=>(aAC g hg).1;have Np:∃G9,G9=Value.slice oa' (((aZ c is i).used++[x.a.toNat]).map λa=>us.getD a ⟨none,0,0⟩).length oc':=⟨_,rfl⟩;obtain⟨G9,aNU⟩:=Np;rw[<-aNU]at CH xy se;have Cg:∃y,jW c is (aZ c is i).used x=y:=⟨_,rfl⟩;obtain⟨y,hy⟩:=Cg;rw[hy]at CX;have hlen:=(di hc (is:=is) i hi).len;have aAx:=kW (c:=c) (is:=is) i;have ZQ:wc.cell? ⟨w5.heap.size,1,none⟩=some iv':=xy.cell rfl;have x33:aB wc ⟨wx.heap.size,0,none⟩ 0 3=some [.int .i64 y.op,.int .i64 y.a,.int .i64 y.b]:=CX.aB;have hns:=vr.slice;obtain⟨GK,inc,rfl⟩:=hns;push_cast -dsimp[ZQ,x33];refine cG ee rfl rfl (by omega) ?_;intro wd iT;have ZB:=iT.size;push_cast -dsimp;refine aW (base:=w4.heap.size) [y] (enc:=bN) ee (vr.new iT) (by rfl) (λj u hu=>by simpa[bN] using iT.cell hu) jA (by simp only[List.length_cons,List.length_nil];omega) (by omega) ?_;intro ve we yI eo Ck;have pt:∀g,(Value.slice GK (aZ c is i).ins.length inc).ownBlock=some g->g≠sb/\g≠w3.heap.size/\g≠w.heap.size/\g≠w1.heap.size/\g≠w5.heap.size/\g≠w6.heap.size:=λg hg=>by have:=Ii g hg;omega
    have eQ:Kept (λj=>(Value.slice GK (aZ c is i).ins.length inc).ownBlock=some j) wd we:=Kept.grown eo (λ_ h=>h);have lR:Kept (λj=>(Value.slice GK (aZ c is i).ins.length inc).ownBlock=some j) wc we:=(Kept.new iT).trans eQ (λ_ _ h=>h);have hSe:=Zz.kept lR (λh=>(pt _ h).1 rfl);have hTe:=hTc.kept lR (λh=>(pt _ h).2.1 rfl);have Zn:=Zm.kept lR (λh=>(pt _ h).2.2.1 rfl);have N9:=Bu.kept lR (λh=>(pt _ h).2.2.2.1 rfl);have QU:=xy.kept lR (λh=>(pt _ h).2.2.2.2.1 rfl);have Vm:=Zt.kept lR (λh=>(pt _ h).2.2.2.2.2 rfl);have Cm:=CH.aJ lR (λg hg h=>qh CH vr (by decide) g hg h);have s9:Below w.heap.size w we:=vh.trans (lR.below (by omega) (λg h=>by have:=Ii g h;omega));have Kg:=lR.size;have GI:=yI.slice;obtain⟨ea,ec,rfl⟩:=GI;push_cast -dsimp;refine aC QU (by simp) rfl ?_;intro wf iG;have szf:=iG.size;push_cast -dsimp;have uM:∀g,(Value.slice ea ((aZ c is i).ins++[y]).length ec).ownBlock=some g->w7.heap.size<=g:=λg hg=>by
     rcases Ck g hg with h|h
     ·exact Ii g h
     omega
    refine⟨⟨by omega,by omega⟩,⟨i+1,G9,_,rfl,by omega,iG.aM,?_,?_,?_,hSe.kept iG.kept (by omega),hTe.kept iG.kept (by omega),Zn.kept iG.kept (by omega),N9.kept iG.kept (by omega),s9.trans (iG.kept.below (by omega) (λ_ h=>by omega)),by omega,se,uM⟩,by rw[h76];simp only[intOf];omega⟩
    ·rw[cI];exact Cm.aJ iG.kept (λg hg h=>by have:=se g hg;omega)
    ·rw[cI,hy];exact yI.aJ iG.kept (λg hg h=>by have:=uM g hg;omega)
    rw[cI];exact Vm.kept iG.kept (by omega)
   ·have hj:=iU hc hx h3;have Fp:x.a=((x.a.toNat:Nat):Int):=by rw[Int.toNat_of_nonneg hj.1]
    have t1:wb.cell? ⟨wx.heap.size,1,none⟩=some (.int .i64 x.a):=IU.cell rfl;have tt:wb.cell? ⟨w3.heap.size,x.a.toNat,none⟩=some (.int .i64 (fT c is x.a.toNat:Int)):=hTb.cell (by unfold rj;rw[List.getElem?_map,vG (by omega),if_pos (by omega)];rfl);push_cast -dsimp[t1,tt];refine⟨⟨by omega,by omega⟩,?_⟩;refine aC IU (by simp) rfl ?_;intro wc jV;have ZA:=jV.size;have CX:aL wc wx.heap.size 164 (bN (jW c is (aZ c is i).used x)):=by
     unfold jW;rw[if_neg h1,if_pos h3];exact jV.aM
    have Ez:pj (aZ c is i).used x=(aZ c is i).used:=by unfold pj;rw[if_neg h1]
    rw[Ez]at cI;have hk:=jV.kept;have Zz:=hSb.kept hk (by omega);have hTc:=hTb.kept hk (by omega);have Zm:=hCb.kept hk (by omega);have Bu:=N8.kept hk (by omega);have xy:=hOb.kept hk (by omega);have Zt:=Zs.kept hk (by omega);have CH:=uP.aJ hk (λg hg h=>by have:=ny.block g hg;omega);have vr:=mJ.aJ hk (λg hg h=>by have:=jC.block g hg;omega);have vh:Below w.heap.size w wc:=j6.trans (hk.below (by omega) (λ_ h=>by omega));have se:=gG;have Np:∃G9,G9=ov:=⟨_,rfl⟩;obtain⟨G9,rfl⟩:=Np;have Cg:∃y,jW c is (aZ c is i).used x=y:=⟨_,rfl⟩;obtain⟨y,hy⟩:=Cg;rw[hy]at CX;have hlen:=(di hc (is:=is) i hi).len;have aAx:=kW (c:=c) (is:=is) i;have ZQ:wc.cell? ⟨w5.heap.size,1,none⟩=some iv':=xy.cell rfl;have x33:aB wc ⟨wx.heap.size,0,none⟩ 0 3=some [.int .i64 y.op,.int .i64 y.a,.int .i64 y.b]:=CX.aB;have hns:=vr.slice;obtain⟨GK,inc,rfl⟩:=hns;push_cast -dsimp[ZQ,x33];refine cG ee rfl rfl (by omega) ?_;intro wd iT;have ZB:=iT.size;push_cast -dsimp;refine aW (base:=w4.heap.size) [y] (enc:=bN) ee (vr.new iT) (by rfl) (λj u hu=>by simpa[bN] using iT.cell hu) jA (by simp only[List.length_cons,List.length_nil];omega) (by omega) ?_;intro ve we yI eo Ck;have pt:∀g,(Value.slice GK (aZ c is i).ins.length inc).ownBlock=some g->g≠sb/\g≠w3.heap.size/\g≠w.heap.size/\g≠w1.heap.size/\g≠w5.heap.size/\g≠w6.heap.size:=λg hg=>by have:=Ii g hg;omega
    have eQ:Kept (λj=>(Value.slice GK (aZ c is i).ins.length inc).ownBlock=some j) wd we:=Kept.grown eo (λ_ h=>h);have lR:Kept (λj=>(Value.slice GK (aZ c is i).ins.length inc).ownBlock=some j) wc we:=(Kept.new iT).trans eQ (λ_ _ h=>h);have hSe:=Zz.kept lR (λh=>(pt _ h).1 rfl);have hTe:=hTc.kept lR (λh=>(pt _ h).2.1 rfl);have Zn:=Zm.kept lR (λh=>(pt _ h).2.2.1 rfl);have N9:=Bu.kept lR (λh=>(pt _ h).2.2.2.1 rfl);have QU:=xy.kept lR (λh=>(pt _ h).2.2.2.2.1 rfl);have Vm:=Zt.kept lR (λh=>(pt _ h).2.2.2.2.2 rfl);have Cm:=CH.aJ lR (λg hg h=>qh CH vr (by decide) g hg h);have s9:Below w.heap.size w we:=vh.trans (lR.below (by omega) (λg h=>by have:=Ii g h;omega));have Kg:=lR.size;have GI:=yI.slice;obtain⟨ea,ec,rfl⟩:=GI;push_cast -dsimp;refine aC QU (by simp) rfl ?_;intro wf iG;have szf:=iG.size;push_cast -dsimp;have uM:∀g,(Value.slice ea ((aZ c is i).ins++[y]).length ec).ownBlock=some g->w7.heap.size<=g:=λg hg=>by
     rcases Ck g hg with h|h
     ·exact Ii g h
     omega
    refine⟨⟨by omega,by omega⟩,⟨i+1,G9,_,rfl,by omega,iG.aM,?_,?_,?_,hSe.kept iG.kept (by omega),hTe.kept iG.kept (by omega),Zn.kept iG.kept (by omega),N9.kept iG.kept (by omega),s9.trans (iG.kept.below (by omega) (λ_ h=>by omega)),by omega,se,uM⟩,by rw[h76];simp only[intOf];omega⟩
    ·rw[cI];exact Cm.aJ iG.kept (λg hg h=>by have:=se g hg;omega)
    ·rw[cI,hy];exact yI.aJ iG.kept (λg hg h=>by have:=uM g hg;omega)
    rw[cI];exact Vm.kept iG.kept (by omega)
   ·have hj:=mM hc hx h2;have Fp:x.a=((x.a.toNat:Nat):Int):=by rw[Int.toNat_of_nonneg hj.1]
    have Q5:x.b=((x.b.toNat:Nat):Int):=by rw[Int.toNat_of_nonneg hj.2.2.1]
    have hTd:aL wb.drew w3.heap.size 3 (rj (Oo c is (c.ins.length+1))):=hTb.drew;refine Yh [(0,false),(1,false),(2,false),(3,false),(4,false),(5,true),(6,false),(7,false),(8,true),(9,true),(10,false)] 11 [12,13] (λw'=>w'=wb.drew) (λw'=>aL w' w3.heap.size 3 (rj (Oo c is (c.ins.length+1)))) mixed (by kernel_rfl) (λw' h=>by rw[h];exact hTd) rfl ?_;have t1:wb.drew.cell? ⟨wx.heap.size,1,none⟩=some (.int .i64 x.a):=IU.drew.cell rfl;have t2:wb.drew.cell? ⟨wx.heap.size,2,none⟩=some (.int .i64 x.b):=IU.drew.cell rfl;have gt:∀(n:Nat),n<c.ins.length->(rj (Oo c is (c.ins.length+1)))[n]?=some (.int .i64 (fT c is n:Int)):=λn hn=>by unfold rj;rw[List.getElem?_map,vG (by omega),if_pos (by omega)];rfl
    have ta:wb.drew.cell? ⟨w3.heap.size,x.a.toNat,none⟩=some (.int .i64 (fT c is x.a.toNat:Int)):=hTd.cell (gt _ (by omega));have tb:wb.drew.cell? ⟨w3.heap.size,x.b.toNat,none⟩=some (.int .i64 (fT c is x.b.toNat:Int)):=hTd.cell (gt _ (by omega));push_cast -dsimp[t1,t2,ta,tb];refine⟨λbE hC=>by rw[hC];exact fX IU.drew rfl,⟨by omega,by omega⟩,λbE hC=>by rw[hC];exact fX hTd (gt _ (by omega)),λbE hC=>by rw[hC];exact fX IU.drew rfl,⟨by omega,by omega⟩,λbE hC=>fX hC (gt _ (by omega)),?_⟩;refine aC IU.drew (by simp) rfl ?_;intro wc1 aAQ;have aOQ:wc1.heap.size=wb.heap.size:=aAQ.size;have aIm:=hTd.kept aAQ.kept (by omega);refine⟨aIm,?_⟩;push_cast -dsimp;refine aC aAQ.aM (by simp) rfl ?_;intro wc jV;have ZA:wc.heap.size=wb.heap.size:=jV.size.trans aOQ;refine⟨aIm.kept jV.kept (by omega),?_⟩;have CX:aL wc wx.heap.size 164 (bN (jW c is (aZ c is i).used x)):=by
     unfold jW;rw[if_neg h1,if_neg h3,if_pos h2];exact jV.aM
    have Ez:pj (aZ c is i).used x=(aZ c is i).used:=by unfold pj;rw[if_neg h1]
    rw[Ez]at cI;have hk:Kept (λj=>j=wx.heap.size) wb wc:=(((Kept.refl (λj=>j=wx.heap.size) wb).drew).trans aAQ.kept (λ_ _ h=>h)).trans jV.kept (λ_ _ h=>h);have Zz:=hSb.kept hk (by omega);have hTc:=hTb.kept hk (by omega);have Zm:=hCb.kept hk (by omega);have Bu:=N8.kept hk (by omega);have xy:=hOb.kept hk (by omega);have Zt:=Zs.kept hk (by omega);have CH:=uP.aJ hk (λg hg h=>by have:=ny.block g hg;omega);have vr:=mJ.aJ hk (λg hg h=>by have:=jC.block g hg;omega);have vh:Below w.heap.size w wc:=j6.trans (hk.below (by omega) (λ_ h=>by omega));have se:=gG;have Np:∃G9,G9=ov:=⟨_,rfl⟩;obtain⟨G9,rfl⟩:=Np;have Cg:∃y,jW c is (aZ c is i).used x=y:=⟨_,rfl⟩;obtain⟨y,hy⟩:=Cg;rw[hy]at CX;have hlen:=(di hc (is:=is) i hi).len;have aAx:=kW (c:=c) (is:=is) i;have ZQ:wc.cell? ⟨w5.heap.size,1,none⟩=some iv':=xy.cell rfl;have x33:aB wc ⟨wx.heap.size,0,none⟩ 0 3=some [.int .i64 y.op,.int .i64 y.a,.int .i64 y.b]:=CX.aB;have hns:=vr.slice;obtain⟨GK,inc,rfl⟩:=hns;push_cast -dsimp[ZQ,x33];refine cG ee rfl rfl (by omega) ?_;intro wd iT;have ZB:=iT.size;push_cast -dsimp;refine aW (base:=w4.heap.size) [y] (enc:=bN) ee (vr.new iT) (by rfl) (λj u hu=>by simpa[bN] using iT.cell hu) jA (by simp only[List.length_cons,List.length_nil];omega) (by omega) ?_;intro ve we yI eo Ck;have pt:∀g,(Value.slice GK (aZ c is i).ins.length inc).ownBlock=some g->g≠sb/\g≠w3.heap.size/\g≠w.heap.size/\g≠w1.heap.size/\g≠w5.heap.size/\g≠w6.heap.size:=λg hg=>by have:=Ii g hg;omega
    have eQ:Kept (λj=>(Value.slice GK (aZ c is i).ins.length inc).ownBlock=some j) wd we:=Kept.grown eo (λ_ h=>h);have lR:Kept (λj=>(Value.slice GK (aZ c is i).ins.length inc).ownBlock=some j) wc we:=(Kept.new iT).trans eQ (λ_ _ h=>h);have hSe:=Zz.kept lR (λh=>(pt _ h).1 rfl);have hTe:=hTc.kept lR (λh=>(pt _ h).2.1 rfl);have Zn:=Zm.kept lR (λh=>(pt _ h).2.2.1 rfl);have N9:=Bu.kept lR (λh=>(pt _ h).2.2.2.1 rfl);have QU:=xy.kept lR (λh=>(pt _ h).2.2.2.2.1 rfl);have Vm:=Zt.kept lR (λh=>(pt _ h).2.2.2.2.2 rfl);have Cm:=CH.aJ lR (λg hg h=>qh CH vr (by decide) g hg h);have s9:Below w.heap.size w we:=vh.trans (lR.below (by omega) (λg h=>by have:=Ii g h;omega));have Kg:=lR.size;have GI:=yI.slice;obtain⟨ea,ec,rfl⟩:=GI;push_cast -dsimp;refine aC QU (by simp) rfl ?_;intro wf iG;have szf:=iG.size;push_cast -dsimp;have uM:∀g,(Value.slice ea ((aZ c is i).ins++[y]).length ec).ownBlock=some g->w7.heap.size<=g:=λg hg=>by
     rcases Ck g hg with h|h
     ·exact Ii g h
     omega
    refine⟨⟨by omega,by omega⟩,⟨i+1,G9,_,rfl,by omega,iG.aM,?_,?_,?_,hSe.kept iG.kept (by omega),hTe.kept iG.kept (by omega),Zn.kept iG.kept (by omega),N9.kept iG.kept (by omega),s9.trans (iG.kept.below (by omega) (λ_ h=>by omega)),by omega,se,uM⟩,by rw[h76];simp only[intOf];omega⟩
    ·rw[cI];exact Cm.aJ iG.kept (λg hg h=>by have:=se g hg;omega)
    ·rw[cI,hy];exact yI.aJ iG.kept (λg hg h=>by have:=uM g hg;omega)
    rw[cI];exact Vm.kept iG.kept (by omega)
   have Ez:pj (aZ c is i).used x=(aZ c is i).used:=by unfold pj;rw[if_neg h1]
   rw[Ez]at cI;have jV:∃wc,wc=wb:=⟨_,rfl⟩;obtain⟨wc,rfl⟩:=jV;have ZA:wc.heap.size=wc.heap.size:=rfl;have CX:aL wc wx.heap.size 164 (bN (jW c is (aZ c is i).used x)):=by
    unfold jW;rw[if_neg h1,if_neg h3,if_neg h2];exact IU
   have hk:Kept (λj=>j=wx.heap.size) wc wc:=Kept.refl _ _;have Zz:=hSb.kept hk (by omega);have hTc:=hTb.kept hk (by omega);have Zm:=hCb.kept hk (by omega);have Bu:=N8.kept hk (by omega);have xy:=hOb.kept hk (by omega);have Zt:=Zs.kept hk (by omega);have CH:=uP.aJ hk (λg hg h=>by have:=ny.block g hg;omega);have vr:=mJ.aJ hk (λg hg h=>by have:=jC.block g hg;omega);have vh:Below w.heap.size w wc:=j6.trans (hk.below (by omega) (λ_ h=>by omega));have se:=gG;have Np:∃G9,G9=ov:=⟨_,rfl⟩;obtain⟨G9,rfl⟩:=Np;have Cg:∃y,jW c is (aZ c is i).used x=y:=⟨_,rfl⟩;obtain⟨y,hy⟩:=Cg;rw[hy]at CX;have hlen:=(di hc (is:=is) i hi).len;have aAx:=kW (c:=c) (is:=is) i;have ZQ:wc.cell? ⟨w5.heap.size,1,none⟩=some iv':=xy.cell rfl;have x33:aB wc ⟨wx.heap.size,0,none⟩ 0 3=some [.int .i64 y.op,.int .i64 y.a,.int .i64 y.b]:=CX.aB;have hns:=vr.slice;obtain⟨GK,inc,rfl⟩:=hns;push_cast -dsimp[ZQ,x33];refine cG ee rfl rfl (by omega) ?_;intro wd iT;have ZB:=iT.size;push_cast -dsimp;refine aW (base:=w4.heap.size) [y] (enc:=bN) ee (vr.new iT) (by rfl) (λj u hu=>by simpa[bN] using iT.cell hu) jA (by simp only[List.length_cons,List.length_nil];omega) (by omega) ?_;intro ve we yI eo Ck;have pt:∀g,(Value.slice GK (aZ c is i).ins.length inc).ownBlock=some g->g≠sb/\g≠w3.heap.size/\g≠w.heap.size/\g≠w1.heap.size/\g≠w5.heap.size/\g≠w6.heap.size:=λg hg=>by have:=Ii g hg;omega
   have eQ:Kept (λj=>(Value.slice GK (aZ c is i).ins.length inc).ownBlock=some j) wd we:=Kept.grown eo (λ_ h=>h);have lR:Kept (λj=>(Value.slice GK (aZ c is i).ins.length inc).ownBlock=some j) wc we:=(Kept.new iT).trans eQ (λ_ _ h=>h);have hSe:=Zz.kept lR (λh=>(pt _ h).1 rfl);have hTe:=hTc.kept lR (λh=>(pt _ h).2.1 rfl);have Zn:=Zm.kept lR (λh=>(pt _ h).2.2.1 rfl);have N9:=Bu.kept lR (λh=>(pt _ h).2.2.2.1 rfl);have QU:=xy.kept lR (λh=>(pt _ h).2.2.2.2.1 rfl);have Vm:=Zt.kept lR (λh=>(pt _ h).2.2.2.2.2 rfl);have Cm:=CH.aJ lR (λg hg h=>qh CH vr (by decide) g hg h);have s9:Below w.heap.size w we:=vh.trans (lR.below (by omega) (λg h=>by have:=Ii g h;omega));have Kg:=lR.size;have GI:=yI.slice;obtain⟨ea,ec,rfl⟩:=GI;push_cast -dsimp;refine aC QU (by simp) rfl ?_;intro wf iG;have szf:=iG.size;push_cast -dsimp;have uM:∀g,(Value.slice ea ((aZ c is i).ins++[y]).length ec).ownBlock=some g->w7.heap.size<=g:=λg hg=>by
    rcases Ck g hg with h|h
    ·exact Ii g h
    omega
   refine⟨⟨by omega,by omega⟩,⟨i+1,G9,_,rfl,by omega,iG.aM,?_,?_,?_,hSe.kept iG.kept (by omega),hTe.kept iG.kept (by omega),Zn.kept iG.kept (by omega),N9.kept iG.kept (by omega),s9.trans (iG.kept.below (by omega) (λ_ h=>by omega)),by omega,se,uM⟩,by rw[h76];simp only[intOf];omega⟩
   ·rw[cI];exact Cm.aJ iG.kept (λg hg h=>by have:=se g hg;omega)
   ·rw[cI,hy];exact yI.aJ iG.kept (λg hg h=>by have:=uM g hg;omega)
   rw[cI];exact Vm.kept iG.kept (by omega)
 have mc:i=c.ins.length:=by omega
 subst mc;have q3:=QV.aB;simp only[List.length_cons,List.length_nil,Nat.zero_add,Nat.reduceAdd]at q3;have oh:=ny.slice;obtain⟨oa,oc,rfl⟩:=oh;have oh:=jC.slice;obtain⟨na,nc,rfl⟩:=oh;push_cast -dsimp[q3];refine aH (n:=2) (by kernel_rfl) vf rfl (by simp) (by simp[Value.oneCell']) ?_;intro w8 nf;have sz8:=nf.size;have q5:aB w8 ⟨w1.heap.size,0,none⟩ 0 2=some _:=nf.aM.aB;have ma:Below w.heap.size w w8:=eW.trans (nf.kept.below (by omega) (λ_ h=>by omega));have aE9:=ny.aJ nf.kept (λg hg h=>by have:=ny.block g hg;omega);have aE4:=jC.aJ nf.kept (λg hg h=>by have:=jC.block g hg;omega);push_cast -dsimp[q5];refine⟨⟨is,_,_,rfl,hCl,?_,aE4.mono (by omega)⟩,ma⟩;refine dp.rO (us:=(aZ c is c.ins.length).used.map λa=>us.getD a ⟨none,0,0⟩) (by unfold b8 Wu;simp) (aE9.aKf.weaken λb h=>?_) ?_
 ·rcases h with h|h
  ·intro hh
   have:=aE9.block b hh
   have:=hX b h;omega
  exact λhh=>qh aE4 aE9 (by decide) b h hh
 intro j u s hu hs;have hI:=di hc (is:=is) c.ins.length (Nat.le_refl _);unfold b8 Wu at hs;rw[List.getElem?_map]at hu hs;cases hj:(aZ c is c.ins.length).used[j]? with
 | none=>rw[hj]at hu;cases hu
 | some d =>
  rw[hj]at hu hs;have hd:=hI.used d (List.mem_of_getElem? hj);have e1:=List.getElem?_eq_getElem (l:=us) (i:=d) (by omega);have e2:=List.getElem?_eq_getElem (l:=c.sets) (i:=d) (by omega);simp only[Option.map_some,Option.some.injEq,List.getD_eq_getElem?_getD,e1,e2,Option.getD_some]at hu hs;subst hu hs;refine Sl.below (w:=w) ((aFl d _ _ e1 e2).fresh (λ_=>by simp[ay]) (λb h=>?_)) ma;rcases h with h|h
  ·exact .inl h
  have:=aE4.block b h;omega
end Go.Proofs.YtemjejfpadnljaaGreatDoor
end
section
namespace Go.Proofs.YtemjejfpadnljaaGreatDoor
open Go.Vc Go.Proofs Go.RowKit Cae
structure fU (c d:aD):Prop where
 cr:CR d
 len:d.ins.length<=c.ins.length
 lens:jq d
 acc:∀ps,Acc d 0 ps↔Acc c 0 ps
theorem fU.refl {c:aD}(hc:CR c)(hl:jq c):fU c c:=⟨hc,Nat.le_refl _,hl,λ_=>Iff.rfl⟩
theorem fU.vm {c d:aD}(h:fU c d)(hc:CR c)(ps:List Int):(e9 d ps).1=(e9 c ps).1:=by
 rw[Bool.eq_iff_iff,mY h.cr,mY hc];exact h.acc ps
def tB:aD:=⟨[[]],[⟨1,0,0⟩,⟨5,0,0⟩]⟩
theorem JS:aS tB=true:=by decide
theorem Rl (ps:List Int):¬Acc tB 0 ps:=by
 rw[gd (c:=tB) (k:=0) (x:=⟨1,0,0⟩) rfl (by decide)];rintro⟨p,r,_,h,_⟩;exact absurd h (by simp[tB,ew])
theorem lx {c:aD}(gG:∀x∈c.ins,x.op≠5):∀(h k:Nat) (ps:List Int),¬dH c h k ps
 | 0,k,ps=>λh=>h
 | h+1,k,ps=>by
  intro hh;rw[dH]at hh;cases hx:c.ins[k]? with
  | none=>rw[hx]at hh;exact hh
  | some x =>
   rw[hx]at hh;dsimp only at hh;rw[if_neg (gG x (List.mem_of_getElem? hx))]at hh;by_cases h2:x.op=2
   ·rw[if_pos h2]at hh;rcases hh with hh|hh
    ·exact lx gG h _ _ hh
    exact lx gG h _ _ hh
   rw[if_neg h2]at hh;by_cases h3:x.op=3
   ·rw[if_pos h3]at hh;exact lx gG h _ _ hh
   rw[if_neg h3]at hh;by_cases h4:x.op=4
   ·rw[if_pos h4]at hh;exact lx gG h _ _ hh.2
   rw[if_neg h4]at hh;cases ps with
   | nil=>exact hh
   | cons p r=>exact lx gG h _ _ hh.2
theorem fU.never {c d:aD}(h:fU c d)(gG:(d.ins.any λx=>decide (x.op=5))=false)(h2:2<=c.ins.length):fU c tB:=by
 have aE3:∀x∈d.ins,x.op≠5:=λx hx e=>by
  rw[List.any_eq_false]at gG;exact gG x hx (decide_eq_true e)
 refine⟨CR.of JS,h2,λs hs=>?_,λps=>⟨λhh=>absurd hh (Rl ps),λhh=>?_⟩⟩
 ·have:s=[]:=by simpa[tB] using hs
  subst this;exact Nat.zero_lt_succ _
 obtain⟨n,hn⟩:=(h.acc ps).2 hh;exact absurd hn (lx aE3 n 0 ps)
theorem fU.aGf {c d:aD}(h:fU c d):fU c (oL d):=by
 have ht:=n5 h.cr d.ins.length;obtain⟨h1,h2,h3,h4,_⟩:=ht;refine⟨h1,by show (ai d d.ins.length).ins.length<=_;rw[h3];exact h.len,λs hs=>h.lens s (by have:s∈(ai d d.ins.length).sets:=hs;rwa [h2]at this),λps=>(h4 0 ps).trans (h.acc ps)⟩
theorem fU.Wv {c d:aD}(h:fU c d){is:List Bool}(hC:sM d is) :
  (aS (b8 d is)=true->fU c (b8 d is))/\(aS (b8 d is)=false->fU c ⟨(b8 d is).sets,(b8 d is).ins++[DK]⟩)/\(b8 d is).ins.length<=2000/\(b8 d is).sets.length<=2000/\jq (b8 d is):=by
 have hr:=JA h.cr hC;obtain⟨h1,h2,h3,h4⟩:=hr;have hm:=h.cr.many;have hs:=h.cr.sets;have hlen:=h.len;have hl:jq (b8 d is):=λs hs=>by
  obtain⟨a,ha,rfl⟩:=List.mem_map.1 (show s∈(aZ d is d.ins.length).used.map (λa=>d.sets.getD a []) from hs)
  have aj:=(di h.cr (is:=is) d.ins.length (Nat.le_refl _)).used a ha;rw[List.getD_eq_getElem?_getD,List.getElem?_eq_getElem aj];exact h.lens _ (List.getElem_mem aj)
 refine⟨λhR=>⟨CR.of hR,by omega,hl,λps=>?_⟩,λhR=>?_,by omega,by omega,hl⟩
 ·have:=Da h.cr hC [] 0 hC.zero ps;rw[List.append_nil]at this;exact this.symm.trans (h.acc ps)
 rcases h4 with h4|⟨_,h5,h6⟩
 ·rw[hR]at h4;cases h4
 refine⟨h6,by simp only[List.length_append,List.length_cons,List.length_nil];omega,hl,λps=>?_⟩;exact(Da h.cr hC [DK] 0 hC.zero ps).symm.trans (h.acc ps)
theorem fU.one {c d:aD}(h:fU c d)(hc:c.ins.length=1)(hy:Acc c 0 []):d.ins=[⟨5,0,0⟩]:=by
 have h1:=h.cr.one;have h2:=h.len;match hd:d.ins with
 | []=>rw[hd]at h1;simp at h1
 | [x] =>
  have hx:d.ins[0]?=some x:=by rw[hd];rfl
  have hlen:d.ins.length=1:=by rw[hd];rfl
  have mc:=cJ (h.cr.ins 0 x hx);have IV:=(h.acc []).2 hy;obtain⟨n,hn⟩:=IV;have jC:=h.cr.next 0 x hx;by_cases h5:x.op=5
  ·rcases mc with ⟨e,_⟩|⟨e,_⟩|⟨e,_⟩|⟨e,g1,g2⟩
   ·omega
   ·omega
   ·omega
   obtain⟨o,a,b⟩:=x;simp only at h5 g1 g2;subst h5 g1 g2;rfl
  exact absurd hn (lx (λy hy=>by rw[hd]at hy;simp at hy;subst hy;exact h5) n 0 [])
 | x::y::l=>rw[hd]at h2;simp at h2;omega
end Go.Proofs.YtemjejfpadnljaaGreatDoor
end
section
namespace Go.Proofs.YtemjejfpadnljaaGreatDoor
open Go.Vc Go.Proofs Go.RowKit Cae
attribute [local irreducible] cg aa ag aX runK ar Sl Vc.Own vc aQ br a7
def mn (c:aD):Prop:=jq c/\c.ins.length<1000000000/\c.sets.length<1000000000
def jo (p:bM):Prop:=p.rules.length<1000000000/\∀r∈p.rules,mn r.before/\mn r.after
def dy (X:Nat->Prop)(w:World):List Value->bV->Prop:=λcs r=>∃s1 i1 s2 i2,cs=[.bool r.brk,s1,i1,s2,i2]/\cL X w (.agg #[s1,i1]) r.before/\cL X w (.agg #[s2,i2]) r.after
def gb (X:Nat->Prop)(w:World)(v:Value)(p:bM):Prop:=∃rv,v=.agg #[rv,.bool p.dD]/\Sl X 5 (dy X w) w rv p.rules
theorem dy.mono {X X':Nat->Prop}{w w':World}{cs:List Value}{r:bV}(h:dy X w cs r)(hs:∀b,¬X b->b<w.heap.size->w'.heap[b]?=w.heap[b]?)(hX:∀b,X' b->X b):dy X' w' cs r:=by
 obtain⟨s1,i1,s2,i2,rfl,h1,h2⟩:=h;exact⟨s1,i1,s2,i2,rfl,h1.mono hs hX,h2.mono hs hX⟩
theorem oW.mono {X X':Nat->Prop}{w w':World}{v:Value}{l:List bV}(h:Sl X 5 (dy X w) w v l)(hs:∀b,¬X b->b<w.heap.size->w'.heap[b]?=w.heap[b]?)(hX:∀b,X' b->X b):Sl X' 5 (dy X' w') w' v l :=
 Sl.mono h hs (λ_ _ _ h=>h.mono hs hX) hX
theorem gb.mono {X X':Nat->Prop}{w w':World}{v:Value}{p:bM}(h:gb X w v p)(hs:∀b,¬X b->b<w.heap.size->w'.heap[b]?=w.heap[b]?)(hX:∀b,X' b->X b):gb X' w' v p:=by
 obtain⟨rv,rfl,h⟩:=h;exact⟨rv,rfl,oW.mono h hs hX⟩
theorem oW.below {X:Nat->Prop}{w w':World}{v:Value}{l:List bV}(h:Sl X 5 (dy X w) w v l)(hb:Below w.heap.size w w'):Sl X 5 (dy X w') w' v l:=oW.mono h (λb _ aj=>hb.block b aj) (λ_ h=>h)
theorem dy.below {X:Nat->Prop}{w w':World}{cs:List Value}{r:bV}(h:dy X w cs r)(hb:Below w.heap.size w w'):dy X w' cs r:=h.mono (λb _ aj=>hb.block b aj) (λ_ h=>h)
theorem gb.below {X:Nat->Prop}{w w':World}{v:Value}{p:bM}(h:gb X w v p)(hb:Below w.heap.size w w'):gb X w' v p:=h.mono (λb _ aj=>hb.block b aj) (λ_ h=>h)
theorem Sl.narrow {α:Type}{X X':Nat->Prop}{k:Nat}{R R':List Value->α->Prop}{w:World}{v:Value}{l:List α}(h:Sl X k R w v l)(hk:0<k)(hR:∀cs x,R cs x->R' cs x)(hX:∀b,b<w.heap.size->X' b->X b):Sl X' k R' w v l:=by
 unfold Sl at h ⊢
 obtain⟨a,c,he,hc,h⟩:=h;refine⟨a,c,he,hc,λi x hx=>?_⟩;obtain⟨b,o,cs,ha,hb,il,aU,hr⟩:=h i x hx;have h0:=aU 0 cs[0] (List.getElem?_eq_getElem (by omega));exact⟨b,o,cs,ha,λhh=>hb (hX b (World.block_lt_of_cell? w _ h0) hh),il,aU,hR _ _ hr⟩
theorem cL.narrow {X X':Nat->Prop}{w:World}{v:Value}{c:aD}(h:cL X w v c)(hX:∀b,b<w.heap.size->X' b->X b):cL X' w v c:=by
 obtain⟨sv,iv,rfl,h1,h2⟩:=h;refine⟨sv,iv,rfl,Sl.narrow h1 (by omega) (λcs x hx=>?_) hX,Sl.narrow h2 (by omega) (λ_ _ h=>h) hX⟩;obtain⟨u,rfl,hu⟩:=hx;exact⟨u,rfl,Sl.narrow hu (by omega) (λ_ _ h=>h) hX⟩
theorem dy.narrow {X X':Nat->Prop}{w:World}{cs:List Value}{r:bV}(h:dy X w cs r)(hX:∀b,b<w.heap.size->X' b->X b):dy X' w cs r:=by
 obtain⟨s1,i1,s2,i2,rfl,h1,h2⟩:=h;exact⟨s1,i1,s2,i2,rfl,h1.narrow hX,h2.narrow hX⟩
theorem gb.narrow {X X':Nat->Prop}{w:World}{v:Value}{p:bM}(h:gb X w v p)(hX:∀b,b<w.heap.size->X' b->X b):gb X' w v p:=by
 obtain⟨rv,rfl,h⟩:=h;exact⟨rv,rfl,Sl.narrow h (by omega) (λ_ _ h=>h.narrow hX) hX⟩
theorem jr {w:World}{b n:Nat}{e:TypeId}{cs xs:List Value}(h:aL w b e cs)(o:Nat)(hx:(cs.drop o).take n=xs)(hn:xs.length=n):aB w ⟨b,o,none⟩ 0 n=some xs:=by
 subst hn;refine ak xs 0 λj u hu=>?_;rw[Nat.zero_add];refine h.cell ?_;rw[<-hx]at hu
 have:=(List.getElem?_eq_some_iff.1 hu).1;rw[List.length_take]at this;rw[List.getElem?_take_of_lt (by omega),List.getElem?_drop]at hu;exact hu
theorem Ga {α:Type}(R:List Value->α->Prop)(g:FuncId)(cap:List Value)(f:α->Bool)(l:List α)(hl:l.length<1000000000)(X:Nat->Prop)(v:Value)(w:World)(hv:Sl X 5 R w v l)
  (hf:∀x∈l,∀cs,R cs x->cs.length=5->∀w',Below w.heap.size w w'->ar Tryz.prog g (elV cs::cap) w' λr bE=>r=.bool (f x)/\Below w'.heap.size w' bE) :
  ar Tryz.prog 120 [v,.func (.func g) #[] cap.toArray] w λr w'=>(∃n:Int,r=.int .i64 n/\(0<=n↔l.any f=true))/\Below w.heap.size w w':=by
 obtain⟨a,c,rfl,hc⟩:=hv.shape;refine aE Tryz.func120 rfl (by kernel_rfl) [4] rfl ?_;push_cast -dsimp(maxSteps:=4000000) [Tryz.ntmps120];refine aK [4,5,8,9,10,11,12,13,14,15,16,17,18] (λz wx=>∃(i:Nat),z 8=.int .i64 i/\i<=l.length/\(∀x∈l.take i,f x=false)/\Below w.heap.size w wx) (λz _=>l.length-(intOf (z 8)).toNat) ?_ ?_
 ·exact⟨0,rfl,Nat.zero_le _,by simp,Below.refl _ _⟩
 intro z wx hI;obtain⟨i,h8,hi,bU,hb⟩:=hI;push_cast -dsimp[h8];refine⟨λaj=>?_,λeo=>?_⟩
 ·obtain⟨x,hx,mm,hd,ht⟩:=ah (l:=l) (i:=i) (by omega);obtain⟨b,o,cs,ha,hX,hk,aU,hR⟩:=(hv.below hb).xw hx;subst ha;obtain⟨u0,u1,u2,u3,u4,rfl⟩:∃u0 u1 u2 u3 u4,cs=[u0,u1,u2,u3,u4]:=(match cs,hk with|[u0,u1,u2,u3,u4],_=>⟨u0,u1,u2,u3,u4,rfl⟩);have c0:aB wx ⟨b,o+i*5,none⟩ 0 5=some [u0,u1,u2,u3,u4]:=(ak [u0,u1,u2,u3,u4] 0 (λj u hu=>by simpa using aU j u hu));push_cast -dsimp[c0]
  refine⟨⟨by omega,by omega⟩,?_⟩;refine aA (hf x mm _ hR rfl wx hb) ?_;rintro _ w1 ⟨rfl,gU⟩;have oT:=hb.trans (gU.mono hb.size);push_cast -dsimp[Eo];refine⟨λyM=>?_,λgG=>?_⟩
  ·exact⟨⟨i,rfl,⟨λ_=>List.any_eq_true.2 ⟨x,mm,yM⟩,λ_=>by omega⟩⟩,oT⟩
  refine⟨⟨by omega,by omega⟩,⟨i+1,rfl,by omega,?_,oT⟩,by rw[h8];simp only[intOf];omega⟩;intro y hy;rw[ht,List.mem_append,List.mem_singleton]at hy;rcases hy with hy|rfl
  ·exact bU y hy
  exact gG
 refine⟨⟨-1,rfl,?_⟩,hb⟩;rw[List.take_of_length_le (by omega)]at bU;constructor
 ·intro h;omega
 intro h;obtain⟨x,hx,hn⟩:=List.any_eq_true.1 h;rw[bU x hx]at hn;cases hn
theorem yP {α:Type}(R:List Value->α->Prop)(g:FuncId)(cap:List Value)(f:α->Bool)(l:List α)(hl:l.length<1000000000)(X:Nat->Prop)(v:Value)(w:World)(hv:Sl X 5 R w v l)
  (hf:∀x∈l,∀cs,R cs x->cs.length=5->∀w',Below w.heap.size w w'->ar Tryz.prog g (elV cs::cap) w' λr bE=>r=.bool (f x)/\Below w'.heap.size w' bE) :
  ar Tryz.prog 86 [v,.func (.func g) #[] cap.toArray] w λr w'=>r=.bool (l.any f)/\Below w.heap.size w w':=by
 refine aE Tryz.func86 rfl (by kernel_rfl) [4] rfl ?_;push_cast -dsimp(maxSteps:=4000000) [Tryz.ntmps86];refine aA (Ga R g cap f l hl X v w hv hf) ?_;rintro r w1 ⟨⟨n,rfl,hn⟩,hb⟩;push_cast -dsimp;refine⟨?_,hb⟩;congr 1;cases h:l.any f with
 | true=>rw[h]at hn;exact decide_eq_true (hn.2 rfl)
 | false=>rw[h]at hn;exact decide_eq_false (λh0=>by have:=hn.1 h0;cases this)
theorem Jf (r:bV)(hl:mn r.before/\mn r.after)(X:Nat->Prop)(w:World)(cs:List Value)(hv:dy X w cs r) :
  ar Tryz.prog 87 [elV cs] w λu w'=>u=.bool (!(aS r.before && aS r.after))/\Below w.heap.size w w':=by
 obtain⟨s1,i1,s2,i2,rfl,h1,h2⟩:=hv
 show ar _ _ [.agg #[.bool r.brk,s1,i1,s2,i2]] _ _
 refine aE Tryz.func87 rfl (by kernel_rfl) [2] rfl ?_;push_cast -dsimp(maxSteps:=4000000) [Tryz.ntmps87];refine aR ?_;intro w1 aV;have il:cz (.agg #[.bool r.brk,s1,i1,s2,i2])=[.bool r.brk,s1,i1,s2,i2]:=rfl;rw[il]at aV;have d1:aB w1 ⟨w.heap.size,1,none⟩ 0 2=some [s1,i1]:=jr (n:=2) (xs:=[s1,i1]) aV.aM 1 rfl rfl;push_cast -dsimp[d1];refine aA (oX r.before hl.1.1 hl.1.2.1 hl.1.2.2 X _ w1 (h1.below aV.below)) ?_;rintro _ w2 ⟨rfl,dt⟩;have ph:=aV.size;have fx:=aV.below.trans (dt.mono (by omega));have d2:aB w2 ⟨w.heap.size,3,none⟩ 0 2=some [s2,i2]:=jr (n:=2) (xs:=[s2,i2]) (aV.aM.below dt (by omega)) 3 rfl rfl;cases hr:aS r.before with
 | false =>
  push_cast -dsimp;exact⟨by simp,fx⟩
 | true =>
  push_cast -dsimp[d2];refine aA (oX r.after hl.2.1 hl.2.2.1 hl.2.2.2 X _ w2 (h2.below fx)) ?_;rintro _ w3 ⟨rfl,gV⟩;push_cast -dsimp;exact fx.trans (gV.mono fx.size)
theorem j0 (p:bM)(hl:jo p)(X:Nat->Prop)(v:Value)(w:World)(hv:gb X w v p) :
  ar Tryz.prog 54 [v] w λu w'=>u=.bool (bB p)/\Below w.heap.size w w':=by
 obtain⟨rv,rfl,hr⟩:=hv;obtain⟨a,c,rfl,hc⟩:=hr.shape;refine aE Tryz.func54 rfl (by kernel_rfl) [2] rfl ?_;push_cast -dsimp(maxSteps:=4000000) [Tryz.ntmps54];refine aR ?_;intro w1 aV;have d0:w1.cell? ⟨w.heap.size,0,none⟩=some (.slice a p.rules.length c):=aV.cell rfl;push_cast -dsimp[d0];refine⟨λh1=>?_,λh1=>⟨by congr 1;unfold bB;rw[decide_eq_false (by omega)];rfl,aV.below⟩⟩;refine aA (yP (dy X w1) 87 [] (λr=>!(aS r.before && aS r.after)) p.rules (by omega) X _ w1 (oW.below hr aV.below) ?_) ?_
 ·intro r Cl cs hR _ w' Bx;exact Jf r (hl.2 r Cl) X w' cs (hR.below Bx)
 rintro _ w2 ⟨rfl,dt⟩;push_cast -dsimp;refine⟨?_,aV.below.trans (dt.mono aV.below.size)⟩;rw[EV];congr 1;unfold bB;rw[decide_eq_true (by omega),Bool.true_and]
end Go.Proofs.YtemjejfpadnljaaGreatDoor
end
section
namespace Go.Proofs.YtemjejfpadnljaaGreatDoor
open Go.Vc Go.Proofs Go.RowKit Cae
attribute [local irreducible] cg aa ag aX runK ar Sl Vc.Own vc aQ br a7
attribute [local irreducible] oL b8
theorem PL (x:I3)(w:World):ar Tryz.prog 116 [.agg #[.int .i64 x.op,.int .i64 x.a,.int .i64 x.b]] w λr w'=>r=.bool (decide (x.op=5))/\Below w.heap.size w w':=by
 refine aE Tryz.func116 rfl (by kernel_rfl) [2] rfl ?_;push_cast -dsimp(maxSteps:=4000000) [Tryz.ntmps116];refine aR ?_;intro w1 aV;have c0:w1.cell? ⟨w.heap.size,0,none⟩=some (.int .i64 x.op):=aV.cell rfl;push_cast -dsimp[c0];exact aV.below
def iI (w:World):Prop:=∃a cp,w.cell? ⟨1,1,none⟩=some (.slice a 2 cp)/\Sl (λ_=>False) 3 (En bN) w (.slice a 2 cp) [⟨1,0,0⟩,⟨5,0,0⟩]
theorem iI.below {w w':World}(h:iI w)(hb:Below w.heap.size w w'):iI w':=by
 obtain⟨a,cp,h1,h2⟩:=h;exact⟨a,cp,(Kept.aN hb (X:=λ_=>False) (λk hk hl=>by omega)).cell h1 id,h2.below hb⟩
def NM (X:Nat->Prop)(c:aD)(r:Value)(w':World):Prop :=
 if aS c=true then ∃d v,r=.tuple #[v,.nilIface]/\fU c d/\cL X w' v d else r=.tuple #[.agg #[.slice none 0 0,.slice none 0 0],.iface 74 (.int .i64 1)]
theorem Uf (c:aD)(Ic:jq c)(hi:c.ins.length<1000000)(hs:c.sets.length<1000000)(X:Nat->Prop)(v:Value)(w:World)(hX:∀b,X b->b<w.heap.size)(hN:iI w)(hv:cL X w v c) :
  ar Tryz.prog 73 [v] w λr w'=>NM X c r w'/\Below w.heap.size w w':=by
 have Nw:=hv;obtain⟨sv,iv,rfl,so,tS⟩:=hv;obtain⟨a,cp,rfl,Qc⟩:=tS.shape;have GH:=so.shape;obtain⟨sa,sc,rfl,CH⟩:=GH;refine gh Tryz.func73 rfl (by kernel_rfl) [.cell 2 127,.tmp 3] rfl ?_;push_cast -dsimp(maxSteps:=4000000) [Tryz.ntmps73];refine aR ?_;intro w1 aV;have aV:mg w w1 127 [.slice sa c.sets.length sc,.slice a c.ins.length cp]:=aV;have ph:=aV.size;push_cast -dsimp;refine ao (z:=[.slice none 0 0,.slice none 0 0]) (by kernel_rfl) ?_;intro w2 bH;have BV:=bH.size;have dt:Below w.heap.size w w2:=aV.below.trans (bH.below.mono (by omega));have fx:aL w2 w.heap.size 127 [.slice sa c.sets.length sc,.slice a c.ins.length cp]:=aV.aM.below bH.below (by omega);have xz:aL w2 w1.heap.size 127 [.slice none 0 0,.slice none 0 0]:=bH.aM;have d2:=fx.aB;simp only[List.length_cons,List.length_nil,Nat.zero_add,Nat.reduceAdd]at d2;push_cast -dsimp[d2];refine aA (oX c Ic (by omega) (by omega) _ _ w2 (Nw.below dt)) ?_;rintro _ w3 ⟨rfl,gV⟩;have Kf:=gV.size;have L5:=fx.below gV (by omega);have Zy:=xz.below gV (by omega);have cM:Below w.heap.size w w3:=dt.trans (gV.mono (by omega));unfold NM;cases hR:aS c with
 | false =>
  push_cast -dsimp;refine aH (n:=2) (by kernel_rfl) Zy rfl (by simp) (by simp[Value.oneCell']) ?_;intro w4 ae;have q4:aB w4 ⟨w1.heap.size,0,none⟩ 0 2=some [.slice none 0 0,.slice none 0 0]:=ae.aM.aB;push_cast -dsimp[q4,Bool.false_eq_true,if_false];exact cM.trans (ae.kept.below (by omega) (λ_ h=>by omega))
 | true =>
  have hCR:=CR.of hR;have d3:=L5.aB;simp only[List.length_cons,List.length_nil,Nat.zero_add,Nat.reduceAdd]at d3;push_cast -dsimp[d3];refine ao (z:=[.slice none 0 0,.slice none 0 0]) (by kernel_rfl) ?_;intro w4 ae;have KB:=ae.size;push_cast -dsimp;refine aH (n:=2) (by kernel_rfl) ae.aM rfl (by simp) (by simp[Value.oneCell']) ?_;intro w5 cH;have Mq:=cH.size;have k5:Kept (λj=>j=w3.heap.size) w3 w5:=(Kept.new ae).trans cH.kept (λ_ _ h=>h);have Fk:=L5.kept k5 (by omega);have hR5:=Zy.kept k5 (by omega);have hW5:aL w5 w3.heap.size 127 [.slice sa c.sets.length sc,.slice a c.ins.length cp]:=cH.aM;have mj:Below w.heap.size w w5:=cM.trans (k5.below (by omega) (λ_ h=>by omega));have Lu:cL (λj=>X j\/j=w.heap.size\/j=w1.heap.size) w (.agg #[.slice sa c.sets.length sc,.slice a c.ins.length cp]) c:=Nw.narrow (λb hb h=>by rcases h with h|h|h;exact h;omega;omega);push_cast -dsimp;refine aK [11,12,13,14,15,16,17,18,19,20,21,22,23,24,25] (λz wx=>∃(k:Nat) (d:aD) (sa':Option Addr) (sc':Nat) (a':Option Addr) (c':Nat),z 11=.int .i64 k/\k<=3/\fU c d/\aL wx w.heap.size 127 [.slice sa' d.sets.length sc',.slice a' d.ins.length c']/\cL (λj=>X j\/j=w.heap.size\/j=w1.heap.size) wx (.agg #[.slice sa' d.sets.length sc',.slice a' d.ins.length c']) d /\
    aL wx w1.heap.size 127 [.slice none 0 0,.slice none 0 0]/\aL wx w3.heap.size 127 [.slice sa c.sets.length sc,.slice a c.ins.length cp]/\Below w.heap.size w wx/\w5.heap.size<=wx.heap.size) (λz _=>3-(intOf (z 11)).toNat) ?_ ?_
  ·exact⟨0,c,sa,sc,a,cp,rfl,by omega,fU.refl hCR Ic,Fk,Lu.below mj,hR5,hW5,mj,Nat.le_refl _⟩
  intro z wx hI;obtain⟨k,d,sa',sc',a',c',Vf,Cj,hL,ns,hvx,vf,hWx,eW,yS⟩:=hI;push_cast -dsimp[Vf];refine⟨λaj=>?_,λeo=>?_⟩
  ·have dx:=ns.aB;simp only[List.length_cons,List.length_nil,Nat.zero_add,Nat.reduceAdd]at dx;push_cast -dsimp[dx];refine aA (Mu d hL.cr (λj=>X j\/j=w.heap.size\/j=w1.heap.size) _ wx (λb h=>by rcases h with h|h|h;(have:=hX b h;omega);omega;omega) hvx) ?_;rintro tv wa ⟨hta,vJ⟩;have T0:=vJ.size;have hT:=hL.aGf;push_cast -dsimp;refine aA (aA8 (oL d) hT.cr (λj=>X j\/j=w.heap.size\/j=w1.heap.size) tv wa (λb h=>by rcases h with h|h|h;(have:=hX b h;omega);omega;omega) hta hT.lens) ?_;rintro _ wb ⟨⟨is,sv2,iv2,rfl,hC,Qr,GD⟩,j6⟩;have Ms:=j6.size;have hls:=hT.Wv hC;obtain⟨xB,od,Nn,CE,hl5⟩:=hls;have eo:∃e,e=b8 (oL d) is:=⟨_,rfl⟩;obtain⟨e,he⟩:=eo;rw[<-he]at xB od Nn CE hl5 Qr GD;have aNn:=GD.slice;obtain⟨a2,c2,rfl⟩:=aNn;have hBb:aL wb w.heap.size 127 [.slice sa' d.sets.length sc',.slice a' d.ins.length c']:=(ns.below vJ (by omega)).below j6 (by omega);have N8:=(vf.below vJ (by omega)).below j6 (by omega);have hWb:=(hWx.below vJ (by omega)).below j6 (by omega);have dE:Below w.heap.size w wb:=(eW.trans (vJ.mono (by omega))).trans (j6.mono (by omega));have gY:=Qr.shape;obtain⟨Gm,Gp,rfl,_⟩:=gY;push_cast -dsimp;refine aH (n:=2) (by kernel_rfl) hBb rfl (by simp) (by simp[Value.oneCell']) ?_;intro wc jV;have ZA:=jV.size;have hBc:aL wc w.heap.size 127 [.slice Gm e.sets.length Gp,.slice a2 e.ins.length c2]:=jV.aM;have Bu:=N8.kept jV.kept (by omega);have hWc:=hWb.kept jV.kept (by omega);have aOu:Below w.heap.size w wc:=dE.trans (jV.kept.below (by omega) (λ_ h=>by omega))
   have hvc:cL (λj=>X j\/j=w.heap.size\/j=w1.heap.size) wc (.agg #[.slice Gm e.sets.length Gp,.slice a2 e.ins.length c2]) e :=
    nk (sets:=e.sets) (base:=wa.heap.size) (λb h=>by rcases h with h|h|h;(have:=hX b h;omega);omega;omega) ((dp.kept Qr jV.kept (λb h=>.inl (.inr (.inl h)))).mono (λ_ _ _=>rfl) (λb h=>.inl h)) (GD.aJ jV.kept (λg hg h=>by have:=GD.block g hg;omega)) rfl
   have aNl:=GD.aJ jV.kept (λg hg h=>by have:=GD.block g hg;omega);have aOf:dp (λb=>(X b\/b=w.heap.size\/b=w1.heap.size)\/(Value.slice a2 e.ins.length c2).ownBlock=some b) wc (.slice Gm e.sets.length Gp) e.sets:=dp.kept Qr jV.kept (λb h=>.inl (.inr (.inl h)));have qc:=hBc.aB;simp only[List.length_cons,List.length_nil,Nat.zero_add,Nat.reduceAdd]at qc;push_cast -dsimp[qc];refine aA (oX e hl5 (by omega) (by omega) _ _ wc hvc) ?_;rintro _ wd ⟨rfl,pd⟩;have ZB:=pd.size;have zn:=hBc.below pd (by omega);have hRd:=Bu.below pd (by omega);have hWd:=hWc.below pd (by omega);have aJM:Below w.heap.size w wd:=aOu.trans (pd.mono (by omega));cases N9:aS e with
   | true =>
    have hLe:=xB N9;push_cast -dsimp;exact⟨⟨by omega,by omega⟩,⟨k+1,e,Gm,Gp,a2,c2,rfl,by omega,hLe,zn,hvc.below pd,hRd,hWd,aJM,by omega⟩,by rw[Vf];simp only[intOf];omega⟩
   | false =>
    have hLe:=od N9;have hlm:=hLe.cr.many;have cd:wd.cell? ⟨w.heap.size,1,none⟩=some (.slice a2 e.ins.length c2):=zn.cell rfl;push_cast -dsimp[cd];refine cG ee rfl rfl (by omega) ?_;intro we lE;have Kg:=lE.size;have aNm:=(aNl.aJ (Kept.aN pd (X:=λ_=>False) (λk hk hl=>by omega)) (λ_ _ h=>h)).new lE;push_cast -dsimp;refine aW (base:=wa.heap.size) [DK] (enc:=bN) ee aNm (by rfl) (λj u hu=>by simpa[bN] using lE.cell hu) jA (by simp only[List.length_cons,List.length_nil];omega) (by omega) ?_;intro ve wf hof hgf hnf;have GI:=hof.slice;obtain⟨a3,c3,rfl⟩:=GI;have kf:Kept (λj=>(Value.slice a2 e.ins.length c2).ownBlock=some j) we wf:=Kept.grown hgf (λ_ h=>h);have ha7:∀g,(Value.slice a2 e.ins.length c2).ownBlock=some g->wa.heap.size<=g:=λg hg=>(GD.block g hg).1;have kdf:Kept (λj=>(Value.slice a2 e.ins.length c2).ownBlock=some j) wd wf:=(Kept.new lE).trans kf (λ_ _ h=>h);have szf:=kdf.size;have hBf:=zn.kept kdf (λh=>by have:=ha7 _ h;omega);have hRf:=hRd.kept kdf (λh=>by have:=ha7 _ h;omega);have hWf:=hWd.kept kdf (λh=>by have:=ha7 _ h;omega);push_cast -dsimp;refine aC hBf (by simp) rfl ?_;intro wg lF;have szg:=lF.size;push_cast -dsimp;have hvg:cL (λj=>X j\/j=w.heap.size\/j=w1.heap.size) wg (.agg #[.slice Gm e.sets.length Gp,.slice a3 (e.ins++[DK]).length c3]) ⟨e.sets,e.ins++[DK]⟩ :=
     nk (sets:=e.sets) (base:=wa.heap.size) (λb h=>by rcases h with h|h|h;(have:=hX b h;omega);omega;omega) (dp.mono (dp.kept (dp.kept (aOf.below pd) kdf (λb h=>.inr h)) lF.kept (λb h=>.inl (.inr (.inl h)))) (λ_ _ _=>rfl) (λb h=>.inl h)) (hof.aJ lF.kept (λg hg h=>by have:=(hof.block g hg).1;omega)) rfl
    exact⟨⟨by omega,by omega⟩,⟨k+1,⟨e.sets,e.ins++[DK]⟩,Gm,Gp,a3,c3,rfl,by omega,hLe,lF.aM,hvg,hRf.kept lF.kept (by omega),hWf.kept lF.kept (by omega),aJM.trans ((kdf.below (by omega) (λg h=>by have:=ha7 g h;omega)).trans (lF.kept.below (by omega) (λ_ h=>by omega))),by omega⟩,by rw[Vf];simp only[intOf];omega⟩
  have CD:k=3:=by omega
  subst CD;have hdm:=hL.cr.many;have hdl:=hL.len;have aOs:=hvx;obtain⟨_,_,he,ny,hix⟩:=hvx;cases he;have c1:wx.cell? ⟨w.heap.size,1,none⟩=some (.slice a' d.ins.length c'):=ns.cell rfl;push_cast -dsimp[c1];refine aA (sF (En bN) 116 [] (λx=>decide (x.op=5)) d.ins (by omega) _ _ wx hix ?_) ?_
  ·rintro y hy cs rfl _ w' Bx;exact PL y w'
  rintro _ wa ⟨rfl,vJ⟩;have T0:=vJ.size;have hBa:=ns.below vJ (by omega);have hRa:=vf.below vJ (by omega);have hWa:=hWx.below vJ (by omega);have fu:Below w.heap.size w wa:=eW.trans (vJ.mono (by omega));have Wb:=aOs.below vJ;have t1:wa.cell? ⟨w3.heap.size,1,none⟩=some (.slice a c.ins.length cp):=hWa.cell rfl;have t2:wa.cell? ⟨w.heap.size,1,none⟩=some (.slice a' d.ins.length c'):=hBa.cell rfl;cases aAg:d.ins.any (λx=>decide (x.op=5)) with
  | false =>
   push_cast -dsimp[t1];refine⟨λh2=>?_,λh2=>?_⟩
   ·refine cG nA rfl rfl (by omega) ?_;intro wb dE;have Ms:=dE.size;have N8:=hRa.below dE.below (by omega);have aJL:Below w.heap.size w wb:=fu.trans (dE.below.mono (by omega));have hNb:=hN.below aJL;obtain⟨na,nc,hn1,Yw⟩:=hNb;have ho:=dE.own (base:=wa.heap.size) (k:=1) (n:=1) (enc:=j9) (l:=[⟨none,0,0⟩]) rfl rfl (λ_=>rfl) (Nat.le_refl _) (by omega);push_cast -dsimp[hn1];refine aA (zR [⟨1,0,0⟩,⟨5,0,0⟩] (by decide) (λ_=>False) _ wb Yw (by simp)) ?_;rintro vc wc ⟨hoc,vh⟩;have ZA:=vh.size;have Bu:=N8.below vh (by omega);have aOv:Below w.heap.size w wc:=aJL.trans (vh.mono (by omega));have hos:=hoc.slice;obtain⟨ca,cc,rfl⟩:=hos;push_cast -dsimp;refine aH (n:=2) (by kernel_rfl) Bu rfl (by simp) (by simp[Value.oneCell']) ?_;intro wd iT;have ZB:=iT.size;have qd:aB wd ⟨w1.heap.size,0,none⟩ 0 2=some [.slice (some ⟨wa.heap.size,0,none⟩) 1 1,.slice ca ([⟨1,0,0⟩,⟨5,0,0⟩]:List I3).length cc]:=iT.aM.aB;push_cast -dsimp[qd,if_true];have hod:=(ho.aJ (Kept.aN vh (X:=λ_=>False) (λk hk hl=>by omega)) (λ_ _ h=>h)).aJ iT.kept (λg hg h=>by have:=(ho.block g hg).1;omega);have aNR:=hoc.aJ iT.kept (λg hg h=>by have:=(hoc.block g hg).1;omega);refine⟨⟨tB,_,rfl,hL.never aAg (by omega),?_⟩,aOv.trans (iT.kept.below (by omega) (λ_ h=>by omega))⟩;refine nk (sets:=[[]]) (base:=w.heap.size) hX ?_ (aNR.mono (by omega)) rfl;refine dp.rO (us:=[⟨none,0,0⟩]) rfl (hod.sl.weaken λb h=>by have:=hX b h;omega) (λi u s hu hs=>?_);cases i with
    | zero =>
     simp only[List.getElem?_cons_zero,Option.some.injEq]at hu hs;subst hu hs;exact Sl.nil _ _ _ _ _ _
    | succ i=>simp at hs
   ·
    have t1:wa.cell? ⟨w3.heap.size,1,none⟩=some (.slice a c.ins.length cp):=hWa.cell rfl
    have t2:wa.cell? ⟨w.heap.size,1,none⟩=some (.slice a' d.ins.length c'):=hBa.cell rfl
    have qa:=hBa.aB
    simp only[List.length_cons,List.length_nil,Nat.zero_add,Nat.reduceAdd]at qa
    push_cast -dsimp[t1,t2,qa]
    refine⟨λ_=>?_,λh=>absurd h (by omega)⟩
    refine aA (oX d hL.lens (by omega) (by have:=hL.cr.sets;omega) _ _ wa Wb) ?_
    rintro _ wb ⟨rfl,j6⟩
    have Ms:=j6.size
    rw[hL.cr.to]
    have hBb:=hBa.below j6 (by omega)
    have N8:=hRa.below j6 (by omega)
    have qb:=hBb.aB
    simp only[List.length_cons,List.length_nil,Nat.zero_add,Nat.reduceAdd]at qb
    push_cast -dsimp[qb]
    refine aH (n:=2) (by kernel_rfl) N8 rfl (by simp) (by simp[Value.oneCell']) ?_
    intro wc jV
    have qc:aB wc ⟨w1.heap.size,0,none⟩ 0 2=some [.slice sa' d.sets.length sc',.slice a' d.ins.length c']:=jV.aM.aB
    push_cast -dsimp[qc,if_true]
    exact⟨⟨d,_,rfl,hL,((Wb.below j6).kept jV.kept (λb h=>.inr (.inr h))).mono (λ_ _ _=>rfl) (λ_ h=>.inl h)⟩,(fu.trans (j6.mono (by omega))).trans (jV.kept.below (by omega) (λ_ h=>by omega))⟩
  | true =>
   push_cast -dsimp;have t1:wa.cell? ⟨w3.heap.size,1,none⟩=some (.slice a c.ins.length cp):=hWa.cell rfl;have t2:wa.cell? ⟨w.heap.size,1,none⟩=some (.slice a' d.ins.length c'):=hBa.cell rfl;have qa:=hBa.aB;simp only[List.length_cons,List.length_nil,Nat.zero_add,Nat.reduceAdd]at qa;push_cast -dsimp[t1,t2,qa];refine⟨λ_=>?_,λh=>absurd h (by omega)⟩;refine aA (oX d hL.lens (by omega) (by have:=hL.cr.sets;omega) _ _ wa Wb) ?_;rintro _ wb ⟨rfl,j6⟩;have Ms:=j6.size;rw[hL.cr.to];have hBb:=hBa.below j6 (by omega);have N8:=hRa.below j6 (by omega);have qb:=hBb.aB;simp only[List.length_cons,List.length_nil,Nat.zero_add,Nat.reduceAdd]at qb;push_cast -dsimp[qb];refine aH (n:=2) (by kernel_rfl) N8 rfl (by simp) (by simp[Value.oneCell']) ?_;intro wc jV;have qc:aB wc ⟨w1.heap.size,0,none⟩ 0 2=some [.slice sa' d.sets.length sc',.slice a' d.ins.length c']:=jV.aM.aB;push_cast -dsimp[qc,if_true];exact⟨⟨d,_,rfl,hL,((Wb.below j6).kept jV.kept (λb h=>.inr (.inr h))).mono (λ_ _ _=>rfl) (λ_ h=>.inl h)⟩,(fu.trans (j6.mono (by omega))).trans (jV.kept.below (by omega) (λ_ h=>by omega))⟩
end Go.Proofs.YtemjejfpadnljaaGreatDoor
end
section
namespace Go.Vc
open Go.RowKit
theorem J1 {H:Type}{enc:TypeId×Value->H}{P:Program}{W:World}{base:Nat}{sp:Nat->Bool}{held:Bool}{α:Type}{t e:TypeId}{k:Nat}{R:List Value->α->Prop}{D:DataW H->α->Prop}(ht:P.underlying t=some (.slice e))(hc:P.cellsOf e=k)(hk:0<k)
  {fuel:Nat} {cs:List Value} {ds rs:List (DataW H)} {q:List MemPlace} (h:DataW.trod enc P W base sp held fuel t cs=some (.slice ds rs,q)) (yZ:∀n cs y,cs.length=k->DataW.trod enc P W base sp held n e cs=some y->∃x,R cs x/\D y.1 x) :
  ∃v l,cs=[v]/\Sl (λ_=>False) k R W v l/\l.length=ds.length/\∀(i:Nat) (d:DataW H) (y:α),ds[i]?=some d->l[i]?=some y->D d y:=by
 rcases DataW.trod_slice ht h with ⟨rfl,hx⟩|⟨a,len,cap,elems,rest,n,_,rfl,hx,_,TQ,_,hlen,he,_⟩
 ·simp at hx
 obtain⟨l,hl,hp⟩:=wW (λi (x:α)=>(∃ci:List Value,ci.length=k/\(∀j u,ci[j]?=some u->W.cell? ((a.add (i*k)).add j)=some u)/\R ci x)/\∀y,elems[i]?=some y->D y.1 x) len (λi hi=>by
  have hE:=he i hi;rw[hc]at hE;have hs:elems[i]?=some elems[i]:=List.getElem?_eq_getElem (by omega);rw[hs]at hE;obtain⟨ci,h1,h2⟩:=Option.bind_eq_some_iff.1 hE;obtain⟨h3,h4⟩:=LG h1;obtain⟨x,hx,hd⟩:=yZ n ci _ h3 h2;exact⟨x,⟨ci,h3,h4,hx⟩,λy hy=>by rw[hs]at hy;cases hy;exact hd⟩)
 have hds:ds=elems.map (·.1):=by
  have:=(Prod.mk.inj hx).1;injection this
 refine⟨_,l,rfl,⟨some a,cap,by rw[hl],by omega,λi x hx=>?_⟩,by rw[hds,List.length_map];omega,λi d y hd hy=>?_⟩
 ·obtain⟨⟨ci,h1,h2,h3⟩,_⟩:=hp i x hx;have hi0:=(List.getElem?_eq_some_iff.1 hx).1;obtain⟨⟨c0,g1,g2,_⟩,_⟩:=hp 0 l[0] (List.getElem?_eq_getElem (by omega));have h0:=g2 0 c0[0] (List.getElem?_eq_getElem (by omega));obtain⟨b,o,spot⟩:=a;have tT:spot=none:=by
   have:=World.cell?_spot h0;rw[Nat.zero_mul]at this;simpa[Addr.add] using this
  subst tT;exact⟨b,o,ci,rfl,id,h1,λj u hu=>by have:=h2 j u hu;rwa [add_lit,add_lit]at this,h3⟩
 rw[hds,List.getElem?_map]at hd;cases hj:elems[i]? with
 | none=>rw[hj]at hd;cases hd
 | some e =>
  rw[hj]at hd;simp only[Option.map_some,Option.some.injEq]at hd;subst hd;exact(hp i y hy).2 e hj
end Go.Vc
namespace Go.Proofs.YtemjejfpadnljaaGreatDoor
open Go.ChangeShapes Go.WideShapes Go.ChangeAt Go.Deep Go.RowKit Go.Vc Cae
section
variable {H:Type} {enc:TypeId×Value->H} {W:World} {base:Nat} {sp:Nat->Bool} {held:Bool}
theorem MY {n:Nat}{cs:List Value}{y:DataW H×List MemPlace}(h:DataW.trod enc Tryz.prog W base sp held n 164 cs=some y):∃r:I3,cs=bN r/\y.1=.agg [.lit (.int .i64 r.op),.lit (.int .i64 r.a),.lit (.int .i64 r.b)]:=by
 obtain⟨y0,y1,y2,m,hy,hl,h0,h1,h2⟩:=trod_struct3 Tryz.underlying164 h;rw[show Tryz.prog.cellsOf 164=3 by kernel_rfl]at hl
 match cs,hl with
 | [a,b,c],_ =>
  have Yj:DataW.trod enc Tryz.prog W base sp held m 3 (List.take (Tryz.prog.cellsOf 3) [a,b,c])=some y0:=h0;have QQ:DataW.trod enc Tryz.prog W base sp held m 3 (List.take (Tryz.prog.cellsOf 3) [b,c])=some y1:=h1;have h2':DataW.trod enc Tryz.prog W base sp held m 3 (List.take (Tryz.prog.cellsOf 3) [c])=some y2:=h2;rw[aHl]at Yj QQ h2';obtain⟨z0,e0,q0,_⟩:=DataW.trod_int Tryz.underlying3 Yj;obtain⟨z1,e1,q1,_⟩:=DataW.trod_int Tryz.underlying3 QQ;obtain⟨z2,e2,q2,_⟩:=DataW.trod_int Tryz.underlying3 h2';simp at e0 e1 e2;subst e0 e1 e2 q0 q1 q2;exact⟨⟨z0,z1,z2⟩,rfl,by rw[hy]⟩
end
theorem JR {W:World}{l:List (String×DataW Unit)}(hl:(l.filter λx=>x.1 == "caesura/opt.never")=[("caesura/opt.never",Rows.laid_caesura_opt_never)])(h:laidMetH Tryz.prog l W):iI W:=by
 have h:=h.filter (λx=>x.1 == "caesura/opt.never");rw[hl,MakeChecks.laidMetH_plain _ _ _ (by kernel_rfl)]at h;obtain⟨ps,⟨g,t,cs,fuel,p,q,hg,ht,hv,hd,_,_⟩,_,_⟩:=h;obtain rfl:=Option.some.inj ((show Tryz.prog.globalNamed "caesura/opt.never"=some 1 by kernel_rfl).symm.trans hg)
 obtain rfl:=Option.some.inj ((show (Tryz.prog.globals[1]?).map (·.type)=some 127 by kernel_rfl).symm.trans ht)
 obtain⟨y0,y1,m,hy,hlen,h0,h1⟩:=trod_struct2 Tryz.underlying127 hd;rw[show Tryz.prog.cellsOf 127=2 by kernel_rfl]at hlen
 obtain⟨lc⟩:=cs;match lc,hlen with
 | [a,b],_ =>
  have QQ:DataW.trod _ Tryz.prog W _ _ _ m 125 (List.take (Tryz.prog.cellsOf 125) [b])=some y1:=h1;rw[show Tryz.prog.cellsOf 125=1 by kernel_rfl]at QQ
  have hy1:=(List.cons.inj (List.cons.inj (DataW.agg.inj (Prod.mk.inj hy).1)).2).1;obtain⟨d1,q1⟩:=y1;have hy1:DataW.slice [.agg [.lit (.int .i64 1),.lit (.int .i64 0),.lit (.int .i64 0)],.agg [.lit (.int .i64 5),.lit (.int .i64 0),.lit (.int .i64 0)]] []=d1:=hy1;subst hy1;obtain⟨v,ins,e1,hi,I6,hD⟩:=J1 (k:=3) (R:=En bN) (D:=λd (r:I3)=>d=.agg [.lit (.int .i64 r.op),.lit (.int .i64 r.a),.lit (.int .i64 r.b)]) Tryz.underlying125 (by kernel_rfl) (by omega) QQ λn cs y _ hh=>MY hh;simp only[List.take_succ_cons,List.take_zero,List.cons.injEq,and_true]at e1;subst e1;have Ci:ins=[⟨1,0,0⟩,⟨5,0,0⟩]:=by
   match ins,I6 with
   | [⟨o,x,y⟩,⟨o',x',y'⟩],_ =>
    have k0:=hD 0 _ _ rfl rfl;have k1:=hD 1 _ _ rfl rfl;simp at k0 k1;obtain⟨rfl,rfl,rfl⟩:=k0;obtain⟨rfl,rfl,rfl⟩:=k1;rfl
  subst Ci;obtain⟨av,cv,rfl,_⟩:=hi.shape;exact⟨av,cv,by simpa using World.var?_cell hg hv 1,hi⟩
end Go.Proofs.YtemjejfpadnljaaGreatDoor
end
section
namespace Go.Proofs.YtemjejfpadnljaaGreatDoor
open Go.ChangeShapes Go.WideShapes Go.ChangeAt Go.RowKit Go.Vc Cae
def Wp:List (String×DataW Unit):=[("math/bits.deBruijn32tab",Rows.laid_math_bits_deBruijn32tab),("math/bits.deBruijn64tab",Rows.laid_math_bits_deBruijn64tab),("internal/strconv.uint64pow10",Rows.laid_internal_strconv_uint64pow10),("unicode/utf8.acceptRanges",Rows.laid_unicode_utf8_acceptRanges),("caesura/utf.least",Rows.laid_caesura_utf_least),("strconv.ErrRange",Rows.laid_strconv_ErrRange),("strconv.ErrSyntax",Rows.laid_strconv_ErrSyntax),("caesura/opt.never",Rows.laid_caesura_opt_never),("unicode/utf8.first",Rows.laid_unicode_utf8_first)]
noncomputable def aOW (os:Os):World :=
 { World.doorLaid Tryz.prog 78 os with heap:=(World.doorLaid Tryz.prog 78 os).heap.modify 5 λo=>match o with
  | .cells _ t x=>.cells (Go.Pinned.utf8FirstZ.map λ(n:Nat)=>Value.int .u8 (n:Int)).toArray t x
  | o=>o }
end Go.Proofs.YtemjejfpadnljaaGreatDoor
end
section
namespace Go.Proofs.YtemjejfpadnljaaGreatDoor
open Go.Vc Go.Proofs Go.RowKit Cae
attribute [local irreducible] cg aa ag aX runK ar Sl Vc.Own vc aQ br a7
def sN (c:aD)(ps:List Int):Value :=
 if aS c then .tuple #[.bool (e9 c ps).1,.int .i64 (e9 c ps).2,.nilIface] else .tuple #[.bool false,.int .i64 0,.iface 74 (.int .i64 1)]
theorem OH (c:aD)(ps:List Int)(hl:jq c)(hi:c.ins.length<1000000000)(hs:c.sets.length<1000000000)(sj:ps.length<1000000000)(X Xp:Nat->Prop)(v pv:Value)(w:World)(hv:cL X w v c)(Yx:Sl Xp 1 (En p3) w pv ps) :
  ar Tryz.prog 57 [v,pv] w λr w'=>r=sN c ps/\Below w.heap.size w w':=by
 have Nw:=hv;obtain⟨sv,iv,rfl,so,tS⟩:=Nw;obtain⟨a1,c1,rfl,Fz⟩:=so.shape;obtain⟨a2,c2,rfl,uI⟩:=tS.shape;obtain⟨a3,c3,rfl,hc3⟩:=Yx.shape;refine aE Tryz.func57 rfl (by kernel_rfl) [4,5,6] rfl ?_;push_cast -dsimp(maxSteps:=4000000) [Tryz.ntmps57];refine aR ?_;intro w1 aV;have d1:aB w1 ⟨w.heap.size,0,none⟩ 0 2=some [.slice a1 c.sets.length c1,.slice a2 c.ins.length c2]:=aV.aM.aB;push_cast -dsimp[d1];refine aA (oX c hl hi hs X _ w1 (hv.below aV.below)) ?_;rintro _ w2 ⟨rfl,dt⟩;have fx:Below w.heap.size w w2:=aV.below.trans (dt.mono (by have:=aV.size;omega));have aOh:=aV.size;cases hR:aS c with
 | false =>
  push_cast -dsimp;refine⟨?_,fx⟩;unfold sN;rw[hR];rfl
 | true =>
  have hc:=CR.of hR;have hn1:=hc.one;have Yw:=hc.many;have WB:aL w2 w.heap.size 127 [.slice a1 c.sets.length c1,.slice a2 c.ins.length c2]:=aV.aM.below dt aV.aM.lt;have e1:w2.cell? ⟨w.heap.size,1,none⟩=some (.slice a2 c.ins.length c2):=WB.cell rfl;push_cast -dsimp[e1];have nw:List.replicate c.ins.length (Value.bool false)=gX c.ins.length []:=by
   unfold gX;apply List.ext_getElem?;intro j;simp only[List.getElem?_map,List.getElem?_replicate];by_cases hj:j<c.ins.length
   ·simp[hj]
   simp[hj]
  refine aCq [8,9,22,23,24,25,26,27,28,29] (λz wx=>∃pA pB:Nat,z 8=.pointer (some ⟨pA,0,none⟩)/\z 9=.pointer (some ⟨pB,0,none⟩)/\Bp (λj=>w2.heap.size<=j) wx pA pB c.ins.length [] []/\Kept (λj=>w2.heap.size<=j) w2 wx) ?_ ?_
  ·refine vH (.one 0 (.one 4 (.two 1 (.one 2 (.two 3 (.one 5 (.one 6 (.one 7 (.one 8 (.one 9 .done))))) 5 (.one 6 (.two 3 (.one 7 (.one 8 (.one 9 .done))) 7 (.one 3 (.one 8 (.one 9 .done))))))) 5 (.one 6 (.two 1 (.one 2 (.two 3 (.one 7 (.one 8 (.one 9 .done))) 7 (.one 3 (.one 8 (.one 9 .done))))) 7 (.one 1 (.one 2 (.one 3 (.one 8 (.one 9 .done)))))))))) (λ_=>True) mixed (by kernel_rfl) trivial ?_;push_cast -dsimp;constructor
   ·refine xQ (z:=.bool false) o7 (by kernel_rfl) rfl (by omega) (by omega) ?_;intro y1 n1;refine⟨trivial,?_⟩;push_cast -dsimp;constructor
    ·refine aR ?_;intro y2 n2;refine⟨trivial,?_⟩;push_cast -dsimp;refine xQ (z:=.bool false) o7 (by kernel_rfl) rfl (by omega) (by omega) ?_;intro y3 n3;refine⟨trivial,?_⟩;push_cast -dsimp;refine aR ?_;intro y4 n4;refine⟨trivial,?_⟩;push_cast -dsimp;have s1:=n1.size;have s2:=n2.size;have s3:=n3.size;have s4:=n4.size;have s0:w2.drew.heap.size=w2.heap.size:=rfl;have b3:Below y3.heap.size y3 y4:=n4.below;have b2:Below y2.heap.size y2 y4:=n3.below.trans (b3.mono (by omega));have b1:Below y1.heap.size y1 y4:=n2.below.trans (b2.mono (by omega));have b4:Below y4.heap.size y4 y4:=Below.refl _ _;refine⟨y1.heap.size,y3.heap.size,rfl,rfl,⟨λj=>j=w2.drew.heap.size\/j=y1.heap.size,λj=>j=y2.heap.size\/j=y3.heap.size,⟨.slice none 0 0,w2.drew.heap.size,(n2.aM.below b2 n2.aM.lt),Vc.Own.nil (enc:=bT) _ _ (λ_=>rfl) _,by rw[<-nw];exact(n1.aM.below b1 n1.aM.lt),by omega,λg h=>by simp[Value.ownBlock]at h,.inr rfl,.inl rfl,bb.nil _⟩,⟨.slice none 0 0,y2.heap.size,(n4.aM.below b4 n4.aM.lt),Vc.Own.nil (enc:=bT) _ _ (λ_=>rfl) _,by rw[<-nw];exact(n3.aM.below b3 n3.aM.lt),by omega,λg h=>by simp[Value.ownBlock]at h,.inr rfl,.inl rfl,bb.nil _⟩,λj h1 h2=>by omega,λj h=>by omega,λj h=>by omega⟩,Kept.aN ((Below.refl w2.heap.size w2).drew.trans (n1.below.trans (b1.mono (by omega)))) (λi h _=>h)⟩
    refine xQ (z:=.bool false) o7 (by kernel_rfl) rfl (by omega) (by omega) ?_;intro y2 n2;refine⟨trivial,?_⟩;push_cast -dsimp;constructor
    ·refine aR ?_;intro y3 n3;refine⟨trivial,?_⟩;push_cast -dsimp;refine aR ?_;intro y4 n4;refine⟨trivial,?_⟩;push_cast -dsimp;have s1:=n1.size;have s2:=n2.size;have s3:=n3.size;have s4:=n4.size;have s0:w2.drew.heap.size=w2.heap.size:=rfl;have b3:Below y3.heap.size y3 y4:=n4.below;have b2:Below y2.heap.size y2 y4:=n3.below.trans (b3.mono (by omega));have b1:Below y1.heap.size y1 y4:=n2.below.trans (b2.mono (by omega));have b4:Below y4.heap.size y4 y4:=Below.refl _ _;refine⟨y2.heap.size,y3.heap.size,rfl,rfl,⟨λj=>j=w2.drew.heap.size\/j=y2.heap.size,λj=>j=y1.heap.size\/j=y3.heap.size,⟨.slice none 0 0,w2.drew.heap.size,(n3.aM.below b3 n3.aM.lt),Vc.Own.nil (enc:=bT) _ _ (λ_=>rfl) _,by rw[<-nw];exact(n1.aM.below b1 n1.aM.lt),by omega,λg h=>by simp[Value.ownBlock]at h,.inr rfl,.inl rfl,bb.nil _⟩,⟨.slice none 0 0,y1.heap.size,(n4.aM.below b4 n4.aM.lt),Vc.Own.nil (enc:=bT) _ _ (λ_=>rfl) _,by rw[<-nw];exact(n2.aM.below b2 n2.aM.lt),by omega,λg h=>by simp[Value.ownBlock]at h,.inr rfl,.inl rfl,bb.nil _⟩,λj h1 h2=>by omega,λj h=>by omega,λj h=>by omega⟩,Kept.aN ((Below.refl w2.heap.size w2).drew.trans (n1.below.trans (b1.mono (by omega)))) (λi h _=>h)⟩
    refine aR ?_;intro y3 n3;refine⟨trivial,?_⟩;push_cast -dsimp;refine aR ?_;intro y4 n4;refine⟨trivial,?_⟩;push_cast -dsimp;have s1:=n1.size;have s2:=n2.size;have s3:=n3.size;have s4:=n4.size;have s0:w2.drew.heap.size=w2.heap.size:=rfl;have b3:Below y3.heap.size y3 y4:=n4.below;have b2:Below y2.heap.size y2 y4:=n3.below.trans (b3.mono (by omega));have b1:Below y1.heap.size y1 y4:=n2.below.trans (b2.mono (by omega));have b4:Below y4.heap.size y4 y4:=Below.refl _ _;refine⟨y3.heap.size,y2.heap.size,rfl,rfl,⟨λj=>j=w2.drew.heap.size\/j=y3.heap.size,λj=>j=y1.heap.size\/j=y2.heap.size,⟨.slice none 0 0,w2.drew.heap.size,(n4.aM.below b4 n4.aM.lt),Vc.Own.nil (enc:=bT) _ _ (λ_=>rfl) _,by rw[<-nw];exact(n1.aM.below b1 n1.aM.lt),by omega,λg h=>by simp[Value.ownBlock]at h,.inr rfl,.inl rfl,bb.nil _⟩,⟨.slice none 0 0,y1.heap.size,(n3.aM.below b3 n3.aM.lt),Vc.Own.nil (enc:=bT) _ _ (λ_=>rfl) _,by rw[<-nw];exact(n2.aM.below b2 n2.aM.lt),by omega,λg h=>by simp[Value.ownBlock]at h,.inr rfl,.inl rfl,bb.nil _⟩,λj h1 h2=>by omega,λj h=>by omega,λj h=>by omega⟩,Kept.aN ((Below.refl w2.heap.size w2).drew.trans (n1.below.trans (b1.mono (by omega)))) (λi h _=>h)⟩
   refine xQ (z:=.bool false) o7 (by kernel_rfl) rfl (by omega) (by omega) ?_;intro y1 n1;refine⟨trivial,?_⟩;push_cast -dsimp;constructor
   ·refine xQ (z:=.bool false) o7 (by kernel_rfl) rfl (by omega) (by omega) ?_;intro y2 n2;refine⟨trivial,?_⟩;push_cast -dsimp;constructor
    ·refine aR ?_;intro y3 n3;refine⟨trivial,?_⟩;push_cast -dsimp;refine aR ?_;intro y4 n4;refine⟨trivial,?_⟩;push_cast -dsimp;have s1:=n1.size;have s2:=n2.size;have s3:=n3.size;have s4:=n4.size;have s0:w2.drew.heap.size=w2.heap.size:=rfl;have b3:Below y3.heap.size y3 y4:=n4.below;have b2:Below y2.heap.size y2 y4:=n3.below.trans (b3.mono (by omega));have b1:Below y1.heap.size y1 y4:=n2.below.trans (b2.mono (by omega));have b4:Below y4.heap.size y4 y4:=Below.refl _ _;refine⟨y2.heap.size,y3.heap.size,rfl,rfl,⟨λj=>j=y1.heap.size\/j=y2.heap.size,λj=>j=w2.drew.heap.size\/j=y3.heap.size,⟨.slice none 0 0,y1.heap.size,(n3.aM.below b3 n3.aM.lt),Vc.Own.nil (enc:=bT) _ _ (λ_=>rfl) _,by rw[<-nw];exact(n2.aM.below b2 n2.aM.lt),by omega,λg h=>by simp[Value.ownBlock]at h,.inr rfl,.inl rfl,bb.nil _⟩,⟨.slice none 0 0,w2.drew.heap.size,(n4.aM.below b4 n4.aM.lt),Vc.Own.nil (enc:=bT) _ _ (λ_=>rfl) _,by rw[<-nw];exact(n1.aM.below b1 n1.aM.lt),by omega,λg h=>by simp[Value.ownBlock]at h,.inr rfl,.inl rfl,bb.nil _⟩,λj h1 h2=>by omega,λj h=>by omega,λj h=>by omega⟩,Kept.aN ((Below.refl w2.heap.size w2).drew.trans (n1.below.trans (b1.mono (by omega)))) (λi h _=>h)⟩
    refine aR ?_;intro y3 n3;refine⟨trivial,?_⟩;push_cast -dsimp;refine aR ?_;intro y4 n4;refine⟨trivial,?_⟩;push_cast -dsimp;have s1:=n1.size;have s2:=n2.size;have s3:=n3.size;have s4:=n4.size;have s0:w2.drew.heap.size=w2.heap.size:=rfl;have b3:Below y3.heap.size y3 y4:=n4.below;have b2:Below y2.heap.size y2 y4:=n3.below.trans (b3.mono (by omega));have b1:Below y1.heap.size y1 y4:=n2.below.trans (b2.mono (by omega));have b4:Below y4.heap.size y4 y4:=Below.refl _ _;refine⟨y3.heap.size,y2.heap.size,rfl,rfl,⟨λj=>j=y1.heap.size\/j=y3.heap.size,λj=>j=w2.drew.heap.size\/j=y2.heap.size,⟨.slice none 0 0,y1.heap.size,(n4.aM.below b4 n4.aM.lt),Vc.Own.nil (enc:=bT) _ _ (λ_=>rfl) _,by rw[<-nw];exact(n2.aM.below b2 n2.aM.lt),by omega,λg h=>by simp[Value.ownBlock]at h,.inr rfl,.inl rfl,bb.nil _⟩,⟨.slice none 0 0,w2.drew.heap.size,(n3.aM.below b3 n3.aM.lt),Vc.Own.nil (enc:=bT) _ _ (λ_=>rfl) _,by rw[<-nw];exact(n1.aM.below b1 n1.aM.lt),by omega,λg h=>by simp[Value.ownBlock]at h,.inr rfl,.inl rfl,bb.nil _⟩,λj h1 h2=>by omega,λj h=>by omega,λj h=>by omega⟩,Kept.aN ((Below.refl w2.heap.size w2).drew.trans (n1.below.trans (b1.mono (by omega)))) (λi h _=>h)⟩
   refine aR ?_;intro y2 n2;refine⟨trivial,?_⟩;push_cast -dsimp;refine xQ (z:=.bool false) o7 (by kernel_rfl) rfl (by omega) (by omega) ?_;intro y3 n3;refine⟨trivial,?_⟩;push_cast -dsimp;refine aR ?_;intro y4 n4;refine⟨trivial,?_⟩;push_cast -dsimp;have s1:=n1.size;have s2:=n2.size;have s3:=n3.size;have s4:=n4.size;have s0:w2.drew.heap.size=w2.heap.size:=rfl;have b3:Below y3.heap.size y3 y4:=n4.below;have b2:Below y2.heap.size y2 y4:=n3.below.trans (b3.mono (by omega));have b1:Below y1.heap.size y1 y4:=n2.below.trans (b2.mono (by omega));have b4:Below y4.heap.size y4 y4:=Below.refl _ _;refine⟨y3.heap.size,y1.heap.size,rfl,rfl,⟨λj=>j=y2.heap.size\/j=y3.heap.size,λj=>j=w2.drew.heap.size\/j=y1.heap.size,⟨.slice none 0 0,y2.heap.size,(n4.aM.below b4 n4.aM.lt),Vc.Own.nil (enc:=bT) _ _ (λ_=>rfl) _,by rw[<-nw];exact(n3.aM.below b3 n3.aM.lt),by omega,λg h=>by simp[Value.ownBlock]at h,.inr rfl,.inl rfl,bb.nil _⟩,⟨.slice none 0 0,w2.drew.heap.size,(n2.aM.below b2 n2.aM.lt),Vc.Own.nil (enc:=bT) _ _ (λ_=>rfl) _,by rw[<-nw];exact(n1.aM.below b1 n1.aM.lt),by omega,λg h=>by simp[Value.ownBlock]at h,.inr rfl,.inl rfl,bb.nil _⟩,λj h1 h2=>by omega,λj h=>by omega,λj h=>by omega⟩,Kept.aN ((Below.refl w2.heap.size w2).drew.trans (n1.below.trans (b1.mono (by omega)))) (λi h _=>h)⟩
  intro z w6 hJ;obtain⟨pA0,pB0,h8,h9,hT,k26⟩:=hJ;push_cast -dsimp[h8,h9];refine aA (oM hT (k:=0) (by omega) (by omega)) ?_;rintro _ w7 ⟨yA,k67⟩;have k27:Kept (λj=>w2.heap.size<=j) w2 w7:=k26.trans k67 (λ_ _ h=>h);have s26:=k26.size;have yA:Bp (λj=>w2.heap.size<=j) w7 pA0 pB0 c.ins.length [0] []:=yA.narrow (λj h _=>by omega);clear hT k26 k67 d1 nw;push_cast -dsimp;refine aK [4,5,6,8,9,10,11,12,13,14,32,33,34,35,36,37,38,39,40,41,42,43,44,45,46,47,48,49,50,51,52,53,54,55,56,57,58,59,60,61,62,63,64,65,66,67,68,69,70,71,72,73,74,75,76,77,78,79,80,81,82,83,84,85,86,87,88,89,90,91,92,93,94,95,96,97,98,99,100,101,102,103,104,105,106,107,108,109,110,111,112,113,114,115,116,117,118,119,120,121,122,123,124,125] (λz wx=>∃(i st pA pB:Nat) (q:List Nat),z 11=.int .i64 i/\z 10=.int .i64 st/\z 8=.pointer (some ⟨pA,0,none⟩)/\z 9=.pointer (some ⟨pB,0,none⟩)/\i<=ps.length/\st<=i*2001 /\
   outer c (ps.drop i) q st=e9 c ps/\Bp (λj=>w2.heap.size<=j) wx pA pB c.ins.length q []/\Kept (λj=>w2.heap.size<=j) w2 wx) (λz _=>ps.length-(intOf (z 11)).toNat) ?_ ?_
  ·exact⟨0,0,pA0,pB0,[0],rfl,rfl,rfl,rfl,Nat.zero_le _,Nat.le_refl _,rfl,yA,k27⟩
  intro z wx hI;obtain⟨i,st0,pA,pB,q,Vf,K1,h8,h9,hip,cI,im,hT,hk⟩:=hI;push_cast -dsimp[Vf,K1,h8,h9];rw[X6 c ps i q st0 hip]at im;generalize hR0:inner c ps[i]? (c.ins.length+1) q 0 [] st0=R0 at im;refine aK [4,5,6,10,12,13,14,34,35,36,37,38,39,40,41,42,43,44,45,46,47,48,49,50,51,52,53,54,55,56,57,58,59,60,61,62,63,64,65,66,67,68,69,70,71,72,73,74,75,76,77,78,79,80,81,82,83,84,85,86,87,88,89,90,91,92,93,94,95,96,97,98,99,100,101,102,103,104,105,106,107,108] (λz' wy=>∃(k st:Nat) (q' nx:List Nat),z' 12=.int .i64 k/\z' 10=.int .i64 st/\k<=q'.length/\st<=st0+k/\inner c ps[i]? (c.ins.length+1-k) q' k nx st=R0 /\
   Bp (λj=>w2.heap.size<=j) wy pA pB c.ins.length q' nx/\Kept (λj=>w2.heap.size<=j) w2 wy) (λz' _=>c.ins.length+1-(intOf (z' 12)).toNat) ?_ ?_
  ·exact⟨0,st0,q,[],rfl,rfl,Nat.zero_le _,Nat.le_refl _,hR0,hT,hk⟩
  intro z' wy hI;obtain⟨k,st,q',nx,CU,K1,HN,aT6,mc,hT,hk⟩:=hI;obtain⟨al,cl,cA,hqs⟩:=hT.read;have hP:=hT.places;have hql:=hP.1.len;have aCX:=WB.kept hk (by have:=WB.lt;show ¬w2.heap.size<=w.heap.size;omega)
  have b0:wy.cell? ⟨w.heap.size,0,none⟩=some (.slice a1 c.sets.length c1):=aCX.cell rfl;have b1:wy.cell? ⟨w.heap.size,1,none⟩=some (.slice a2 c.ins.length c2):=aCX.cell rfl;push_cast -dsimp[CU,K1,cA,h8,h9];refine⟨λaj=>?_,λeo=>?_⟩
  ·have Yl:Below w.heap.size w wy:=fx.trans (hk.below fx.size (λ_ h=>by have:=fx.size;omega));have hex:∃(at_:Nat) (x:I3) (bq oq bi oi:Nat),q'[k]?=some at_/\at_<c.ins.length/\c.ins[at_]?=some x/\al=some ⟨bq,oq,none⟩/\a2=some ⟨bi,oi,none⟩/\wy.cell? ⟨bq,oq+k,none⟩=some (.int .i64 at_) /\
     aB wy ⟨bi,oi+at_*3,none⟩ 0 3=some [.int .i64 x.op,.int .i64 x.a,.int .i64 x.b]:=by
    obtain⟨at_,Fs,aMx,_,_⟩:=ah (l:=q') (i:=k) (by omega);have aEy:=hP.1.2 at_ aMx;obtain⟨bq,oq,hal,_,aEK⟩:=hqs.get Fs;obtain⟨x,hx,mm,_,_⟩:=ah (l:=c.ins) (i:=at_) aEy;obtain⟨bi,oi,hai,_,aEJ⟩:=(tS.below Yl).get hx;exact⟨at_,x,bq,oq,bi,oi,Fs,aEy,hx,hal,hai,by simpa using aEK 0 _ rfl,ak (bN x) 0 (λj u hu=>by simpa using aEJ j u hu)⟩
   refine Exists.elim hex λat_ hex=>Exists.elim hex λx hex=>Exists.elim hex λbq hex=>Exists.elim hex λoq hex=>Exists.elim hex λbi hex=>Exists.elim hex λoi hex=>?_;have Fs:=hex.1;have aEy:=hex.2.1;have hx:=hex.2.2.1;have hal:=hex.2.2.2.1;have hai:=hex.2.2.2.2.1;have cq:=hex.2.2.2.2.2.1;have ci:=hex.2.2.2.2.2.2;clear hex;push_cast -dsimp[hal,cq,b1,nW hai,ci];obtain⟨f,hf⟩:∃f,c.ins.length+1-k=f+1:=⟨c.ins.length-k,by omega⟩;have Yt:c.ins.length+1-(k+1)=f:=by omega
   rw[hf]at mc;have aCY:=cJ (hc.ins at_ x hx);have xC:=hc.next at_ x hx;refine⟨⟨by omega,by omega⟩,⟨by omega,by omega⟩,⟨by omega,by omega⟩,?_⟩;refine ao (z:=[.int .i64 0,.int .i64 0,.int .i64 0]) (by kernel_rfl) ?_;intro wz0 aAS;push_cast -dsimp;refine aH (n:=3) (by kernel_rfl) aAS.aM rfl (by simp) (by simp[Value.oneCell']) ?_;intro wz AO;have aT8:wz.heap.size=wy.heap.size+1:=by rw[AO.size,aAS.size]
   have kz:Kept (λj=>j=wy.heap.size) wy wz:=(Kept.new aAS).trans AO.kept (λ_ _ h=>h);have o0:wz.cell? ⟨wy.heap.size,0,none⟩=some (.int .i64 x.op):=AO.aM.cell rfl;have ns:aL wz wy.heap.size 164 [.int .i64 x.op,.int .i64 x.a,.int .i64 x.b]:=AO.aM;have vg:Bp (λj=>w2.heap.size<=j/\j<wy.heap.size) wz pA pB c.ins.length q' nx:=(hT.narrow (λj h hl=>⟨h,hl⟩)).kept kz (λj h _ hh=>by omega);have hkz:Kept (λj=>w2.heap.size<=j) w2 wz:=hk.trans kz (λi hi h=>by subst h;exact hk.size);have sy:=hk.size;clear AO aAS hT kz;push_cast -dsimp[o0];refine⟨λh5=>?_,λh5=>⟨λh2=>?_,λh2=>⟨λh3=>?_,λh3=>⟨λh4=>?_,λh4=>?_⟩⟩⟩⟩
   ·rw[RC Fs hx h5]at mc;subst mc;dsimp only at im;unfold sN;rw[hR,<-im];exact⟨rfl,fx.trans (hkz.below fx.size (λ_ h=>by have:=fx.size;omega))⟩
   ·rw[oo Fs hx h5]at mc;have hr:0<=x.a/\x.a<c.ins.length/\0<=x.b/\x.b<c.ins.length:=by omega
    have ea:x.a=(x.a.toNat:Int):=by omega
    have eb:x.b=(x.b.toNat:Int):=by omega
    have o1:wz.cell? ⟨wy.heap.size,1,none⟩=some (.int .i64 (x.a.toNat:Int)):=by rw[<-ea];exact ns.cell rfl
    push_cast -dsimp[o1];refine aA (oM vg (k:=x.a.toNat) (by omega) (by omega)) ?_;rintro _ w5 ⟨hT5,CC⟩;have aLM:=ns.kept CC (by omega);have o2:w5.cell? ⟨wy.heap.size,2,none⟩=some (.int .i64 (x.b.toNat:Int)):=by rw[<-eb];exact aLM.cell rfl
    push_cast -dsimp[o2];refine aA (oM hT5 (k:=x.b.toNat) (by omega) (by omega)) ?_;rintro _ w6 ⟨Bv,Yv⟩;have Pk:(fA c ps[i]? x at_ q' nx)=(jM (jM q' x.a.toNat) x.b.toNat,nx):=by unfold fA;rw[if_pos h2]
    rw[Pk]at mc;have Mq:=CC.size;have QW:=Bv.narrow (D':=λj=>w2.heap.size<=j) (λj h _=>by omega);have HL:Kept (λj=>w2.heap.size<=j) w2 w6:=(hkz.trans CC (λ_ _ h=>h.1)).trans Yv (λi hi h=>by omega);have hlen:q'.length<=(jM (jM q' x.a.toNat) x.b.toNat).length:=Nat.le_trans (tc _ _) (tc _ _);push_cast -dsimp;refine⟨⟨by omega,by omega⟩,⟨k+1,st+1,_,_,by simp,by simp,by omega,by omega,?_,QW,HL⟩,by rw[CU];simp only[intOf];omega⟩;rw[Yt];exact mc
   ·rw[oo Fs hx h5]at mc;have hr:0<=x.a/\x.a<c.ins.length:=by omega
    have ea:x.a=(x.a.toNat:Int):=by omega
    have o1:wz.cell? ⟨wy.heap.size,1,none⟩=some (.int .i64 (x.a.toNat:Int)):=by rw[<-ea];exact ns.cell rfl
    push_cast -dsimp[o1];refine aA (oM vg (k:=x.a.toNat) (by omega) (by omega)) ?_;rintro _ w6 ⟨hT5,CC⟩;have Pk:(fA c ps[i]? x at_ q' nx)=(jM q' x.a.toNat,nx):=by unfold fA;rw[if_neg h2,if_pos h3]
    rw[Pk]at mc;have QW:=hT5.narrow (D':=λj=>w2.heap.size<=j) (λj h _=>by omega);have HL:Kept (λj=>w2.heap.size<=j) w2 w6:=(hkz.trans CC (λ_ _ h=>h.1));have hlen:q'.length<=(jM q' x.a.toNat).length:=tc _ _;push_cast -dsimp;refine⟨⟨by omega,by omega⟩,⟨k+1,st+1,_,_,by simp,by simp,by omega,by omega,?_,QW,HL⟩,by rw[CU];simp only[intOf];omega⟩;rw[Yt];exact mc
   ·rw[oo Fs hx h5]at mc;have jC:=xC (.inr h4);refine⟨λLi=>⟨⟨by omega,by omega⟩,?_⟩,λLi=>?_⟩
    ·refine aA (oM vg (k:=at_+1) (by omega) (by omega)) ?_;rintro _ w6 ⟨hT5,CC⟩;have Pk:(fA c ps[i]? x at_ q' nx)=(jM q' (at_+1),nx):=by unfold fA;rw[if_neg h2,if_neg h3,if_pos h4,List.getElem?_eq_none (by omega)];rfl
     rw[Pk]at mc;have QW:=hT5.narrow (D':=λj=>w2.heap.size<=j) (λj h _=>by omega);have HL:Kept (λj=>w2.heap.size<=j) w2 w6:=(hkz.trans CC (λ_ _ h=>h.1));have hlen:q'.length<=(jM q' (at_+1)).length:=tc _ _;push_cast -dsimp;refine⟨⟨by omega,by omega⟩,⟨k+1,st+1,_,_,by simp,by simp,by omega,by omega,?_,QW,HL⟩,by rw[CU];simp only[intOf];omega⟩;rw[Yt];exact mc
    have Pk:(fA c ps[i]? x at_ q' nx)=(q',nx):=by unfold fA;rw[if_neg h2,if_neg h3,if_pos h4,List.getElem?_eq_getElem (show i<ps.length by omega)];rfl
    rw[Pk]at mc;have QW:=vg.narrow (D':=λj=>w2.heap.size<=j) (λj h _=>h.1);have HL:=hkz;have hlen:q'.length<=q'.length:=Nat.le_refl _;refine⟨⟨by omega,by omega⟩,⟨k+1,st+1,_,_,by simp,by simp,by omega,by omega,?_,QW,HL⟩,by rw[CU];simp only[intOf];omega⟩;rw[Yt];exact mc
   rw[oo Fs hx h5]at mc;have hop:x.op=1/\0<=x.a/\x.a<c.sets.length:=by omega
   refine ba (λw'=>Kept (λ_=>False) wz w') mixed (by kernel_rfl) (Kept.refl _ _).drew ?_;have sxn:=xC (.inl hop.1);have ea:x.a=(x.a.toNat:Int):=by omega
   have lB:∀w',Kept (λ_=>False) wz w'->w'.cell? ⟨w.heap.size,0,none⟩=some (.slice a1 c.sets.length c1):=λw' CB=>CB.cell ((WB.kept hkz (by have:=WB.lt;show ¬w2.heap.size<=w.heap.size;omega)).cell rfl) id
   have lX:∀w',Kept (λ_=>False) wz w'->w'.cell? ⟨wy.heap.size,1,none⟩=some (.int .i64 (x.a.toNat:Int)):=λw' CB=>CB.cell (by rw[<-ea];exact ns.cell rfl) id;have kd:Kept (λ_=>False) wz wz.drew:=(Kept.refl _ _).drew;have d1:=lB _ kd;have d2:=lX _ kd;push_cast -dsimp[d1,d2];refine⟨λaQe=>⟨λbE hC=>by rw[lB bE hC];exact rfl,λbE hC=>by rw[lX bE hC];exact rfl,?_⟩,λaNT=>?_⟩
   ·have hBz:Below w.heap.size w wz:=fx.trans (hkz.below fx.size (λ_ h=>by have:=fx.size;omega));have hex:∃(s:List Rg) (u:Value) (bs os:Nat) (p:Int) (bp op:Nat),c.sets[x.a.toNat]?=some s/\a1=some ⟨bs,os,none⟩/\wz.drew.cell? ⟨bs,os+x.a.toNat,none⟩=some u/\Sl X 2 (En ay) wz.drew u s/\ps[i]?=some p/\a3=some ⟨bp,op,none⟩/\wz.drew.cell? ⟨bp,op+i,none⟩=some (.int .i64 p):=by
     obtain⟨s,ft,_,_,_⟩:=ah (l:=c.sets) (i:=x.a.toNat) (by omega);obtain⟨p,HP,_,_,_⟩:=ah (l:=ps) (i:=i) (by omega);have D4:Sl X 1 (Ko X wz) wz (.slice a1 c.sets.length c1) c.sets:=so.below hBz;obtain⟨bs,os,cs,La,_,_,il,u,rfl,hu⟩:=D4.xw ft;obtain⟨bp,op,ha3,_,Qc⟩:=(Yx.below hBz).get HP;exact⟨s,u,bs,os,p,bp,op,ft,La,by simpa using il 0 u rfl,hu.below (Below.refl _ _).drew,HP,ha3,by simpa using Qc 0 _ rfl⟩
    refine Exists.elim hex λs hex=>Exists.elim hex λu hex=>Exists.elim hex λbs hex=>Exists.elim hex λos hex=>Exists.elim hex λp hex=>Exists.elim hex λbp hex=>Exists.elim hex λop hex=>?_;have ft:=hex.1;have La:=hex.2.1;have cu:=hex.2.2.1;have hu:=hex.2.2.2.1;have HP:=hex.2.2.2.2.1;have ha3:=hex.2.2.2.2.2.1;have cp:=hex.2.2.2.2.2.2;clear hex;have Qq:=List.mem_of_getElem? ft;have lU:∀w',Kept (λ_=>False) wz w'->w'.cell? ⟨bs,os+x.a.toNat,none⟩=some u:=λw' CB=>CB.cell (show wz.cell? _=_ from cu) id
    have lP:∀w',Kept (λ_=>False) wz w'->w'.cell? ⟨bp,op+i,none⟩=some (.int .i64 p):=λw' CB=>CB.cell (show wz.cell? _=_ from cp) id
    push_cast -dsimp[nW La,nW ha3,cu,cp];refine⟨⟨by omega,by omega⟩,λbE hC=>by rw[lU bE hC];exact rfl,⟨by omega,by omega⟩,λbE hC=>by rw[lP bE hC];exact rfl,?_⟩;refine aA (aIw s (hl s Qq) (hc.set s Qq) p X u wz.drew hu) ?_;rintro _ w6 ⟨rfl,mI⟩;have k6:Kept (λ_=>False) wz w6:=kd.trans (Kept.aN mI (X:=λ_=>False) (λj h1 h2=>absurd h2 (by have:wz.drew.heap.size=wz.heap.size:=rfl;omega))) (λ_ _=>id);have Bv:=vg.kept k6 (λ_ _ _=>id);have Yv:=hkz.trans k6 (λ_ _ h=>h.elim);have hgs:c.sets.getD x.a.toNat []=s:=by rw[List.getD_eq_getElem?_getD,ft];rfl
    refine⟨k6,?_⟩;cases hH:ew s p with
    | true =>
     push_cast -dsimp;refine⟨⟨by omega,by omega⟩,?_⟩;refine aA (oM Bv.swap (k:=at_+1) (by omega) (by omega)) ?_;rintro _ w7 ⟨yA,pk⟩;have Pk:(fA c ps[i]? x at_ q' nx)=(q',jM nx (at_+1)):=by unfold fA;rw[if_neg h2,if_neg h3,if_neg h4,HP];dsimp only;rw[hgs,hH,if_pos rfl]
     rw[Pk]at mc;have KC:=k6.size;have QW:=yA.swap.narrow (D':=λj=>w2.heap.size<=j) (λj h _=>by omega);have HL:Kept (λj=>w2.heap.size<=j) w2 w7:=Yv.trans pk (λ_ _ h=>h.1);have hlen:q'.length<=q'.length:=Nat.le_refl _;push_cast -dsimp;refine⟨⟨by omega,by omega⟩,⟨k+1,st+1,_,_,by simp,by simp,by omega,by omega,?_,QW,HL⟩,by rw[CU];simp only[intOf];omega⟩;rw[Yt];exact mc
    | false =>
     push_cast -dsimp;have Pk:(fA c ps[i]? x at_ q' nx)=(q',nx):=by unfold fA;rw[if_neg h2,if_neg h3,if_neg h4,HP];dsimp only;rw[hgs,hH];rfl
     rw[Pk]at mc;have QW:=Bv.narrow (D':=λj=>w2.heap.size<=j) (λj h _=>h.1);have HL:=Yv;have hlen:q'.length<=q'.length:=Nat.le_refl _;refine⟨⟨by omega,by omega⟩,⟨k+1,st+1,_,_,by simp,by simp,by omega,by omega,?_,QW,HL⟩,by rw[CU];simp only[intOf];omega⟩;rw[Yt];exact mc
   have Pk:(fA c ps[i]? x at_ q' nx)=(q',nx):=by unfold fA;rw[if_neg h2,if_neg h3,if_neg h4,List.getElem?_eq_none (by omega)]
   rw[Pk]at mc;have QW:=(vg.kept kd (λ_ _ _=>id)).narrow (D':=λj=>w2.heap.size<=j) (λj h _=>h.1);have HL:=hkz.trans kd (λ_ _ h=>h.elim);have hlen:q'.length<=q'.length:=Nat.le_refl _;refine⟨⟨by omega,by omega⟩,⟨k+1,st+1,_,_,by simp,by simp,by omega,by omega,?_,QW,HL⟩,by rw[CU];simp only[intOf];omega⟩;rw[Yt];exact mc
  have hn:q'[k]?=none:=List.getElem?_eq_none (by omega);obtain⟨f,hf⟩:∃f,c.ins.length+1-k=f+1:=⟨c.ins.length-k,by omega⟩;rw[hf,RB hn]at mc;subst mc;dsimp only at im;have Yl:Below w.heap.size w wy:=fx.trans (hk.below fx.size (λ_ h=>by have:=fx.size;omega));have AG:(ps.length<=i\/nx=[])->Value.tuple #[.bool false,.int .i64 st,.nilIface]=sN c ps:=λh=>by
   rw[if_pos h]at im;unfold sN;rw[hR,<-im];rfl
  refine⟨λaQi=>?_,λaQd=>⟨AG (.inl (by omega)),Yl⟩⟩;refine Exists.elim hT.swap.read λan hrd=>Exists.elim hrd λcn hrd=>?_;have cB:=hrd.1;clear hrd;push_cast -dsimp[cB];refine⟨λh0=>⟨AG (.inr (List.eq_nil_of_length_eq_zero (by omega))),Yl⟩,λh0=>?_⟩;have jC:¬(ps.length<=i\/nx=[]):=by
   rintro(h|h)
   ·omega
   subst h;exact h0 rfl
  rw[if_neg jC]at im;refine aA (NA hT (by omega)) ?_;rintro _ w7 ⟨yA,pk⟩;push_cast -dsimp;exact⟨⟨by omega,by omega⟩,⟨i+1,st,pB,pA,nx,rfl,rfl,rfl,rfl,by omega,by omega,im,yA.swap,hk.trans pk (λ_ _ h=>h)⟩,by rw[Vf];simp only[intOf];omega⟩
end Go.Proofs.YtemjejfpadnljaaGreatDoor
end
section
namespace Go.Vc
theorem Own.ZG {α:Type}{base k:Nat}{e:TypeId}{enc:α->List Value}{w:World}{b o n c:Nat}{l:List α}(h:Vc.Own base e k enc w (.slice (some ⟨b,o,none⟩) n c) l):o=0:=by
 rcases h.1.2 with ⟨he,_⟩|⟨g,cap,cr,he,_⟩
 ·cases he
 cases he;rfl
end Go.Vc
end
section
namespace Go.Proofs.YtemjejfpadnljaaGreatDoor
open Go.Vc Go.Proofs Go.RowKit Cae
attribute [local irreducible] cg aa ag aX runK ar Sl Vc.Own vc aQ br a7
theorem SO (l:List Int)(base:Nat)(v:Value)(w:World)(hn:l.length<1000000000)(ho:Vc.Own base 3 1 p3 w v l)(hb0:base<=w.heap.size) :
  ar Tryz.prog 56 [v] w λ_ w'=>Vc.Own base 3 1 p3 w' v l.reverse/\Below base w w':=by
 obtain⟨a,c,rfl⟩:=ho.slice;refine aE Tryz.func56 rfl (by kernel_rfl) [] rfl ?_;push_cast -dsimp(maxSteps:=4000000) [Tryz.ntmps56];refine⟨⟨by omega,by omega⟩,?_⟩;refine aK [2,3,7,8,9,10,11,12,13,14,15,16,17,18,19,20,21,22,23,24,25,26,27] (λz wx=>∃(i:Nat) (cur:List Int),z 2=.int .i64 i/\z 3=.int .i64 ((l.length:Int)-1-i)/\2*i<=l.length/\cur.length=l.length/\(∀k,k<l.length->cur[k]?=if k<i\/l.length-i<=k then l[l.length-1-k]? else l[k]?)/\Vc.Own base 3 1 p3 wx (.slice a l.length c) cur/\Below base w wx) (λz _=>l.length-(intOf (z 2)).toNat) ?_ ?_
 ·exact⟨0,l,rfl,by simp[at_],by omega,rfl,λk hk=>by rw[if_neg (by omega)],ho,Below.refl _ _⟩
 intro z wx hI;obtain⟨i,cur,h2,h3,hi,iQ,GA,eG,hb⟩:=hI;have yS:=hb.size;push_cast -dsimp[h2,h3];refine⟨λaj=>?_,λeo=>?_⟩
 ·have hex:∃(x y:Int) (g:Nat),cur[i]?=some x/\cur[l.length-1-i]?=some y/\a=some ⟨g,0,none⟩/\wx.cell? ⟨g,i,none⟩=some (.int .i64 x)/\wx.cell? ⟨g,l.length-1-i,none⟩=some (.int .i64 y):=by
   obtain⟨x,hx,_⟩:=ah (l:=cur) (i:=i) (by omega);obtain⟨y,hy,_⟩:=ah (l:=cur) (i:=l.length-1-i) (by omega);have oU:=eG.sl.get hx;have Cg:=eG.sl.get hy;obtain⟨b,o,e,_,hcx⟩:=oU;obtain⟨b',o',e',_,Nc⟩:=Cg;rw[e]at e';cases e';have ho0:o=0:=Vc.Own.ZG (by rw[<-e];exact eG);subst ho0;exact⟨x,y,b,hx,hy,e,by simpa using hcx 0 _ rfl,by simpa using Nc 0 _ rfl⟩
  obtain⟨x,y,g,hx,hy,he,cx,cy⟩:=hex;subst he;have ej:((l.length:Int)-1-i)=((l.length-1-i:Nat):Int):=by omega
  rw[ej];refine Bh [0,1,2,3,4,5,6,7,8,9,10,11,12] 13 [14,15] (λw'=>w'=wx.drew) mixed (by kernel_rfl) rfl ?_;have cx':wx.drew.cell? ⟨g,i,none⟩=some (.int .i64 x):=cx;have cy':wx.drew.cell? ⟨g,l.length-1-i,none⟩=some (.int .i64 y):=cy;have hod:Vc.Own base 3 1 p3 wx.drew (.slice (some ⟨g,0,none⟩) l.length c) cur:=eG.aJ (Kept.refl (λ_=>False) _).drew (λ_ _ h=>h);push_cast -dsimp[cx',cy'];refine⟨⟨by omega,by omega⟩,λbE hC=>by rw[hC,cy'];exact rfl,⟨by omega,by omega⟩,λbE hC=>by rw[hC,cx'];exact rfl,⟨by omega,by omega⟩,?_⟩;refine vF (i:=i) (y:=y) hod rfl (by omega) rfl rfl ?_;intro w1 uN Nk ph;refine⟨trivial,?_⟩;push_cast -dsimp;refine⟨⟨by omega,by omega⟩,?_⟩;have xB:l.length-1-i<(cur.set i y).length:=by rw[List.length_set];omega
  have mZ:(cur.set i y).length=cur.length:=List.length_set;refine vF (i:=l.length-1-i) (y:=x) uN rfl xB rfl rfl ?_;intro w2 lC jI BV;have hkd:Kept (λj=>j=g) wx w2:=(((Kept.refl (λj=>j=g) wx).drew).trans Nk (λ_ _ h=>h)).trans jI (λ_ _ h=>h);have CA:base<=g:=(eG.block g rfl).1;refine⟨trivial,?_⟩;push_cast -dsimp;refine⟨⟨by omega,by omega⟩,⟨by omega,by omega⟩,⟨i+1,(cur.set i y).set (l.length-1-i) x,rfl,by congr 1;omega,by omega,by rw[List.length_set,List.length_set];exact iQ,λk hk=>?_,lC,hb.trans (hkd.below (by omega) (λj h=>by rw[show j=g from h];exact CA))⟩,by rw[h2];simp only[intOf];omega⟩
  rw[List.getElem?_set,List.getElem?_set];have CZ:=GA i (by omega);have qL:=GA (l.length-1-i) (by omega);rw[if_neg (by omega)]at CZ qL;rw[hx]at CZ;rw[hy]at qL;by_cases e1:l.length-1-i=k
  ·rw[if_pos e1,if_pos xB,if_pos (by omega),CZ];congr 1;omega
  rw[if_neg e1];by_cases e2:i=k
  ·rw[if_pos e2,if_pos (by omega),if_pos (by omega),qL];congr 1;omega
  rw[if_neg e2,GA k hk];by_cases e3:k<i\/l.length-i<=k
  ·rw[if_pos e3,if_pos (by omega)]
  rw[if_neg e3,if_neg (by omega)]
 have aFd:cur=l.reverse:=by
  apply List.ext_getElem?;intro k;by_cases hk:k<l.length
  ·rw[GA k hk,List.getElem?_reverse hk];split
   ·rfl
   congr 1;omega
  rw[List.getElem?_eq_none (by omega),List.getElem?_eq_none (by rw[List.length_reverse];omega)]
 subst aFd;exact⟨eG,hb⟩
end Go.Proofs.YtemjejfpadnljaaGreatDoor
end
