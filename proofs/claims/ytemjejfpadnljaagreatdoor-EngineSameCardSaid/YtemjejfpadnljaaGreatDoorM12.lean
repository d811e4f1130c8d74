/- Part. -/
import Derived.Test.YtemjejfpadnljaaGreatDoorM11
import Derived.Test.YtemjejfpadnljaaGreatDoorM10
set_option maxRecDepth 100000
set_option linter.unusedSimpArgs false
set_option linter.unusedVariables false
set_option maxHeartbeats 8000000
namespace Go.Proofs.YtemjejfpadnljaaGreatDoor
section
open Go.Vc Go.Proofs Go.RowKit Cae
attribute [local irreducible] dN ae ak aY runK aw Sl Vc.Own vc aV cJ a7
def RY (c:aE)(is:List Bool)(i:Nat):List Nat:=(List.range (c.ins.length+1)).map λj=>if j<i then fr c is j else 0
def Fe (c:aE)(is:List Bool)(i:Nat):List Bool:=(List.range c.ins.length).map λj=>if j<i then eO c is j else decide (is[j]?=some true)
def tP (l:List Nat):List Value:=l.map λ(n:Nat)=>Value.int .i64 (n:Int)
theorem xW {c:aE}{is:List Bool}{i j:Nat}(h:j<c.ins.length+1):(RY c is i)[j]?=some (if j<i then fr c is j else 0):=by simp[RY,h]
theorem oC {c:aE}{is:List Bool}{i j:Nat}(h:j<c.ins.length):(Fe c is i)[j]?=some (if j<i then eO c is j else decide (is[j]?=some true)):=by simp[Fe,h]
theorem gW (c:aE)(is:List Bool)(i:Nat):(Fe c is i).length=c.ins.length:=by simp[Fe]
theorem tC (c:aE)(is:List Bool)(i:Nat):(RY c is i).length=c.ins.length+1:=by simp[RY]
theorem aAY (c:aE)(is:List Bool):tP (RY c is 0)=List.replicate (c.ins.length+1) (.int .i64 0):=by
 apply List.ext_getElem?;intro j;unfold tP;rw[List.getElem?_map,List.getElem?_replicate];by_cases h:j<c.ins.length+1
 ·rw[xW h,if_pos h];rfl
 rw[List.getElem?_eq_none (by rw[tC];omega),if_neg h];rfl
theorem Yx {c:aE}{is:List Bool}(h:is.length=c.ins.length):Fe c is 0=is:=by
 apply List.ext_getElem?;intro j;by_cases hj:j<c.ins.length
 ·rw[oC hj,if_neg (by omega),List.getElem?_eq_getElem (by omega)];cases is[j]<;>simp
 rw[List.getElem?_eq_none (by rw[gW];omega),List.getElem?_eq_none (by omega)]
theorem MQ {c:aE}{is:List Bool}{i:Nat}(h:i<c.ins.length+1):(tP (RY c is i)).set i (.int .i64 (fr c is i:Int))=tP (RY c is (i+1)):=by
 apply List.ext_getElem?;intro j;unfold tP;rw[List.getElem?_set,List.getElem?_map,List.getElem?_map,List.length_map,tC];by_cases hj:j<c.ins.length+1
 ·rw[xW hj,xW hj];by_cases e:i=j
  ·subst e;rw[if_pos rfl,if_pos h,if_pos (by omega)];rfl
  rw[if_neg e];by_cases h1:j<i
  ·rw[if_pos h1,if_pos (by omega)]
  rw[if_neg h1,if_neg (by omega)]
 rw[List.getElem?_eq_none (by rw[tC];omega),List.getElem?_eq_none (by rw[tC];omega),if_neg (by omega)]
theorem Yw {c:aE}{is:List Bool}{i:Nat}(h:i<c.ins.length)(hs:oI c is i=true):(zD (Fe c is i)).set i (.bool false)=zD (Fe c is (i+1)):=by
 apply List.ext_getElem?;intro j;unfold zD;rw[List.getElem?_set,List.getElem?_map,List.getElem?_map,List.length_map,gW];by_cases hj:j<c.ins.length
 ·rw[oC hj,oC hj];by_cases e:i=j
  ·subst e;rw[if_pos rfl,if_pos h,if_pos (by omega)];unfold eO;rw[hs];simp
  rw[if_neg e];by_cases h1:j<i
  ·rw[if_pos h1,if_pos (by omega)]
  rw[if_neg h1,if_neg (by omega)]
 rw[List.getElem?_eq_none (by rw[gW];omega),List.getElem?_eq_none (by rw[gW];omega),if_neg (by omega)]
theorem wK {c:aE}{is:List Bool}{i:Nat}(h:i<c.ins.length)(hs:oI c is i=false):Fe c is (i+1)=Fe c is i:=by
 apply List.ext_getElem?;intro j;by_cases hj:j<c.ins.length
 ·rw[oC hj,oC hj];by_cases e:i=j
  ·subst e;rw[if_pos (by omega),if_neg (by omega)];unfold eO;rw[hs];simp
  by_cases h1:j<i
  ·rw[if_pos h1,if_pos (by omega)]
  rw[if_neg h1,if_neg (by omega)]
 rw[List.getElem?_eq_none (by rw[gW];omega),List.getElem?_eq_none (by rw[gW];omega)]
theorem rk {is is':List Bool}(hl:is.length=is'.length):∀(f k:Nat),(∀j,k<=j->is[j]?=is'[j]?)->bZ is f k=bZ is' f k
 | 0,k,h=>by rw[bZ,bZ,hl]
 | f+1,k,h=>by
  rw[bZ,bZ,h k (Nat.le_refl _),hl,rk hl f (k+1) (λj hj=>h j (by omega))]
theorem UG {c:aE}{is:List Bool}(hl:is.length=c.ins.length){i:Nat}:rl (Fe c is i) i=rl is i:=by
 unfold rl;rw[gW,<-hl];apply rk (by rw[gW,hl]);intro j hj;by_cases h:j<c.ins.length
 ·rw[oC h,if_neg (by omega),List.getElem?_eq_getElem (by omega)];cases is[j]<;>simp
 rw[List.getElem?_eq_none (by rw[gW];omega),List.getElem?_eq_none (by omega)]
theorem BG (k:Nat):∀(used:List Nat) (n:Nat),eM k ((used.zipIdx n).map λp=>(p.1,Value.int .i64 (p.2:Int)))=if k∈used then some (.int .i64 ((T4 k used+n:Nat):Int)) else none
 | [],n=>rfl
 | a::l,n=>by
  rw[List.zipIdx_cons,List.map_cons,eM,T4];by_cases h:k=a
  ·subst h;simp
  rw[if_neg h,if_neg (Ne.symm h),BG k l (n+1)];simp only[List.mem_cons,h,false_or];congr 3;omega
theorem VI (l:List Nat)(k:Nat):((l++[k]).zipIdx.map λp=>(p.1,Value.int .i64 (p.2:Int)))=(l.zipIdx.map λp=>(p.1,Value.int .i64 (p.2:Int)))++[(k,Value.int .i64 (l.length:Int))]:=by
 rw[List.zipIdx_append,List.map_append];simp
theorem aDv (c:aE)(hc:CR c)(X:Nat->Prop)(v:Value)(w:World)(hX:∀b,X b->b<w.heap.size)(hv:cz X w v c)(Kh:mQ c) :
  aw Tryz.prog 113 [v] w λr w'=>(∃is sv iv,r=.agg #[sv,iv]/\ts c is/\eH (λb=>X b\/iv.ownBlock=some b) w' sv (bw c is).sets/\Vc.Own w.heap.size 164 3 bX w' iv (bw c is).ins)/\Below w.heap.size w w':=by
 have hm:=hc.many;have uP:=hc.one;have TW:=hc.sets;have Kr:cz (λ_=>False) w v c:=hv.mono (λ_ _ _=>rfl) (λ_ h=>h.elim);obtain⟨sv,iv,rfl,uU,vA⟩:=hv;obtain⟨a,cp,rfl,TG⟩:=vA.shape;have IA:=uU.shape;obtain⟨sa,sc,rfl,yI⟩:=IA;refine iI Tryz.func113 rfl (by kernel_rfl) [.cell 2 127] rfl ?_;push_cast -dsimp(maxSteps:=9^7) [Tryz.ntmps113];refine aS ?_;intro w1 aU;have aU:mN w w1 127 [.slice sa c.sets.length sc,.slice a c.ins.length cp]:=aU;have qw:=aU.size;push_cast -dsimp;refine ah (z:=[.slice none 0 0,.slice none 0 0]) (by kernel_rfl) ?_;intro w2 bP;have EE:=bP.size;have dt:Below w.heap.size w w2:=aU.below.trans (bP.below.mono (by omega));have hC2:aN w2 w.heap.size 127 [.slice sa c.sets.length sc,.slice a c.ins.length cp]:=aU.aL.below bP.below (by omega);have AP:aN w2 w1.heap.size 127 [.slice none 0 0,.slice none 0 0]:=bP.aL;have q2:=hC2.aB;simp only[List.length_cons,List.length_nil,Nat.zero_add,Nat.reduceAdd]at q2;push_cast -dsimp[q2];refine aA (U3 c hc _ w2 (Kr.below dt)) ?_;rintro _ w3 ⟨⟨is,sb,rfl,hS3,hCl,wD⟩,gB⟩;have PA:=gB.size;have hC3:=hC2.below gB (by omega);have hR3:=AP.below gB (by omega);have c3:w3.cell? ⟨w.heap.size,1,none⟩=some (.slice a c.ins.length cp):=hC3.cell rfl;have oY:=hS3.lt;push_cast -dsimp[c3];refine⟨⟨by omega,by omega⟩,?_⟩;have aJ8:((c.ins.length:Int)+1)=((c.ins.length+1:Nat):Int):=by omega
 rw[aJ8];refine zL (z:=.int .i64 0) ay (by kernel_rfl) rfl (by omega) (by omega) ?_;intro w4 aj;have Mn:=aj.size;have hC4:=hC3.below aj.below (by omega);have hR4:=hR3.below aj.below (by omega);have hS4:=hS3.below aj.below (by omega);have hT4:aN w4 w3.heap.size 3 (tP (RY c is 0)):=by rw[aAY];exact aj.aL
 have kK:Below w.heap.size w w4:=dt.trans ((gB.mono (by omega)).trans (aj.below.mono (by omega)));have c4:w4.cell? ⟨w.heap.size,1,none⟩=some (.slice a c.ins.length cp):=hC4.cell rfl;push_cast -dsimp[c4];refine aK [5,6,7,8,25,26,27,28,29,30,31,32,33,34,35,36,37,38,39,40,41,42,43,44,45,46,47,48,49,50,51,52,53,54,55,56,57,58,59,60,61,62,63,64,65] (λz wx=>∃(i:Nat),z 25=.int .i64 i/\z 5=.int .i64 (fr c is i:Int)/\i<=c.ins.length/\aN wx sb 4 (zD (Fe c is i))/\aN wx w3.heap.size 3 (tP (RY c is i)) /\
   aN wx w.heap.size 127 [.slice sa c.sets.length sc,.slice a c.ins.length cp]/\aN wx w1.heap.size 127 [.slice none 0 0,.slice none 0 0]/\Below w.heap.size w wx/\w4.heap.size<=wx.heap.size) (λz _=>c.ins.length-(intOf (z 25)).toNat) ?_ ?_
 ·exact⟨0,rfl,rfl,Nat.zero_le _,by rw[Yx hCl.len];exact hS4,hT4,hC4,hR4,kK,Nat.le_refl _⟩
 intro z wx hI;obtain⟨i,Xx,h5,hi,hSx,hTx,hCx,vh,bS,A5⟩:=hI;push_cast -dsimp[Xx,h5];refine⟨λaq=>?_,λeo=>?_⟩
 ·have hg:=ag (l:=c.ins) (i:=i) (by omega);obtain⟨x,hx,jJ,_⟩:=hg;have hg:=(vA.below bS).get hx;obtain⟨ib,io,rfl,_,hic⟩:=hg;have ci:aB wx ⟨ib,io+i*3,none⟩ 0 3=some [.int .i64 x.op,.int .i64 x.a,.int .i64 x.b]:=ao (bX x) 0 (λj u hu=>by simpa using hic j u hu);push_cast -dsimp[ci];refine⟨⟨by omega,by omega⟩,?_⟩;refine ah (z:=[.int .i64 0,.int .i64 0,.int .i64 0]) (by kernel_rfl) ?_;intro w5 cG;have PC:=cG.size;push_cast -dsimp;refine aI (n:=3) (by kernel_rfl) cG.aL rfl (by simp) (by simp[Value.oneCell']) ?_;intro w6 bW;have MN:=bW.size;have hX6:aN w6 wx.heap.size 164 [.int .i64 x.op,.int .i64 x.a,.int .i64 x.b]:=bW.aL;have k6:Kept (λj=>j=wx.heap.size) wx w6:=(Kept.new cG).trans bW.kept (λ_ _ h=>h);have hS6:=hSx.kept k6 (by omega);have Du:=hTx.kept k6 (by omega);have Xy:=hCx.kept k6 (by omega);have hR6:=vh.kept k6 (by omega);have lk:Below w.heap.size w w6:=bS.trans (k6.below (by omega) (λ_ h=>by omega));push_cast -dsimp;refine⟨⟨by omega,by omega⟩,?_⟩;refine aC Du (by unfold tP;rw[List.length_map,tC];omega) rfl ?_;intro w7 fQ;have AQ:=fQ.aL;rw[MQ (by omega)]at AQ;have MO:=fQ.size;have QL:=hS6.kept fQ.kept (by omega);have QM:=hX6.kept fQ.kept (by omega);have VU:=Xy.kept fQ.kept (by omega);have KV:=hR6.kept fQ.kept (by omega);have lV:Below w.heap.size w w7:=lk.trans (fQ.kept.below (by omega) (λ_ h=>by omega));push_cast -dsimp;refine bu (λw'=>w'=w7.drew) mixed (by kernel_rfl) rfl ?_;have t0:w7.drew.cell? ⟨wx.heap.size,0,none⟩=some (.int .i64 x.op):=QM.drew.cell rfl
  have t1:w7.drew.cell? ⟨wx.heap.size,1,none⟩=some (.int .i64 x.a):=QM.drew.cell rfl;have Ad:∃bi,decide (is[i]?=some true)=bi:=⟨_,rfl⟩;obtain⟨bi,JN⟩:=Ad;have b0:w7.drew.cell? ⟨sb,i,none⟩=some (.bool bi):=QL.drew.cell (by unfold zD;rw[List.getElem?_map,oC (by omega),if_neg (by omega),JN];rfl);have aC9:oI c is i=decide (x.op=3/\(rl is i:Int)=x.a/\(i:Int)<x.a):=by unfold oI;rw[hx]
  push_cast -dsimp[t0,t1];refine⟨λbQ hC=>by rw[hC];exact gw QM.drew rfl,λh3=>?_,λh3=>?_⟩
  ·refine aA (Z6 (Fe c is i) (by rw[gW];omega) i (λ_=>False) _ w7.drew ?_ (by rw[gW];omega)) ?_
   ·exact aMY (f:=Value.bool) QL.drew (gW c is i).symm (by rw[gW];omega)
   rintro _ w8 ⟨rfl,rfl⟩;rw[UG hCl.len];refine⟨rfl,?_⟩;by_cases JQ:(i:Int)<x.a
   ·have he:decide ((i:Int)<x.a)=true:=decide_eq_true JQ;push_cast -dsimp[t0,t1,he];refine⟨λbQ hC=>by rw[hC];exact gw QM.drew rfl,λj7=>⟨λbQ hC=>by rw[hC];exact gw QM.drew rfl,?_⟩,λj7=>?_⟩
    ·have Kp:oI c is i=true:=by rw[aC9];exact decide_eq_true ⟨h3,j7,JQ⟩
     have EA:eO c is i=false:=by unfold eO;rw[Kp];simp
     have tN:fr c is (i+1)=fr c is i:=by rw[fr,if_neg (by rw[EA];simp)]
     have aK2:aN w7.drew sb 4 (zD (Fe c is i)):=QL.drew;have l9:∀w8,A8 w7.drew w8 sb 4 ((zD (Fe c is i)).set i (.bool false))->aN w8 sb 4 (zD (Fe c is (i+1)))/\aN w8 w3.heap.size 3 (tP (RY c is (i+1)))/\aN w8 w.heap.size 127 [.slice sa c.sets.length sc,.slice (some ⟨ib,io,none⟩) c.ins.length cp]/\aN w8 w1.heap.size 127 [.slice none 0 0,.slice none 0 0]/\Below w.heap.size w w8/\w4.heap.size<=w8.heap.size:=λw8 n9=>by
      have sz8:w8.heap.size=w7.heap.size:=n9.size;refine⟨by rw[<-Yw (by omega) Kp];exact n9.aL,AQ.drew.kept n9.kept (by omega),VU.drew.kept n9.kept (by omega),KV.drew.kept n9.kept (by omega),lV.drew.trans (n9.kept.below (by show w.heap.size<=w7.heap.size;omega) (λ_ h=>by omega)),by omega⟩
     cases bi with
     | true =>
      push_cast -dsimp[b0];refine⟨⟨by omega,by omega⟩,⟨by omega,by omega⟩,?_⟩;refine aC aK2 (by unfold zD;rw[List.length_map,gW];omega) rfl ?_;intro w8 n9;have hf:=l9 w8 n9;obtain⟨f1,f2,f3,f4,f5,f6⟩:=hf;push_cast -dsimp;exact⟨⟨by omega,by omega⟩,⟨i+1,rfl,by rw[tN],by omega,f1,f2,f3,f4,f5,f6⟩,by rw[Xx];simp only[intOf];omega⟩
     | false =>
      push_cast -dsimp[b0];refine⟨⟨by omega,by omega⟩,⟨by omega,by omega⟩,?_⟩;refine aC aK2 (by unfold zD;rw[List.length_map,gW];omega) rfl ?_;intro w8 n9;have hf:=l9 w8 n9;obtain⟨f1,f2,f3,f4,f5,f6⟩:=hf;push_cast -dsimp;exact⟨⟨by omega,by omega⟩,⟨i+1,rfl,by rw[tN],by omega,f1,f2,f3,f4,f5,f6⟩,by rw[Xx];simp only[intOf];omega⟩
    have Kp:oI c is i=false:=by rw[aC9];exact decide_eq_false λh=>j7 h.2.1
    have EA:eO c is i=bi:=by unfold eO;rw[Kp,JN];simp
    have YF:aN w7.drew sb 4 (zD (Fe c is (i+1))):=by rw[wK (by omega) Kp];exact QL.drew
    cases bi with
    | true =>
     have tN:fr c is (i+1)=fr c is i+1:=by rw[fr,if_pos EA]
     push_cast -dsimp[b0];have hle:=mC (c:=c) (is:=is) i;exact⟨⟨by omega,by omega⟩,⟨by omega,by omega⟩,⟨by omega,by omega⟩,⟨i+1,rfl,by rw[tN];rfl,by omega,YF,AQ.drew,VU.drew,KV.drew,lV.drew,by show w4.heap.size<=w7.heap.size;omega⟩,by rw[Xx];simp only[intOf];omega⟩
    | false =>
     have tN:fr c is (i+1)=fr c is i:=by rw[fr,if_neg (by rw[EA];simp)]
     push_cast -dsimp[b0];exact⟨⟨by omega,by omega⟩,⟨by omega,by omega⟩,⟨i+1,rfl,by rw[tN],by omega,YF,AQ.drew,VU.drew,KV.drew,lV.drew,by show w4.heap.size<=w7.heap.size;omega⟩,by rw[Xx];simp only[intOf];omega⟩
   have he:decide ((i:Int)<x.a)=false:=decide_eq_false JQ;have Kp:oI c is i=false:=by rw[aC9];exact decide_eq_false λh=>JQ h.2.2
   push_cast -dsimp[t0,t1,he];refine⟨λbQ hC=>by rw[hC];exact gw QM.drew rfl,λj7=>⟨λbQ hC=>by rw[hC];exact gw QM.drew rfl,?_⟩,λj7=>?_⟩;·
    have EA:eO c is i=bi:=by unfold eO;rw[Kp,JN];simp
    have YF:aN w7.drew sb 4 (zD (Fe c is (i+1))):=by rw[wK (by omega) Kp];exact QL.drew
    cases bi with
    | true =>
     have tN:fr c is (i+1)=fr c is i+1:=by rw[fr,if_pos EA]
     push_cast -dsimp[b0];have hle:=mC (c:=c) (is:=is) i;exact⟨⟨by omega,by omega⟩,⟨by omega,by omega⟩,⟨by omega,by omega⟩,⟨i+1,rfl,by rw[tN];rfl,by omega,YF,AQ.drew,VU.drew,KV.drew,lV.drew,by show w4.heap.size<=w7.heap.size;omega⟩,by rw[Xx];simp only[intOf];omega⟩
    | false =>
     have tN:fr c is (i+1)=fr c is i:=by rw[fr,if_neg (by rw[EA];simp)]
     push_cast -dsimp[b0];exact⟨⟨by omega,by omega⟩,⟨by omega,by omega⟩,⟨i+1,rfl,by rw[tN],by omega,YF,AQ.drew,VU.drew,KV.drew,lV.drew,by show w4.heap.size<=w7.heap.size;omega⟩,by rw[Xx];simp only[intOf];omega⟩
   ·
    have EA:eO c is i=bi:=by unfold eO;rw[Kp,JN];simp
    have YF:aN w7.drew sb 4 (zD (Fe c is (i+1))):=by rw[wK (by omega) Kp];exact QL.drew
    cases bi with
    | true =>
     have tN:fr c is (i+1)=fr c is i+1:=by rw[fr,if_pos EA]
     push_cast -dsimp[b0];have hle:=mC (c:=c) (is:=is) i;exact⟨⟨by omega,by omega⟩,⟨by omega,by omega⟩,⟨by omega,by omega⟩,⟨i+1,rfl,by rw[tN];rfl,by omega,YF,AQ.drew,VU.drew,KV.drew,lV.drew,by show w4.heap.size<=w7.heap.size;omega⟩,by rw[Xx];simp only[intOf];omega⟩
    | false =>
     have tN:fr c is (i+1)=fr c is i:=by rw[fr,if_neg (by rw[EA];simp)]
     push_cast -dsimp[b0];exact⟨⟨by omega,by omega⟩,⟨by omega,by omega⟩,⟨i+1,rfl,by rw[tN],by omega,YF,AQ.drew,VU.drew,KV.drew,lV.drew,by show w4.heap.size<=w7.heap.size;omega⟩,by rw[Xx];simp only[intOf];omega⟩
  have Kp:oI c is i=false:=by rw[aC9];exact decide_eq_false λh=>h3 h.1
  have EA:eO c is i=bi:=by unfold eO;rw[Kp,JN];simp
  have YF:aN w7.drew sb 4 (zD (Fe c is (i+1))):=by rw[wK (by omega) Kp];exact QL.drew
  cases bi with
  | true =>
   have tN:fr c is (i+1)=fr c is i+1:=by rw[fr,if_pos EA]
   push_cast -dsimp[b0];have hle:=mC (c:=c) (is:=is) i;exact⟨⟨by omega,by omega⟩,⟨by omega,by omega⟩,⟨by omega,by omega⟩,⟨i+1,rfl,by rw[tN];rfl,by omega,YF,AQ.drew,VU.drew,KV.drew,lV.drew,by show w4.heap.size<=w7.heap.size;omega⟩,by rw[Xx];simp only[intOf];omega⟩
  | false =>
   have tN:fr c is (i+1)=fr c is i:=by rw[fr,if_neg (by rw[EA];simp)]
   push_cast -dsimp[b0];exact⟨⟨by omega,by omega⟩,⟨by omega,by omega⟩,⟨i+1,rfl,by rw[tN],by omega,YF,AQ.drew,VU.drew,KV.drew,lV.drew,by show w4.heap.size<=w7.heap.size;omega⟩,by rw[Xx];simp only[intOf];omega⟩
 have oh:i=c.ins.length:=by omega
 subst oh;have c1:wx.cell? ⟨w.heap.size,1,none⟩=some (.slice a c.ins.length cp):=hCx.cell rfl;push_cast -dsimp[c1];refine⟨⟨by omega,by omega⟩,?_⟩;refine aC hTx (by unfold tP;rw[List.length_map,tC];omega) rfl ?_;intro w5 cG;have PC:=cG.size;have hT5:=cG.aL;rw[MQ (by omega)]at hT5;have hS5:=hSx.kept cG.kept (by omega);have hC5:=hCx.kept cG.kept (by omega);have hR5:=vh.kept cG.kept (by omega);have jq:Below w.heap.size w w5:=bS.trans (cG.kept.below (by omega) (λ_ h=>by omega));push_cast -dsimp;refine ah (z:=[.slice none 0 0,.slice none 0 0]) (by kernel_rfl) ?_;intro w6 bW;have MN:=bW.size;have Du:=hT5.below bW.below (by omega);have hS6:=hS5.below bW.below (by omega);have Xy:=hC5.below bW.below (by omega);have hR6:=hR5.below bW.below (by omega);have tI:aN w6 w5.heap.size 127 [.slice none 0 0,.slice none 0 0]:=bW.aL;have lk:Below w.heap.size w w6:=jq.trans (bW.below.mono (by omega));push_cast -dsimp;refine CZ (key:=λn:Nat=>Value.int .i64 (n:Int)) ?_;intro w7 hM7 Sx MO;have AQ:=Du.below Sx (by omega);have QL:=hS6.below Sx (by omega);have VU:=Xy.below Sx (by omega);have KV:=hR6.below Sx (by omega);have vf:=tI.below Sx (by omega);have lV:Below w.heap.size w w7:=lk.trans (Sx.mono (by omega));have c7:w7.cell? ⟨w.heap.size,1,none⟩=some (.slice a c.ins.length cp):=VU.cell rfl;push_cast -dsimp[c7];have rB:=eH.values uU;obtain⟨us,aRf,aHU,aHV⟩:=rB
 refine aK [11,12,13,14,76,77,78,79,80,81,82,83,84,85,86,87,88,89,90,91,92,93,94,95,96,97,98,99,100,101,102,103,104,105,106,107,108,109,110,111,112,113,114,115,116,117,118,119,120,121,122,123,124,125,126,127,128,129,130,131,132,133,134,135,136,137,138,139,140,141,142,143,144,145,146,147] (λz wx=>∃(i:Nat) (ov iv:Value),z 76=.int .i64 i/\i<=c.ins.length/\aN wx w5.heap.size 127 [ov,iv]/\Vc.Own w4.heap.size 139 1 kJ wx ov ((ab c is i).used.map λa=>us.getD a ⟨none,0,0⟩)/\Vc.Own w4.heap.size 164 3 bX wx iv (ab c is i).ins /\
   nd (λn:Nat=>Value.int .i64 (n:Int)) wx w6.heap.size ((ab c is i).used.zipIdx.map λp=>(p.1,.int .i64 (p.2:Int)))/\aN wx sb 4 (zD (Fe c is c.ins.length))/\aN wx w3.heap.size 3 (tP (RY c is (c.ins.length+1))) /\
   aN wx w.heap.size 127 [.slice sa c.sets.length sc,.slice a c.ins.length cp]/\aN wx w1.heap.size 127 [.slice none 0 0,.slice none 0 0]/\Below w.heap.size w wx/\w7.heap.size<=wx.heap.size /\
   (∀g,ov.ownBlock=some g->w7.heap.size<=g)/\(∀g,iv.ownBlock=some g->w7.heap.size<=g)) (λz _=>c.ins.length-(intOf (z 76)).toNat) ?_ ?_
 ·exact⟨0,_,_,rfl,Nat.zero_le _,vf,Vc.Own.nil (enc:=kJ) _ _ (λ_=>rfl) _,Vc.Own.nil (enc:=bX) _ _ (λ_=>rfl) _,hM7,QL,AQ,VU,KV,lV,Nat.le_refl _,λg h=>by simp[Value.ownBlock]at h,λg h=>by simp[Value.ownBlock]at h⟩
 intro z wx hI;obtain⟨i,ov,iv',h76,hi,Sn,pG,j7,Ds,hSx,hTx,hCx,vh,bS,A5,ep,Kj⟩:=hI;push_cast -dsimp[h76];refine⟨λaq=>?_,λeo=>?_⟩
 ·have hg:=ag (l:=c.ins) (i:=i) (by omega);obtain⟨x,hx,jJ,_⟩:=hg;have hg:=(vA.below bS).get hx;obtain⟨ib,io,rfl,_,hic⟩:=hg;have ci:aB wx ⟨ib,io+i*3,none⟩ 0 3=some [.int .i64 x.op,.int .i64 x.a,.int .i64 x.b]:=ao (bX x) 0 (λj u hu=>by simpa using hic j u hu);push_cast -dsimp[ci];refine⟨⟨by omega,by omega⟩,?_⟩;refine ah (z:=[.int .i64 0,.int .i64 0,.int .i64 0]) (by kernel_rfl) ?_;intro wa eB;have Vp:=eB.size;push_cast -dsimp;refine aI (n:=3) (by kernel_rfl) eB.aL rfl (by simp) (by simp[Value.oneCell']) ?_;intro wb cH;have PD:=cH.size;have Nn:aN wb wx.heap.size 164 [.int .i64 x.op,.int .i64 x.a,.int .i64 x.b]:=cH.aL;have kb:Kept (λj=>j=wx.heap.size) wx wb:=(Kept.new eB).trans cH.kept (λ_ _ h=>h);have hSb:=hSx.kept kb (by omega);have hTb:=hTx.kept kb (by omega);have hCb:=hCx.kept kb (by omega);have QJ:=vh.kept kb (by omega);have hOb:=Sn.kept kb (by omega);have hMb:=Ds.kept kb (by omega);have wD:=pG.aH kb (λg hg h=>by have:=pG.block g hg;omega);have kL:=j7.aH kb (λg hg h=>by have:=j7.block g hg;omega);have jf:Below w.heap.size w wb:=bS.trans (kb.below (by omega) (λ_ h=>by omega));have Ad:∃bi,eO c is i=bi:=⟨_,rfl⟩;obtain⟨bi,JN⟩:=Ad;have b0:wb.cell? ⟨sb,i,none⟩=some (.bool bi):=hSb.cell (by unfold zD;rw[List.getElem?_map,oC (by omega),if_pos (by omega),JN];rfl);have t0:wb.cell? ⟨wx.heap.size,0,none⟩=some (.int .i64 x.op):=Nn.cell rfl;cases bi with
  | false =>
   have bm:ab c is (i+1)=ab c is i:=by rw[ab];unfold wS;rw[hx];dsimp only;rw[if_neg (by rw[JN];simp)]
   push_cast -dsimp[b0];rw[<-bm]at wD kL hMb;exact⟨⟨by omega,by omega⟩,⟨by omega,by omega⟩,⟨i+1,ov,iv',rfl,by omega,hOb,wD,kL,hMb,hSb,hTb,hCb,QJ,jf,by omega,ep,Kj⟩,by rw[h76];simp only[intOf];omega⟩
  | true =>
   have bm:ab c is (i+1)=⟨qy (ab c is i).used x,(ab c is i).ins++[ju c is (ab c is i).used x]⟩:=by rw[ab];unfold wS;rw[hx];dsimp only;rw[if_pos JN]
   push_cast -dsimp[b0,t0];refine⟨⟨by omega,by omega⟩,λh1=>?_,λh1=>⟨λh3=>?_,λh3=>⟨λh2=>?_,λh2=>?_⟩⟩⟩
   ·have hop:x.op≠2/\x.op≠3/\x.op≠4/\x.op≠5:=by omega
    have hj:=jL hc hx hop;have Hg:x.a=((x.a.toNat:Nat):Int):=by rw[Int.toNat_of_nonneg hj.2.1]
    have t1:wb.cell? ⟨wx.heap.size,1,none⟩=some (.int .i64 x.a):=Nn.cell rfl;have Bt:Value.int .i64 x.a=(λn:Nat=>Value.int .i64 (n:Int)) x.a.toNat:=by dsimp only;rw[<-Hg]
    have has:=BG x.a.toNat (ab c is i).used 0;push_cast -dsimp[t1];by_cases lg:x.a.toNat∈(ab c is i).used
    ·rw[if_pos lg]at has;refine qJ (kt:=3) (et:=3) (z:=.int .i64 0) (by kernel_rfl) (OO (by kernel_rfl)) (by kernel_rfl) hMb Bt has ?_;push_cast -dsimp;refine aC Nn (by simp) rfl ?_;intro wc fV;have szc:=fV.size;have ET:aN wc wx.heap.size 164 (bX (ju c is (ab c is i).used x)):=by
      unfold ju;rw[if_pos h1,if_pos lg];exact fV.aL
     have Gw:qy (ab c is i).used x=(ab c is i).used:=by unfold qy;rw[if_pos h1,if_pos lg]
     rw[Gw]at bm;have hk:=fV.kept;have hSc:=hSb.kept hk (by omega);have hTc:=hTb.kept hk (by omega);have hCc:=hCb.kept hk (by omega);have Dt:=QJ.kept hk (by omega);have AN:=hOb.kept hk (by omega);have hMc:=hMb.kept hk (by omega);have yI:=wD.aH hk (λg hg h=>by have:=pG.block g hg;omega);have x7:=kL.aH hk (λg hg h=>by have:=j7.block g hg;omega);have ng:Below w.heap.size w wc:=jf.trans (hk.below (by omega) (λ_ h=>by omega));have uO:=ep;have QZ:∃I7,I7=ov:=⟨_,rfl⟩;obtain⟨I7,rfl⟩:=QZ;have Ec:∃y,ju c is (ab c is i).used x=y:=⟨_,rfl⟩;obtain⟨y,hy⟩:=Ec;rw[hy]at ET;have hlen:=(eF hc (is:=is) i hi).len;have aCW:=mC (c:=c) (is:=is) i;have c33:wc.cell? ⟨w5.heap.size,1,none⟩=some iv':=AN.cell rfl;have x33:aB wc ⟨wx.heap.size,0,none⟩ 0 3=some [.int .i64 y.op,.int .i64 y.a,.int .i64 y.b]:=ET.aB;have TQ:=x7.slice;obtain⟨IE,inc,rfl⟩:=TQ;push_cast -dsimp[c33,x33];refine cF fL rfl rfl (by omega) ?_;intro wd jI;have szd:=jI.size;push_cast -dsimp;refine aP (base:=w4.heap.size) [y] (enc:=bX) fL (x7.new jI) (by rfl) (λj u hu=>by simpa[bX] using jI.cell hu) j3 (by simp only[List.length_cons,List.length_nil];omega) (by omega) ?_;intro ve we qt eo Eg;have rC:∀g,(Value.slice IE (ab c is i).ins.length inc).ownBlock=some g->g≠sb/\g≠w3.heap.size/\g≠w.heap.size/\g≠w1.heap.size/\g≠w5.heap.size/\g≠w6.heap.size:=λg hg=>by have:=Kj g hg;omega
     have eD:Kept (λj=>(Value.slice IE (ab c is i).ins.length inc).ownBlock=some j) wd we:=Kept.grown eo (λ_ h=>h);have mW:Kept (λj=>(Value.slice IE (ab c is i).ins.length inc).ownBlock=some j) wc we:=(Kept.new jI).trans eD (λ_ _ h=>h);have hSe:=hSc.kept mW (λh=>(rC _ h).1 rfl);have hTe:=hTc.kept mW (λh=>(rC _ h).2.1 rfl);have hCe:=hCc.kept mW (λh=>(rC _ h).2.2.1 rfl);have QK:=Dt.kept mW (λh=>(rC _ h).2.2.2.1 rfl);have Sm:=AN.kept mW (λh=>(rC _ h).2.2.2.2.1 rfl);have YB:=hMc.kept mW (λh=>(rC _ h).2.2.2.2.2 rfl);have Ek:=yI.aH mW (λg hg h=>rq yI x7 (by decide) g hg h);have uL:Below w.heap.size w we:=ng.trans (mW.below (by omega) (λg h=>by have:=Kj g h;omega));have Mo:=mW.size;have IB:=qt.slice;obtain⟨ea,ec,rfl⟩:=IB;push_cast -dsimp;refine aC Sm (by simp) rfl ?_;intro wf iu;have szf:=iu.size;push_cast -dsimp;have vx:∀g,(Value.slice ea ((ab c is i).ins++[y]).length ec).ownBlock=some g->w7.heap.size<=g:=λg hg=>by
      rcases Eg g hg with h|h
      ·exact Kj g h
      omega
     refine⟨⟨by omega,by omega⟩,⟨i+1,I7,_,rfl,by omega,iu.aL,?_,?_,?_,hSe.kept iu.kept (by omega),hTe.kept iu.kept (by omega),hCe.kept iu.kept (by omega),QK.kept iu.kept (by omega),uL.trans (iu.kept.below (by omega) (λ_ h=>by omega)),by omega,uO,vx⟩,by rw[h76];simp only[intOf];omega⟩
     ·rw[bm];exact Ek.aH iu.kept (λg hg h=>by have:=uO g hg;omega)
     ·rw[bm,hy];exact qt.aH iu.kept (λg hg h=>by have:=vx g hg;omega)
     rw[bm];exact YB.kept iu.kept (by omega)
    rw[if_neg lg]at has;refine qI (kt:=3) (et:=3) (z:=.int .i64 0) (by kernel_rfl) (OO (by kernel_rfl)) (by kernel_rfl) hMb Bt has ?_;have JW:(ab c is i).used.length<=c.sets.length:=oD _ _ (eF hc (is:=is) i hi).nodup (eF hc (is:=is) i hi).used;have hos:=wD.slice;obtain⟨oa,oc,rfl⟩:=hos;rw[List.length_map]at hOb ep wD;have c30:wb.cell? ⟨w5.heap.size,0,none⟩=some (.slice oa (ab c is i).used.length oc):=hOb.cell rfl;have Yn:=List.getElem?_eq_getElem (l:=us) (i:=x.a.toNat) (by omega);have hug:=aHU.get Yn;obtain⟨ub,uo,rfl,_,huc⟩:=hug;have huv:∃u,us[x.a.toNat]'(by omega)=u:=⟨_,rfl⟩;obtain⟨u,hu⟩:=huv;rw[hu]at Yn huc;have csv:w.cell? ⟨ub,uo+x.a.toNat,none⟩=some u.v:=by
     have:=huc 0 _ rfl;rwa [Nat.mul_one,Nat.add_zero]at this
    have aW1:ub<w.heap.size:=World.block_lt_of_cell? w _ csv;have csb:wb.cell? ⟨ub,uo+x.a.toNat,none⟩=some u.v:=(Kept.aQ jf (X:=λ_=>False) (λk hk hl=>by omega)).cell csv id;push_cast -dsimp[c30,t1];refine jd (kt:=3) (et:=3) (by kernel_rfl) (OO (by kernel_rfl)) hMb Bt has ?_;intro wm hMm vB szm;rw[<-VI]at hMm;have hOm:=hOb.kept vB (by omega);have hCm:=hCb.kept vB (by omega);have hXm:=Nn.kept vB (by omega);have aQ5:=wD.aH vB (λg hg h=>by have:=ep g hg;omega);have csm:wm.cell? ⟨ub,uo+x.a.toNat,none⟩=some u.v:=vB.cell csb (by show ¬ub=_;omega)
    push_cast -dsimp;refine Dg [0,1,2,3,4,5,6,7,8] 9 [10,11] (λw'=>aN w' w5.heap.size 127 [.slice oa (ab c is i).used.length oc,iv']/\aN w' w.heap.size 127 [.slice (some ⟨ub,uo,none⟩) c.sets.length sc,.slice (some ⟨ib,io,none⟩) c.ins.length cp]/\aN w' wx.heap.size 164 [.int .i64 x.op,.int .i64 x.a,.int .i64 x.b]/\w'.cell? ⟨ub,uo+x.a.toNat,none⟩=some u.v) mixed (by kernel_rfl) ⟨hOm.drew,hCm.drew,hXm.drew,csm⟩ ?_;have d1:wm.drew.cell? ⟨w5.heap.size,0,none⟩=some (.slice oa (ab c is i).used.length oc):=hOm.drew.cell rfl;have d2:wm.drew.cell? ⟨w.heap.size,0,none⟩=some (.slice (some ⟨ub,uo,none⟩) c.sets.length sc):=hCm.drew.cell rfl;have d3:wm.drew.cell? ⟨wx.heap.size,1,none⟩=some (.int .i64 x.a):=hXm.drew.cell rfl;have d4:wm.drew.cell? ⟨ub,uo+x.a.toNat,none⟩=some u.v:=csm;push_cast -dsimp[d1,d2,d3,d4];refine⟨λbQ hC=>gw hC.1 rfl,λbQ hC=>gw hC.2.1 rfl,λbQ hC=>gw hC.2.2.1 rfl,⟨by omega,by omega⟩,λbQ hC=>by rw[hC.2.2.2];exact rfl,?_⟩;refine cF nw rfl rfl (by omega) ?_;intro wn hwn;have szn:wn.heap.size=wm.heap.size+1:=hwn.size;have kn:Kept (λ_=>False) wm wn:=((Kept.refl (λ_=>False) wm).drew).trans (Kept.new (X:=λ_=>False) hwn) (λ_ _ h=>h);have hOn:=hOm.kept kn id;have No:=hXm.kept kn id;refine⟨⟨hOn,hCm.kept kn id,No,kn.cell csm id⟩,?_⟩;push_cast -dsimp;have hsn:=aQ5.aH kn (λg hg h=>h.elim)
    refine aP (base:=w4.heap.size) [u] (enc:=kJ) nw hsn (by rfl) (λj v' Q5=>by simpa[kJ] using hwn.cell Q5) xo (by simp only[List.length_cons,List.length_nil,List.length_map];omega) (by omega) ?_;intro ov' wo hoo Ae aHz;have aHF:=hoo.slice;obtain⟨oa',oc',rfl⟩:=aHF;have mH:∃X,X=(λj=>(Value.slice oa (ab c is i).used.length oc).ownBlock=some j):=⟨_,rfl⟩;obtain⟨Xo,hXo⟩:=mH;have ko:Kept Xo wn wo:=Kept.grown Ae (λk h=>by rw[hXo];exact h);have QM:∀g,Xo g->w7.heap.size<=g/\g<wx.heap.size:=λg hg=>by
     rw[hXo]at hg;exact⟨ep g hg,(pG.block g (by rw[List.length_map];exact hg)).2⟩
    have szo:=ko.size;have hOo:=hOn.kept ko (λh=>by have:=QM _ h;omega);have aPk:=No.kept ko (λh=>by have:=QM _ h;omega);refine⟨trivial,?_⟩;push_cast -dsimp;refine aC hOo (by simp) rfl ?_;intro wp hwp;have szp:wp.heap.size=wo.heap.size:=hwp.size;have hXp:=aPk.kept hwp.kept (by omega);refine⟨trivial,?_⟩;push_cast -dsimp;refine aC hXp (by simp) rfl ?_;intro wc fV;have szc:wc.heap.size=wp.heap.size:=fV.size;have Ti:Kept (λj=>j=w6.heap.size\/j=w5.heap.size\/j=wx.heap.size\/Xo j) wb wc:=by
     refine((((vB.trans kn (λ_ _ h=>h.elim)).weaken (Y:=λj=>j=w6.heap.size\/j=w5.heap.size\/j=wx.heap.size\/Xo j) (λ_ _ h=>.inl h)).trans ko (λ_ _ h=>.inr (.inr (.inr h)))).trans hwp.kept (λ_ _ h=>.inr (.inl h))).trans fV.kept (λ_ _ h=>.inr (.inr (.inl h)))
    have aC0:∀k,k<w7.heap.size->k≠w6.heap.size->k≠w5.heap.size->¬(k=w6.heap.size\/k=w5.heap.size\/k=wx.heap.size\/Xo k):=λk h1 h2 h3 h=>by
     rcases h with h|h|h|h
     ·exact h2 h
     ·exact h3 h
     ·omega
     have:=QM k h;omega
    have ET:aN wc wx.heap.size 164 (bX (ju c is (ab c is i).used x)):=by
     unfold ju;rw[if_pos h1,if_neg lg];exact fV.aL
    have Gw:qy (ab c is i).used x=(ab c is i).used++[x.a.toNat]:=by unfold qy;rw[if_pos h1,if_neg lg]
    rw[Gw]at bm;have hSc:=hSb.kept Ti (aC0 _ (by omega) (by omega) (by omega));have hTc:=hTb.kept Ti (aC0 _ (by omega) (by omega) (by omega));have hCc:=hCb.kept Ti (aC0 _ (by omega) (by omega) (by omega));have Dt:=QJ.kept Ti (aC0 _ (by omega) (by omega) (by omega));have AN:=hwp.aL.kept fV.kept (by omega);have hMc:=(((hMm.kept kn id).kept ko (λh=>by have:=QM _ h;omega)).kept hwp.kept (by omega)).kept fV.kept (by omega);have aCZ:∀g,(Value.slice oa' (((ab c is i).used.map λa=>us.getD a ⟨none,0,0⟩)++[u]).length oc').ownBlock=some g->w7.heap.size<=g/\g≠wx.heap.size:=λg hg=>by
     rcases aHz g hg with h|h
     ·have:=QM g (by rw[hXo];simpa using h);omega
     omega
    have yI:=(hoo.aH hwp.kept (λg hg h=>by have:=aCZ g hg;omega)).aH fV.kept (λg hg h=>by have:=aCZ g hg;omega);have x7:=kL.aH Ti (λg hg h=>by
     have h1:=Kj g hg;have h2:=(j7.block g hg).2;rcases h with h|h|h|h
     ·omega
     ·omega
     ·omega
     rw[hXo]at h;exact rq j7 pG (by decide) g hg (by rw[List.length_map];exact h))
    have ng:Below w.heap.size w wc:=jf.trans (Ti.below (by omega) (λk h=>by
     rcases h with h|h|h|h
     ·omega
     ·omega
     ·omega
     have:=QM k h;omega))
    have ems:((ab c is i).used.map λa=>us.getD a ⟨none,0,0⟩)++[u]=((ab c is i).used++[x.a.toNat]).map λa=>us.getD a ⟨none,0,0⟩:=by
     rw[List.map_append];simp only[List.map_cons,List.map_nil,List.getD_eq_getElem?_getD,Yn,Option.getD_some]
    rw[ems]at yI AN aCZ;have uO:=λg hg=>(aCZ g hg).1;have QZ:∃I7,I7=Value.slice oa' (((ab c is i).used++[x.a.toNat]).map λa=>us.getD a ⟨none,0,0⟩).length oc':=⟨_,rfl⟩;obtain⟨I7,aQP⟩:=QZ;rw[<-aQP]at yI AN uO;have Ec:∃y,ju c is (ab c is i).used x=y:=⟨_,rfl⟩;obtain⟨y,hy⟩:=Ec;rw[hy]at ET;have hlen:=(eF hc (is:=is) i hi).len;have aCW:=mC (c:=c) (is:=is) i;have c33:wc.cell? ⟨w5.heap.size,1,none⟩=some iv':=AN.cell rfl;have x33:aB wc ⟨wx.heap.size,0,none⟩ 0 3=some [.int .i64 y.op,.int .i64 y.a,.int .i64 y.b]:=ET.aB;have TQ:=x7.slice;obtain⟨IE,inc,rfl⟩:=TQ;push_cast -dsimp[c33,x33];refine cF fL rfl rfl (by omega) ?_;intro wd jI;have szd:=jI.size;push_cast -dsimp;refine aP (base:=w4.heap.size) [y] (enc:=bX) fL (x7.new jI) (by rfl) (λj u hu=>by simpa[bX] using jI.cell hu) j3 (by simp only[List.length_cons,List.length_nil];omega) (by omega) ?_;intro ve we qt eo Eg;have rC:∀g,(Value.slice IE (ab c is i).ins.length inc).ownBlock=some g->g≠sb/\g≠w3.heap.size/\g≠w.heap.size/\g≠w1.heap.size/\g≠w5.heap.size/\g≠w6.heap.size:=λg hg=>by have:=Kj g hg;omega
    have eD:Kept (λj=>(Value.slice IE (ab c is i).ins.length inc).ownBlock=some j) wd we:=Kept.grown eo (λ_ h=>h);have mW:Kept (λj=>(Value.slice IE (ab c is i).ins.length inc).ownBlock=some j) wc we:=(Kept.new jI).trans eD (λ_ _ h=>h);have hSe:=hSc.kept mW (λh=>(rC _ h).1 rfl);have hTe:=hTc.kept mW (λh=>(rC _ h).2.1 rfl);have hCe:=hCc.kept mW (λh=>(rC _ h).2.2.1 rfl);have QK:=Dt.kept mW (λh=>(rC _ h).2.2.2.1 rfl);have Sm:=AN.kept mW (λh=>(rC _ h).2.2.2.2.1 rfl);have YB:=hMc.kept mW (λh=>(rC _ h).2.2.2.2.2 rfl);have Ek:=yI.aH mW (λg hg h=>rq yI x7 (by decide) g hg h);have uL:Below w.heap.size w we:=ng.trans (mW.below (by omega) (λg h=>by have:=Kj g h;omega));have Mo:=mW.size;have IB:=qt.slice;obtain⟨ea,ec,rfl⟩:=IB;push_cast -dsimp;refine aC Sm (by simp) rfl ?_;intro wf iu;have szf:=iu.size;push_cast -dsimp;have vx:∀g,(Value.slice ea ((ab c is i).ins++[y]).length ec).ownBlock=some g->w7.heap.size<=g:=λg hg=>by
     rcases Eg g hg with h|h
     ·exact Kj g h
     omega
    refine⟨⟨by omega,by omega⟩,⟨i+1,I7,_,rfl,by omega,iu.aL,?_,?_,?_,hSe.kept iu.kept (by omega),hTe.kept iu.kept (by omega),hCe.kept iu.kept (by omega),QK.kept iu.kept (by omega),uL.trans (iu.kept.below (by omega) (λ_ h=>by omega)),by omega,uO,vx⟩,by rw[h76];simp only[intOf];omega⟩
    ·rw[bm];exact Ek.aH iu.kept (λg hg h=>by have:=uO g hg;omega)
    ·rw[bm,hy];exact qt.aH iu.kept (λg hg h=>by have:=vx g hg;omega)
    rw[bm];exact YB.kept iu.kept (by omega)
   ·have hj:=jK hc hx h3;have Hg:x.a=((x.a.toNat:Nat):Int):=by rw[Int.toNat_of_nonneg hj.1]
    have t1:wb.cell? ⟨wx.heap.size,1,none⟩=some (.int .i64 x.a):=Nn.cell rfl;have tt:wb.cell? ⟨w3.heap.size,x.a.toNat,none⟩=some (.int .i64 (fr c is x.a.toNat:Int)):=hTb.cell (by unfold tP;rw[List.getElem?_map,xW (by omega),if_pos (by omega)];rfl);push_cast -dsimp[t1,tt];refine⟨⟨by omega,by omega⟩,?_⟩;refine aC Nn (by simp) rfl ?_;intro wc fV;have szc:=fV.size;have ET:aN wc wx.heap.size 164 (bX (ju c is (ab c is i).used x)):=by
     unfold ju;rw[if_neg h1,if_pos h3];exact fV.aL
    have Gw:qy (ab c is i).used x=(ab c is i).used:=by unfold qy;rw[if_neg h1]
    rw[Gw]at bm;have hk:=fV.kept;have hSc:=hSb.kept hk (by omega);have hTc:=hTb.kept hk (by omega);have hCc:=hCb.kept hk (by omega);have Dt:=QJ.kept hk (by omega);have AN:=hOb.kept hk (by omega);have hMc:=hMb.kept hk (by omega);have yI:=wD.aH hk (λg hg h=>by have:=pG.block g hg;omega);have x7:=kL.aH hk (λg hg h=>by have:=j7.block g hg;omega);have ng:Below w.heap.size w wc:=jf.trans (hk.below (by omega) (λ_ h=>by omega));have uO:=ep;have QZ:∃I7,I7=ov:=⟨_,rfl⟩;obtain⟨I7,rfl⟩:=QZ;have Ec:∃y,ju c is (ab c is i).used x=y:=⟨_,rfl⟩;obtain⟨y,hy⟩:=Ec;rw[hy]at ET;have hlen:=(eF hc (is:=is) i hi).len;have aCW:=mC (c:=c) (is:=is) i;have c33:wc.cell? ⟨w5.heap.size,1,none⟩=some iv':=AN.cell rfl;have x33:aB wc ⟨wx.heap.size,0,none⟩ 0 3=some [.int .i64 y.op,.int .i64 y.a,.int .i64 y.b]:=ET.aB;have TQ:=x7.slice;obtain⟨IE,inc,rfl⟩:=TQ;push_cast -dsimp[c33,x33];refine cF fL rfl rfl (by omega) ?_;intro wd jI;have szd:=jI.size;push_cast -dsimp;refine aP (base:=w4.heap.size) [y] (enc:=bX) fL (x7.new jI) (by rfl) (λj u hu=>by simpa[bX] using jI.cell hu) j3 (by simp only[List.length_cons,List.length_nil];omega) (by omega) ?_;intro ve we qt eo Eg;have rC:∀g,(Value.slice IE (ab c is i).ins.length inc).ownBlock=some g->g≠sb/\g≠w3.heap.size/\g≠w.heap.size/\g≠w1.heap.size/\g≠w5.heap.size/\g≠w6.heap.size:=λg hg=>by have:=Kj g hg;omega
    have eD:Kept (λj=>(Value.slice IE (ab c is i).ins.length inc).ownBlock=some j) wd we:=Kept.grown eo (λ_ h=>h);have mW:Kept (λj=>(Value.slice IE (ab c is i).ins.length inc).ownBlock=some j) wc we:=(Kept.new jI).trans eD (λ_ _ h=>h);have hSe:=hSc.kept mW (λh=>(rC _ h).1 rfl);have hTe:=hTc.kept mW (λh=>(rC _ h).2.1 rfl);have hCe:=hCc.kept mW (λh=>(rC _ h).2.2.1 rfl);have QK:=Dt.kept mW (λh=>(rC _ h).2.2.2.1 rfl);have Sm:=AN.kept mW (λh=>(rC _ h).2.2.2.2.1 rfl);have YB:=hMc.kept mW (λh=>(rC _ h).2.2.2.2.2 rfl);have Ek:=yI.aH mW (λg hg h=>rq yI x7 (by decide) g hg h);have uL:Below w.heap.size w we:=ng.trans (mW.below (by omega) (λg h=>by have:=Kj g h;omega));have Mo:=mW.size;have IB:=qt.slice;obtain⟨ea,ec,rfl⟩:=IB;push_cast -dsimp;refine aC Sm (by simp) rfl ?_;intro wf iu;have szf:=iu.size;push_cast -dsimp;have vx:∀g,(Value.slice ea ((ab c is i).ins++[y]).length ec).ownBlock=some g->w7.heap.size<=g:=λg hg=>by
     rcases Eg g hg with h|h
     ·exact Kj g h
     omega
    refine⟨⟨by omega,by omega⟩,⟨i+1,I7,_,rfl,by omega,iu.aL,?_,?_,?_,hSe.kept iu.kept (by omega),hTe.kept iu.kept (by omega),hCe.kept iu.kept (by omega),QK.kept iu.kept (by omega),uL.trans (iu.kept.below (by omega) (λ_ h=>by omega)),by omega,uO,vx⟩,by rw[h76];simp only[intOf];omega⟩
    ·rw[bm];exact Ek.aH iu.kept (λg hg h=>by have:=uO g hg;omega)
    ·rw[bm,hy];exact qt.aH iu.kept (λg hg h=>by have:=vx g hg;omega)
    rw[bm];exact YB.kept iu.kept (by omega)
   ·have hj:=nO hc hx h2;have Hg:x.a=((x.a.toNat:Nat):Int):=by rw[Int.toNat_of_nonneg hj.1]
    have Sy:x.b=((x.b.toNat:Nat):Int):=by rw[Int.toNat_of_nonneg hj.2.2.1]
    have hTd:aN wb.drew w3.heap.size 3 (tP (RY c is (c.ins.length+1))):=hTb.drew;refine aA9 [(0,false),(1,false),(2,false),(3,false),(4,false),(5,true),(6,false),(7,false),(8,true),(9,true),(10,false)] 11 [12,13] (λw'=>w'=wb.drew) (λw'=>aN w' w3.heap.size 3 (tP (RY c is (c.ins.length+1)))) mixed (by kernel_rfl) (λw' h=>by rw[h];exact hTd) rfl ?_;have t1:wb.drew.cell? ⟨wx.heap.size,1,none⟩=some (.int .i64 x.a):=Nn.drew.cell rfl;have t2:wb.drew.cell? ⟨wx.heap.size,2,none⟩=some (.int .i64 x.b):=Nn.drew.cell rfl;have gt:∀(n:Nat),n<c.ins.length->(tP (RY c is (c.ins.length+1)))[n]?=some (.int .i64 (fr c is n:Int)):=λn hn=>by unfold tP;rw[List.getElem?_map,xW (by omega),if_pos (by omega)];rfl
    have ta:wb.drew.cell? ⟨w3.heap.size,x.a.toNat,none⟩=some (.int .i64 (fr c is x.a.toNat:Int)):=hTd.cell (gt _ (by omega));have tb:wb.drew.cell? ⟨w3.heap.size,x.b.toNat,none⟩=some (.int .i64 (fr c is x.b.toNat:Int)):=hTd.cell (gt _ (by omega));push_cast -dsimp[t1,t2,ta,tb];refine⟨λbQ hC=>by rw[hC];exact gw Nn.drew rfl,⟨by omega,by omega⟩,λbQ hC=>by rw[hC];exact gw hTd (gt _ (by omega)),λbQ hC=>by rw[hC];exact gw Nn.drew rfl,⟨by omega,by omega⟩,λbQ hC=>gw hC (gt _ (by omega)),?_⟩;refine aC Nn.drew (by simp) rfl ?_;intro wc1 aDa;have aRJ:wc1.heap.size=wb.heap.size:=aDa.size;have aK3:=hTd.kept aDa.kept (by omega);refine⟨aK3,?_⟩;push_cast -dsimp;refine aC aDa.aL (by simp) rfl ?_;intro wc fV;have szc:wc.heap.size=wb.heap.size:=fV.size.trans aRJ;refine⟨aK3.kept fV.kept (by omega),?_⟩;have ET:aN wc wx.heap.size 164 (bX (ju c is (ab c is i).used x)):=by
     unfold ju;rw[if_neg h1,if_neg h3,if_pos h2];exact fV.aL
    have Gw:qy (ab c is i).used x=(ab c is i).used:=by unfold qy;rw[if_neg h1]
    rw[Gw]at bm;have hk:Kept (λj=>j=wx.heap.size) wb wc:=(((Kept.refl (λj=>j=wx.heap.size) wb).drew).trans aDa.kept (λ_ _ h=>h)).trans fV.kept (λ_ _ h=>h);have hSc:=hSb.kept hk (by omega);have hTc:=hTb.kept hk (by omega);have hCc:=hCb.kept hk (by omega);have Dt:=QJ.kept hk (by omega);have AN:=hOb.kept hk (by omega);have hMc:=hMb.kept hk (by omega);have yI:=wD.aH hk (λg hg h=>by have:=pG.block g hg;omega);have x7:=kL.aH hk (λg hg h=>by have:=j7.block g hg;omega);have ng:Below w.heap.size w wc:=jf.trans (hk.below (by omega) (λ_ h=>by omega));have uO:=ep;have QZ:∃I7,I7=ov:=⟨_,rfl⟩;obtain⟨I7,rfl⟩:=QZ;have Ec:∃y,ju c is (ab c is i).used x=y:=⟨_,rfl⟩;obtain⟨y,hy⟩:=Ec;rw[hy]at ET;have hlen:=(eF hc (is:=is) i hi).len;have aCW:=mC (c:=c) (is:=is) i;have c33:wc.cell? ⟨w5.heap.size,1,none⟩=some iv':=AN.cell rfl;have x33:aB wc ⟨wx.heap.size,0,none⟩ 0 3=some [.int .i64 y.op,.int .i64 y.a,.int .i64 y.b]:=ET.aB;have TQ:=x7.slice;obtain⟨IE,inc,rfl⟩:=TQ;push_cast -dsimp[c33,x33];refine cF fL rfl rfl (by omega) ?_;intro wd jI;have szd:=jI.size;push_cast -dsimp;refine aP (base:=w4.heap.size) [y] (enc:=bX) fL (x7.new jI) (by rfl) (λj u hu=>by simpa[bX] using jI.cell hu) j3 (by simp only[List.length_cons,List.length_nil];omega) (by omega) ?_;intro ve we qt eo Eg;have rC:∀g,(Value.slice IE (ab c is i).ins.length inc).ownBlock=some g->g≠sb/\g≠w3.heap.size/\g≠w.heap.size/\g≠w1.heap.size/\g≠w5.heap.size/\g≠w6.heap.size:=λg hg=>by have:=Kj g hg;omega
    have eD:Kept (λj=>(Value.slice IE (ab c is i).ins.length inc).ownBlock=some j) wd we:=Kept.grown eo (λ_ h=>h);have mW:Kept (λj=>(Value.slice IE (ab c is i).ins.length inc).ownBlock=some j) wc we:=(Kept.new jI).trans eD (λ_ _ h=>h);have hSe:=hSc.kept mW (λh=>(rC _ h).1 rfl);have hTe:=hTc.kept mW (λh=>(rC _ h).2.1 rfl);have hCe:=hCc.kept mW (λh=>(rC _ h).2.2.1 rfl);have QK:=Dt.kept mW (λh=>(rC _ h).2.2.2.1 rfl);have Sm:=AN.kept mW (λh=>(rC _ h).2.2.2.2.1 rfl);have YB:=hMc.kept mW (λh=>(rC _ h).2.2.2.2.2 rfl);have Ek:=yI.aH mW (λg hg h=>rq yI x7 (by decide) g hg h);have uL:Below w.heap.size w we:=ng.trans (mW.below (by omega) (λg h=>by have:=Kj g h;omega));have Mo:=mW.size;have IB:=qt.slice;obtain⟨ea,ec,rfl⟩:=IB;push_cast -dsimp;refine aC Sm (by simp) rfl ?_;intro wf iu;have szf:=iu.size;push_cast -dsimp;have vx:∀g,(Value.slice ea ((ab c is i).ins++[y]).length ec).ownBlock=some g->w7.heap.size<=g:=λg hg=>by
     rcases Eg g hg with h|h
     ·exact Kj g h
     omega
    refine⟨⟨by omega,by omega⟩,⟨i+1,I7,_,rfl,by omega,iu.aL,?_,?_,?_,hSe.kept iu.kept (by omega),hTe.kept iu.kept (by omega),hCe.kept iu.kept (by omega),QK.kept iu.kept (by omega),uL.trans (iu.kept.below (by omega) (λ_ h=>by omega)),by omega,uO,vx⟩,by rw[h76];simp only[intOf];omega⟩
    ·rw[bm];exact Ek.aH iu.kept (λg hg h=>by have:=uO g hg;omega)
    ·rw[bm,hy];exact qt.aH iu.kept (λg hg h=>by have:=vx g hg;omega)
    rw[bm];exact YB.kept iu.kept (by omega)
   have Gw:qy (ab c is i).used x=(ab c is i).used:=by unfold qy;rw[if_neg h1]
   rw[Gw]at bm;have fV:∃wc,wc=wb:=⟨_,rfl⟩;obtain⟨wc,rfl⟩:=fV;have szc:wc.heap.size=wc.heap.size:=rfl;have ET:aN wc wx.heap.size 164 (bX (ju c is (ab c is i).used x)):=by
    unfold ju;rw[if_neg h1,if_neg h3,if_neg h2];exact Nn
   have hk:Kept (λj=>j=wx.heap.size) wc wc:=Kept.refl _ _;have hSc:=hSb.kept hk (by omega);have hTc:=hTb.kept hk (by omega);have hCc:=hCb.kept hk (by omega);have Dt:=QJ.kept hk (by omega);have AN:=hOb.kept hk (by omega);have hMc:=hMb.kept hk (by omega);have yI:=wD.aH hk (λg hg h=>by have:=pG.block g hg;omega);have x7:=kL.aH hk (λg hg h=>by have:=j7.block g hg;omega);have ng:Below w.heap.size w wc:=jf.trans (hk.below (by omega) (λ_ h=>by omega));have uO:=ep;have QZ:∃I7,I7=ov:=⟨_,rfl⟩;obtain⟨I7,rfl⟩:=QZ;have Ec:∃y,ju c is (ab c is i).used x=y:=⟨_,rfl⟩;obtain⟨y,hy⟩:=Ec;rw[hy]at ET;have hlen:=(eF hc (is:=is) i hi).len;have aCW:=mC (c:=c) (is:=is) i;have c33:wc.cell? ⟨w5.heap.size,1,none⟩=some iv':=AN.cell rfl;have x33:aB wc ⟨wx.heap.size,0,none⟩ 0 3=some [.int .i64 y.op,.int .i64 y.a,.int .i64 y.b]:=ET.aB;have TQ:=x7.slice;obtain⟨IE,inc,rfl⟩:=TQ;push_cast -dsimp[c33,x33];refine cF fL rfl rfl (by omega) ?_;intro wd jI;have szd:=jI.size;push_cast -dsimp;refine aP (base:=w4.heap.size) [y] (enc:=bX) fL (x7.new jI) (by rfl) (λj u hu=>by simpa[bX] using jI.cell hu) j3 (by simp only[List.length_cons,List.length_nil];omega) (by omega) ?_;intro ve we qt eo Eg;have rC:∀g,(Value.slice IE (ab c is i).ins.length inc).ownBlock=some g->g≠sb/\g≠w3.heap.size/\g≠w.heap.size/\g≠w1.heap.size/\g≠w5.heap.size/\g≠w6.heap.size:=λg hg=>by have:=Kj g hg;omega
   have eD:Kept (λj=>(Value.slice IE (ab c is i).ins.length inc).ownBlock=some j) wd we:=Kept.grown eo (λ_ h=>h);have mW:Kept (λj=>(Value.slice IE (ab c is i).ins.length inc).ownBlock=some j) wc we:=(Kept.new jI).trans eD (λ_ _ h=>h);have hSe:=hSc.kept mW (λh=>(rC _ h).1 rfl);have hTe:=hTc.kept mW (λh=>(rC _ h).2.1 rfl);have hCe:=hCc.kept mW (λh=>(rC _ h).2.2.1 rfl);have QK:=Dt.kept mW (λh=>(rC _ h).2.2.2.1 rfl);have Sm:=AN.kept mW (λh=>(rC _ h).2.2.2.2.1 rfl);have YB:=hMc.kept mW (λh=>(rC _ h).2.2.2.2.2 rfl);have Ek:=yI.aH mW (λg hg h=>rq yI x7 (by decide) g hg h);have uL:Below w.heap.size w we:=ng.trans (mW.below (by omega) (λg h=>by have:=Kj g h;omega));have Mo:=mW.size;have IB:=qt.slice;obtain⟨ea,ec,rfl⟩:=IB;push_cast -dsimp;refine aC Sm (by simp) rfl ?_;intro wf iu;have szf:=iu.size;push_cast -dsimp;have vx:∀g,(Value.slice ea ((ab c is i).ins++[y]).length ec).ownBlock=some g->w7.heap.size<=g:=λg hg=>by
    rcases Eg g hg with h|h
    ·exact Kj g h
    omega
   refine⟨⟨by omega,by omega⟩,⟨i+1,I7,_,rfl,by omega,iu.aL,?_,?_,?_,hSe.kept iu.kept (by omega),hTe.kept iu.kept (by omega),hCe.kept iu.kept (by omega),QK.kept iu.kept (by omega),uL.trans (iu.kept.below (by omega) (λ_ h=>by omega)),by omega,uO,vx⟩,by rw[h76];simp only[intOf];omega⟩
   ·rw[bm];exact Ek.aH iu.kept (λg hg h=>by have:=uO g hg;omega)
   ·rw[bm,hy];exact qt.aH iu.kept (λg hg h=>by have:=vx g hg;omega)
   rw[bm];exact YB.kept iu.kept (by omega)
 have oh:i=c.ins.length:=by omega
 subst oh;have q3:=Sn.aB;simp only[List.length_cons,List.length_nil,Nat.zero_add,Nat.reduceAdd]at q3;have oY:=pG.slice;obtain⟨oa,oc,rfl⟩:=oY;have oY:=j7.slice;obtain⟨na,nc,rfl⟩:=oY;push_cast -dsimp[q3];refine aI (n:=2) (by kernel_rfl) vh rfl (by simp) (by simp[Value.oneCell']) ?_;intro w8 n9;have sz8:=n9.size;have q5:aB w8 ⟨w1.heap.size,0,none⟩ 0 2=some _:=n9.aL.aB;have j5:Below w.heap.size w w8:=bS.trans (n9.kept.below (by omega) (λ_ h=>by omega));have aHG:=pG.aH n9.kept (λg hg h=>by have:=pG.block g hg;omega);have aHB:=j7.aH n9.kept (λg hg h=>by have:=j7.block g hg;omega);push_cast -dsimp[q5];refine⟨⟨is,_,_,rfl,hCl,?_,aHB.mono (by omega)⟩,j5⟩;refine eH.sj (us:=(ab c is c.ins.length).used.map λa=>us.getD a ⟨none,0,0⟩) (by unfold bw ZI;simp) (aHG.aMZ.weaken λb h=>?_) ?_
 ·rcases h with h|h
  ·intro hh
   have:=aHG.block b hh
   have:=hX b h;omega
  exact λhh=>rq aHB aHG (by decide) b h hh
 intro j u s hu hs;have hI:=eF hc (is:=is) c.ins.length (Nat.le_refl _);unfold bw ZI at hs;rw[List.getElem?_map]at hu hs;cases hj:(ab c is c.ins.length).used[j]? with
 | none=>rw[hj]at hu;cases hu
 | some d =>
  rw[hj]at hu hs;have hd:=hI.used d (List.mem_of_getElem? hj);have e1:=List.getElem?_eq_getElem (l:=us) (i:=d) (by omega);have e2:=List.getElem?_eq_getElem (l:=c.sets) (i:=d) (by omega);simp only[Option.map_some,Option.some.injEq,List.getD_eq_getElem?_getD,e1,e2,Option.getD_some]at hu hs;subst hu hs;refine Sl.below (w:=w) ((aHV d _ _ e1 e2).fresh (λ_=>by simp[bF]) (λb h=>?_)) j5;rcases h with h|h
  ·exact .inl h
  have:=aHB.block b h;omega
end
section
open Go.Vc Go.Proofs Go.RowKit Cae
structure ft (c d:aE):Prop where
 cr:CR d
 len:d.ins.length<=c.ins.length
 lens:mQ d
 acc:∀ps,Acc d 0 ps↔Acc c 0 ps
theorem ft.refl {c:aE}(hc:CR c)(hl:mQ c):ft c c:=⟨hc,Nat.le_refl _,hl,λ_=>Iff.rfl⟩
theorem ft.vm {c d:aE}(h:ft c d)(hc:CR c)(ps:List Int):(fK d ps).1=(fK c ps).1:=by
 rw[Bool.eq_iff_iff,n0 h.cr,n0 hc];exact h.acc ps
def u9:aE:=⟨[[]],[⟨1,0,0⟩,⟨5,0,0⟩]⟩
theorem LV:aW u9=true:=by decide
theorem UF (ps:List Int):¬Acc u9 0 ps:=by
 rw[iH (c:=u9) (k:=0) (x:=⟨1,0,0⟩) rfl (by decide)];rintro⟨p,r,_,h,_⟩;exact absurd h (by simp[u9,fO])
theorem mv {c:aE}(ep:∀x∈c.ins,x.op≠5):∀(h k:Nat) (ps:List Int),¬dZ c h k ps
 | 0,k,ps=>λh=>h
 | h+1,k,ps=>by
  intro hh;rw[dZ]at hh;cases hx:c.ins[k]? with
  | none=>rw[hx]at hh;exact hh
  | some x =>
   rw[hx]at hh;dsimp only at hh;rw[if_neg (ep x (List.mem_of_getElem? hx))]at hh;by_cases h2:x.op=2
   ·rw[if_pos h2]at hh;rcases hh with hh|hh
    ·exact mv ep h _ _ hh
    exact mv ep h _ _ hh
   rw[if_neg h2]at hh;by_cases h3:x.op=3
   ·rw[if_pos h3]at hh;exact mv ep h _ _ hh
   rw[if_neg h3]at hh;by_cases h4:x.op=4
   ·rw[if_pos h4]at hh;exact mv ep h _ _ hh.2
   rw[if_neg h4]at hh;cases ps with
   | nil=>exact hh
   | cons p r=>exact mv ep h _ _ hh.2
theorem ft.never {c d:aE}(h:ft c d)(ep:(d.ins.any λx=>decide (x.op=5))=false)(h2:2<=c.ins.length):ft c u9:=by
 have aHz:∀x∈d.ins,x.op≠5:=λx hx e=>by
  rw[List.any_eq_false]at ep;exact ep x hx (decide_eq_true e)
 refine⟨CR.of LV,h2,λs hs=>?_,λps=>⟨λhh=>absurd hh (UF ps),λhh=>?_⟩⟩
 ·have:s=[]:=by simpa[u9] using hs
  subst this;exact Nat.zero_lt_succ _
 obtain⟨n,hn⟩:=(h.acc ps).2 hh;exact absurd hn (mv aHz n 0 ps)
theorem ft.aIQ {c d:aE}(h:ft c d):ft c (pW d):=by
 have ht:=oe h.cr d.ins.length;obtain⟨h1,h2,h3,h4,_⟩:=ht;refine⟨h1,by show (ar d d.ins.length).ins.length<=_;rw[h3];exact h.len,λs hs=>h.lens s (by have:s∈(ar d d.ins.length).sets:=hs;rwa [h2]at this),λps=>(h4 0 ps).trans (h.acc ps)⟩
theorem ft.ZJ {c d:aE}(h:ft c d){is:List Bool}(hC:ts d is) :
  (aW (bw d is)=true->ft c (bw d is))/\(aW (bw d is)=false->ft c ⟨(bw d is).sets,(bw d is).ins++[FK]⟩)/\(bw d is).ins.length<=2000/\(bw d is).sets.length<=2000/\mQ (bw d is):=by
 have hr:=LA h.cr hC;obtain⟨h1,h2,h3,h4⟩:=hr;have hm:=h.cr.many;have hs:=h.cr.sets;have hlen:=h.len;have hl:mQ (bw d is):=λs hs=>by
  obtain⟨a,ha,rfl⟩:=List.mem_map.1 (show s∈(ab d is d.ins.length).used.map (λa=>d.sets.getD a []) from hs)
  have aq:=(eF h.cr (is:=is) d.ins.length (Nat.le_refl _)).used a ha;rw[List.getD_eq_getElem?_getD,List.getElem?_eq_getElem aq];exact h.lens _ (List.getElem_mem aq)
 refine⟨λhR=>⟨CR.of hR,by omega,hl,λps=>?_⟩,λhR=>?_,by omega,by omega,hl⟩
 ·have:=Fh h.cr hC [] 0 hC.zero ps;rw[List.append_nil]at this;exact this.symm.trans (h.acc ps)
 rcases h4 with h4|⟨_,h5,h6⟩
 ·rw[hR]at h4;cases h4
 refine⟨h6,by simp only[List.length_append,List.length_cons,List.length_nil];omega,hl,λps=>?_⟩;exact(Fh h.cr hC [FK] 0 hC.zero ps).symm.trans (h.acc ps)
theorem ft.one {c d:aE}(h:ft c d)(hc:c.ins.length=1)(hy:Acc c 0 []):d.ins=[⟨5,0,0⟩]:=by
 have h1:=h.cr.one;have h2:=h.len;match hd:d.ins with
 | []=>rw[hd]at h1;simp at h1
 | [x] =>
  have hx:d.ins[0]?=some x:=by rw[hd];rfl
  have hlen:d.ins.length=1:=by rw[hd];rfl
  have oh:=cY (h.cr.ins 0 x hx);have KX:=(h.acc []).2 hy;obtain⟨n,hn⟩:=KX;have j7:=h.cr.next 0 x hx;by_cases h5:x.op=5
  ·rcases oh with ⟨e,_⟩|⟨e,_⟩|⟨e,_⟩|⟨e,g1,g2⟩
   ·omega
   ·omega
   ·omega
   obtain⟨o,a,b⟩:=x;simp only at h5 g1 g2;subst h5 g1 g2;rfl
  exact absurd hn (mv (λy hy=>by rw[hd]at hy;simp at hy;subst hy;exact h5) n 0 [])
 | x::y::l=>rw[hd]at h2;simp at h2;omega
end
section
open Go.Vc Go.Proofs Go.RowKit Cae
attribute [local irreducible] dN ae ak aY runK aw Sl Vc.Own vc aV cJ a7
def nj (c:aE):Prop:=mQ c/\c.ins.length<1000000000/\c.sets.length<1000000000
def nk (p:bh):Prop:=p.rules.length<1000000000/\∀r∈p.rules,nj r.before/\nj r.after
def eL (X:Nat->Prop)(w:World):List Value->bo->Prop:=λcs r=>∃s1 i1 s2 i2,cs=[.bool r.brk,s1,i1,s2,i2]/\cz X w (.agg #[s1,i1]) r.before/\cz X w (.agg #[s2,i2]) r.after
def iz (X:Nat->Prop)(w:World)(v:Value)(p:bh):Prop:=∃rv,v=.agg #[rv,.bool p.els]/\Sl X 5 (eL X w) w rv p.rules
theorem eL.mono {X X':Nat->Prop}{w w':World}{cs:List Value}{r:bo}(h:eL X w cs r)(hs:∀b,¬X b->b<w.heap.size->w'.heap[b]?=w.heap[b]?)(hX:∀b,X' b->X b):eL X' w' cs r:=by
 obtain⟨s1,i1,s2,i2,rfl,h1,h2⟩:=h;exact⟨s1,i1,s2,i2,rfl,h1.mono hs hX,h2.mono hs hX⟩
theorem pg.mono {X X':Nat->Prop}{w w':World}{v:Value}{l:List bo}(h:Sl X 5 (eL X w) w v l)(hs:∀b,¬X b->b<w.heap.size->w'.heap[b]?=w.heap[b]?)(hX:∀b,X' b->X b):Sl X' 5 (eL X' w') w' v l :=
 Sl.mono h hs (λ_ _ _ h=>h.mono hs hX) hX
theorem iz.mono {X X':Nat->Prop}{w w':World}{v:Value}{p:bh}(h:iz X w v p)(hs:∀b,¬X b->b<w.heap.size->w'.heap[b]?=w.heap[b]?)(hX:∀b,X' b->X b):iz X' w' v p:=by
 obtain⟨rv,rfl,h⟩:=h;exact⟨rv,rfl,pg.mono h hs hX⟩
theorem pg.below {X:Nat->Prop}{w w':World}{v:Value}{l:List bo}(h:Sl X 5 (eL X w) w v l)(hb:Below w.heap.size w w'):Sl X 5 (eL X w') w' v l:=pg.mono h (λb _ aq=>hb.block b aq) (λ_ h=>h)
theorem eL.below {X:Nat->Prop}{w w':World}{cs:List Value}{r:bo}(h:eL X w cs r)(hb:Below w.heap.size w w'):eL X w' cs r:=h.mono (λb _ aq=>hb.block b aq) (λ_ h=>h)
theorem iz.below {X:Nat->Prop}{w w':World}{v:Value}{p:bh}(h:iz X w v p)(hb:Below w.heap.size w w'):iz X w' v p:=h.mono (λb _ aq=>hb.block b aq) (λ_ h=>h)
theorem Sl.narrow {α:Type}{X X':Nat->Prop}{k:Nat}{R R':List Value->α->Prop}{w:World}{v:Value}{l:List α}(h:Sl X k R w v l)(hk:0<k)(hR:∀cs x,R cs x->R' cs x)(hX:∀b,b<w.heap.size->X' b->X b):Sl X' k R' w v l:=by
 unfold Sl at h ⊢
 obtain⟨a,c,he,hc,h⟩:=h;refine⟨a,c,he,hc,λi x hx=>?_⟩;obtain⟨b,o,cs,ha,hb,il,aM,hr⟩:=h i x hx;have h0:=aM 0 cs[0] (List.getElem?_eq_getElem (by omega));exact⟨b,o,cs,ha,λhh=>hb (hX b (World.block_lt_of_cell? w _ h0) hh),il,aM,hR _ _ hr⟩
theorem cz.narrow {X X':Nat->Prop}{w:World}{v:Value}{c:aE}(h:cz X w v c)(hX:∀b,b<w.heap.size->X' b->X b):cz X' w v c:=by
 obtain⟨sv,iv,rfl,h1,h2⟩:=h;refine⟨sv,iv,rfl,Sl.narrow h1 (by omega) (λcs x hx=>?_) hX,Sl.narrow h2 (by omega) (λ_ _ h=>h) hX⟩;obtain⟨u,rfl,hu⟩:=hx;exact⟨u,rfl,Sl.narrow hu (by omega) (λ_ _ h=>h) hX⟩
theorem eL.narrow {X X':Nat->Prop}{w:World}{cs:List Value}{r:bo}(h:eL X w cs r)(hX:∀b,b<w.heap.size->X' b->X b):eL X' w cs r:=by
 obtain⟨s1,i1,s2,i2,rfl,h1,h2⟩:=h;exact⟨s1,i1,s2,i2,rfl,h1.narrow hX,h2.narrow hX⟩
theorem iz.narrow {X X':Nat->Prop}{w:World}{v:Value}{p:bh}(h:iz X w v p)(hX:∀b,b<w.heap.size->X' b->X b):iz X' w v p:=by
 obtain⟨rv,rfl,h⟩:=h;exact⟨rv,rfl,Sl.narrow h (by omega) (λ_ _ h=>h.narrow hX) hX⟩
theorem lE {w:World}{b n:Nat}{e:TypeId}{cs xs:List Value}(h:aN w b e cs)(o:Nat)(hx:(cs.drop o).take n=xs)(hn:xs.length=n):aB w ⟨b,o,none⟩ 0 n=some xs:=by
 subst hn;refine ao xs 0 λj u hu=>?_;rw[Nat.zero_add];refine h.cell ?_;rw[<-hx]at hu
 have:=(List.getElem?_eq_some_iff.1 hu).1;rw[List.length_take]at this;rw[List.getElem?_take_of_lt (by omega),List.getElem?_drop]at hu;exact hu
theorem I9 {α:Type}(R:List Value->α->Prop)(g:FuncId)(cap:List Value)(f:α->Bool)(l:List α)(hl:l.length<1000000000)(X:Nat->Prop)(v:Value)(w:World)(hv:Sl X 5 R w v l)
  (hf:∀x∈l,∀cs,R cs x->cs.length=5->∀w',Below w.heap.size w w'->aw Tryz.prog g (elV cs::cap) w' λr bQ=>r=.bool (f x)/\Below w'.heap.size w' bQ) :
  aw Tryz.prog 120 [v,.func (.func g) #[] cap.toArray] w λr w'=>(∃n:Int,r=.int .i64 n/\(0<=n↔l.any f=true))/\Below w.heap.size w w':=by
 obtain⟨a,c,rfl,hc⟩:=hv.shape;refine aD Tryz.func120 rfl (by kernel_rfl) [4] rfl ?_;push_cast -dsimp(maxSteps:=9^7) [Tryz.ntmps120];refine aK [4,5,8,9,10,11,12,13,14,15,16,17,18] (λz wx=>∃(i:Nat),z 8=.int .i64 i/\i<=l.length/\(∀x∈l.take i,f x=false)/\Below w.heap.size w wx) (λz _=>l.length-(intOf (z 8)).toNat) ?_ ?_
 ·exact⟨0,rfl,Nat.zero_le _,by simp,Below.refl _ _⟩
 intro z wx hI;obtain⟨i,h8,hi,bI,hb⟩:=hI;push_cast -dsimp[h8];refine⟨λaq=>?_,λeo=>?_⟩
 ·obtain⟨x,hx,jJ,hd,ht⟩:=ag (l:=l) (i:=i) (by omega);obtain⟨b,o,cs,ha,hX,hk,aM,hR⟩:=(hv.below hb).AJ hx;subst ha;obtain⟨u0,u1,u2,u3,u4,rfl⟩:∃u0 u1 u2 u3 u4,cs=[u0,u1,u2,u3,u4]:=(match cs,hk with|[u0,u1,u2,u3,u4],_=>⟨u0,u1,u2,u3,u4,rfl⟩);have c0:aB wx ⟨b,o+i*5,none⟩ 0 5=some [u0,u1,u2,u3,u4]:=(ao [u0,u1,u2,u3,u4] 0 (λj u hu=>by simpa using aM j u hu));push_cast -dsimp[c0]
  refine⟨⟨by omega,by omega⟩,?_⟩;refine aA (hf x jJ _ hR rfl wx hb) ?_;rintro _ w1 ⟨rfl,gS⟩;have oU:=hb.trans (gS.mono hb.size);push_cast -dsimp[Gk];refine⟨λAX=>?_,λep=>?_⟩
  ·exact⟨⟨i,rfl,⟨λ_=>List.any_eq_true.2 ⟨x,jJ,AX⟩,λ_=>by omega⟩⟩,oU⟩
  refine⟨⟨by omega,by omega⟩,⟨i+1,rfl,by omega,?_,oU⟩,by rw[h8];simp only[intOf];omega⟩;intro y hy;rw[ht,List.mem_append,List.mem_singleton]at hy;rcases hy with hy|rfl
  ·exact bI y hy
  exact ep
 refine⟨⟨-1,rfl,?_⟩,hb⟩;rw[List.take_of_length_le (by omega)]at bI;constructor
 ·intro h;omega
 intro h;obtain⟨x,hx,hn⟩:=List.any_eq_true.1 h;rw[bI x hx]at hn;cases hn
theorem A0 {α:Type}(R:List Value->α->Prop)(g:FuncId)(cap:List Value)(f:α->Bool)(l:List α)(hl:l.length<1000000000)(X:Nat->Prop)(v:Value)(w:World)(hv:Sl X 5 R w v l)
  (hf:∀x∈l,∀cs,R cs x->cs.length=5->∀w',Below w.heap.size w w'->aw Tryz.prog g (elV cs::cap) w' λr bQ=>r=.bool (f x)/\Below w'.heap.size w' bQ) :
  aw Tryz.prog 86 [v,.func (.func g) #[] cap.toArray] w λr w'=>r=.bool (l.any f)/\Below w.heap.size w w':=by
 refine aD Tryz.func86 rfl (by kernel_rfl) [4] rfl ?_;push_cast -dsimp(maxSteps:=9^7) [Tryz.ntmps86];refine aA (I9 R g cap f l hl X v w hv hf) ?_;rintro r w1 ⟨⟨n,rfl,hn⟩,hb⟩;push_cast -dsimp;refine⟨?_,hb⟩;congr 1;cases h:l.any f with
 | true=>rw[h]at hn;exact decide_eq_true (hn.2 rfl)
 | false=>rw[h]at hn;exact decide_eq_false (λh0=>by have:=hn.1 h0;cases this)
theorem Lm (r:bo)(hl:nj r.before/\nj r.after)(X:Nat->Prop)(w:World)(cs:List Value)(hv:eL X w cs r) :
  aw Tryz.prog 87 [elV cs] w λu w'=>u=.bool (!(aW r.before && aW r.after))/\Below w.heap.size w w':=by
 obtain⟨s1,i1,s2,i2,rfl,h1,h2⟩:=hv
 show aw _ _ [.agg #[.bool r.brk,s1,i1,s2,i2]] _ _
 refine aD Tryz.func87 rfl (by kernel_rfl) [2] rfl ?_;push_cast -dsimp(maxSteps:=9^7) [Tryz.ntmps87];refine aS ?_;intro w1 aU;have il:dU (.agg #[.bool r.brk,s1,i1,s2,i2])=[.bool r.brk,s1,i1,s2,i2]:=rfl;rw[il]at aU;have d1:aB w1 ⟨w.heap.size,1,none⟩ 0 2=some [s1,i1]:=lE (n:=2) (xs:=[s1,i1]) aU.aL 1 rfl rfl;push_cast -dsimp[d1];refine aA (ph r.before hl.1.1 hl.1.2.1 hl.1.2.2 X _ w1 (h1.below aU.below)) ?_;rintro _ w2 ⟨rfl,dt⟩;have qw:=aU.size;have gy:=aU.below.trans (dt.mono (by omega));have d2:aB w2 ⟨w.heap.size,3,none⟩ 0 2=some [s2,i2]:=lE (n:=2) (xs:=[s2,i2]) (aU.aL.below dt (by omega)) 3 rfl rfl;cases hr:aW r.before with
 | false =>
  push_cast -dsimp;exact⟨by simp,gy⟩
 | true =>
  push_cast -dsimp[d2];refine aA (ph r.after hl.2.1 hl.2.2.1 hl.2.2.2 X _ w2 (h2.below gy)) ?_;rintro _ w3 ⟨rfl,gB⟩;push_cast -dsimp;exact gy.trans (gB.mono gy.size)
theorem jz (p:bh)(hl:nk p)(X:Nat->Prop)(v:Value)(w:World)(hv:iz X w v p) :
  aw Tryz.prog 54 [v] w λu w'=>u=.bool (bL p)/\Below w.heap.size w w':=by
 obtain⟨rv,rfl,hr⟩:=hv;obtain⟨a,c,rfl,hc⟩:=hr.shape;refine aD Tryz.func54 rfl (by kernel_rfl) [2] rfl ?_;push_cast -dsimp(maxSteps:=9^7) [Tryz.ntmps54];refine aS ?_;intro w1 aU;have d0:w1.cell? ⟨w.heap.size,0,none⟩=some (.slice a p.rules.length c):=aU.cell rfl;push_cast -dsimp[d0];refine⟨λh1=>?_,λh1=>⟨by congr 1;unfold bL;rw[decide_eq_false (by omega)];rfl,aU.below⟩⟩;refine aA (A0 (eL X w1) 87 [] (λr=>!(aW r.before && aW r.after)) p.rules (by omega) X _ w1 (pg.below hr aU.below) ?_) ?_
 ·intro r Ej cs hR _ w' Dw;exact Lm r (hl.2 r Ej) X w' cs (hR.below Dw)
 rintro _ w2 ⟨rfl,dt⟩;push_cast -dsimp;refine⟨?_,aU.below.trans (dt.mono aU.below.size)⟩;rw[G1];congr 1;unfold bL;rw[decide_eq_true (by omega),Bool.true_and]
end
section
open Go.Vc Go.Proofs Go.RowKit Cae
attribute [local irreducible] dN ae ak aY runK aw Sl Vc.Own vc aV cJ a7
attribute [local irreducible] pW bw
theorem Rx (x:I3)(w:World):aw Tryz.prog 116 [.agg #[.int .i64 x.op,.int .i64 x.a,.int .i64 x.b]] w λr w'=>r=.bool (decide (x.op=5))/\Below w.heap.size w w':=by
 refine aD Tryz.func116 rfl (by kernel_rfl) [2] rfl ?_;push_cast -dsimp(maxSteps:=9^7) [Tryz.ntmps116];refine aS ?_;intro w1 aU;have c0:w1.cell? ⟨w.heap.size,0,none⟩=some (.int .i64 x.op):=aU.cell rfl;push_cast -dsimp[c0];exact aU.below
def iy (w:World):Prop:=∃a cp,w.cell? ⟨1,1,none⟩=some (.slice a 2 cp)/\Sl (λ_=>False) 3 (En bX) w (.slice a 2 cp) [⟨1,0,0⟩,⟨5,0,0⟩]
theorem iy.below {w w':World}(h:iy w)(hb:Below w.heap.size w w'):iy w':=by
 obtain⟨a,cp,h1,h2⟩:=h;exact⟨a,cp,(Kept.aQ hb (X:=λ_=>False) (λk hk hl=>by omega)).cell h1 id,h2.below hb⟩
def PZ (X:Nat->Prop)(c:aE)(r:Value)(w':World):Prop :=
 if aW c=true then ∃d v,r=.tuple #[v,.nilIface]/\ft c d/\cz X w' v d else r=.tuple #[.agg #[.slice none 0 0,.slice none 0 0],.iface 74 (.int .i64 1)]
theorem XH (c:aE)(Kh:mQ c)(hi:c.ins.length<1000000)(hs:c.sets.length<1000000)(X:Nat->Prop)(v:Value)(w:World)(hX:∀b,X b->b<w.heap.size)(hN:iy w)(hv:cz X w v c) :
  aw Tryz.prog 73 [v] w λr w'=>PZ X c r w'/\Below w.heap.size w w':=by
 have Kr:=hv;obtain⟨sv,iv,rfl,uU,vA⟩:=hv;obtain⟨a,cp,rfl,TG⟩:=vA.shape;have IA:=uU.shape;obtain⟨sa,sc,rfl,yI⟩:=IA;refine iI Tryz.func73 rfl (by kernel_rfl) [.cell 2 127,.tmp 3] rfl ?_;push_cast -dsimp(maxSteps:=9^7) [Tryz.ntmps73];refine aS ?_;intro w1 aU;have aU:mN w w1 127 [.slice sa c.sets.length sc,.slice a c.ins.length cp]:=aU;have qw:=aU.size;push_cast -dsimp;refine ah (z:=[.slice none 0 0,.slice none 0 0]) (by kernel_rfl) ?_;intro w2 bP;have EE:=bP.size;have dt:Below w.heap.size w w2:=aU.below.trans (bP.below.mono (by omega));have gy:aN w2 w.heap.size 127 [.slice sa c.sets.length sc,.slice a c.ins.length cp]:=aU.aL.below bP.below (by omega);have AP:aN w2 w1.heap.size 127 [.slice none 0 0,.slice none 0 0]:=bP.aL;have d2:=gy.aB;simp only[List.length_cons,List.length_nil,Nat.zero_add,Nat.reduceAdd]at d2;push_cast -dsimp[d2];refine aA (ph c Kh (by omega) (by omega) _ _ w2 (Kr.below dt)) ?_;rintro _ w3 ⟨rfl,gB⟩;have PA:=gB.size;have Nd:=gy.below gB (by omega);have hR3:=AP.below gB (by omega);have dA:Below w.heap.size w w3:=dt.trans (gB.mono (by omega));unfold PZ;cases hR:aW c with
 | false =>
  push_cast -dsimp;refine aI (n:=2) (by kernel_rfl) hR3 rfl (by simp) (by simp[Value.oneCell']) ?_;intro w4 aj;have q4:aB w4 ⟨w1.heap.size,0,none⟩ 0 2=some [.slice none 0 0,.slice none 0 0]:=aj.aL.aB;push_cast -dsimp[q4,Bool.false_eq_true,if_false];exact dA.trans (aj.kept.below (by omega) (λ_ h=>by omega))
 | true =>
  have hCR:=CR.of hR;have d3:=Nd.aB;simp only[List.length_cons,List.length_nil,Nat.zero_add,Nat.reduceAdd]at d3;push_cast -dsimp[d3];refine ah (z:=[.slice none 0 0,.slice none 0 0]) (by kernel_rfl) ?_;intro w4 aj;have Mn:=aj.size;push_cast -dsimp;refine aI (n:=2) (by kernel_rfl) aj.aL rfl (by simp) (by simp[Value.oneCell']) ?_;intro w5 cG;have PC:=cG.size;have k5:Kept (λj=>j=w3.heap.size) w3 w5:=(Kept.new aj).trans cG.kept (λ_ _ h=>h);have Hd:=Nd.kept k5 (by omega);have hR5:=hR3.kept k5 (by omega);have hW5:aN w5 w3.heap.size 127 [.slice sa c.sets.length sc,.slice a c.ins.length cp]:=cG.aL;have jq:Below w.heap.size w w5:=dA.trans (k5.below (by omega) (λ_ h=>by omega));have OD:cz (λj=>X j\/j=w.heap.size\/j=w1.heap.size) w (.agg #[.slice sa c.sets.length sc,.slice a c.ins.length cp]) c:=Kr.narrow (λb hb h=>by rcases h with h|h|h;exact h;omega;omega);push_cast -dsimp;refine aK [11,12,13,14,15,16,17,18,19,20,21,22,23,24,25] (λz wx=>∃(k:Nat) (d:aE) (sa':Option Addr) (sc':Nat) (a':Option Addr) (c':Nat),z 11=.int .i64 k/\k<=3/\ft c d/\aN wx w.heap.size 127 [.slice sa' d.sets.length sc',.slice a' d.ins.length c']/\cz (λj=>X j\/j=w.heap.size\/j=w1.heap.size) wx (.agg #[.slice sa' d.sets.length sc',.slice a' d.ins.length c']) d /\
    aN wx w1.heap.size 127 [.slice none 0 0,.slice none 0 0]/\aN wx w3.heap.size 127 [.slice sa c.sets.length sc,.slice a c.ins.length cp]/\Below w.heap.size w wx/\w5.heap.size<=wx.heap.size) (λz _=>3-(intOf (z 11)).toNat) ?_ ?_
  ·exact⟨0,c,sa,sc,a,cp,rfl,by omega,ft.refl hCR Kh,Hd,OD.below jq,hR5,hW5,jq,Nat.le_refl _⟩
  intro z wx hI;obtain⟨k,d,sa',sc',a',c',Xw,Bs,hL,lr,hvx,vh,hWx,bS,A5⟩:=hI;push_cast -dsimp[Xw];refine⟨λaq=>?_,λeo=>?_⟩
  ·have dx:=lr.aB;simp only[List.length_cons,List.length_nil,Nat.zero_add,Nat.reduceAdd]at dx;push_cast -dsimp[dx];refine aA (PG d hL.cr (λj=>X j\/j=w.heap.size\/j=w1.heap.size) _ wx (λb h=>by rcases h with h|h|h;(have:=hX b h;omega);omega;omega) hvx) ?_;rintro tv wa ⟨hta,xZ⟩;have Vp:=xZ.size;have hT:=hL.aIQ;push_cast -dsimp;refine aA (aDv (pW d) hT.cr (λj=>X j\/j=w.heap.size\/j=w1.heap.size) tv wa (λb h=>by rcases h with h|h|h;(have:=hX b h;omega);omega;omega) hta hT.lens) ?_;rintro _ wb ⟨⟨is,sv2,iv2,rfl,hC,TX,Hs⟩,jf⟩;have PD:=jf.size;have hls:=hT.ZJ hC;obtain⟨yq,oX,QX,EB,Y2⟩:=hls;have eo:∃e,e=bw (pW d) is:=⟨_,rfl⟩;obtain⟨e,he⟩:=eo;rw[<-he]at yq oX QX EB Y2 TX Hs;have aQi:=Hs.slice;obtain⟨a2,c2,rfl⟩:=aQi;have hBb:aN wb w.heap.size 127 [.slice sa' d.sets.length sc',.slice a' d.ins.length c']:=(lr.below xZ (by omega)).below jf (by omega);have QJ:=(vh.below xZ (by omega)).below jf (by omega);have hWb:=(hWx.below xZ (by omega)).below jf (by omega);have cH:Below w.heap.size w wb:=(bS.trans (xZ.mono (by omega))).trans (jf.mono (by omega));have iC:=TX.shape;obtain⟨Ip,Ir,rfl,_⟩:=iC;push_cast -dsimp;refine aI (n:=2) (by kernel_rfl) hBb rfl (by simp) (by simp[Value.oneCell']) ?_;intro wc fV;have szc:=fV.size;have hBc:aN wc w.heap.size 127 [.slice Ip e.sets.length Ir,.slice a2 e.ins.length c2]:=fV.aL;have Dt:=QJ.kept fV.kept (by omega);have hWc:=hWb.kept fV.kept (by omega);have aRn:Below w.heap.size w wc:=cH.trans (fV.kept.below (by omega) (λ_ h=>by omega))
   have hvc:cz (λj=>X j\/j=w.heap.size\/j=w1.heap.size) wc (.agg #[.slice Ip e.sets.length Ir,.slice a2 e.ins.length c2]) e :=
    ox (sets:=e.sets) (base:=wa.heap.size) (λb h=>by rcases h with h|h|h;(have:=hX b h;omega);omega;omega) ((eH.kept TX fV.kept (λb h=>.inl (.inr (.inl h)))).mono (λ_ _ _=>rfl) (λb h=>.inl h)) (Hs.aH fV.kept (λg hg h=>by have:=Hs.block g hg;omega)) rfl
   have aQg:=Hs.aH fV.kept (λg hg h=>by have:=Hs.block g hg;omega);have aQ8:eH (λb=>(X b\/b=w.heap.size\/b=w1.heap.size)\/(Value.slice a2 e.ins.length c2).ownBlock=some b) wc (.slice Ip e.sets.length Ir) e.sets:=eH.kept TX fV.kept (λb h=>.inl (.inr (.inl h)));have qc:=hBc.aB;simp only[List.length_cons,List.length_nil,Nat.zero_add,Nat.reduceAdd]at qc;push_cast -dsimp[qc];refine aA (ph e Y2 (by omega) (by omega) _ _ wc hvc) ?_;rintro _ wd ⟨rfl,qp⟩;have szd:=qp.size;have Bl:=hBc.below qp (by omega);have hRd:=Dt.below qp (by omega);have hWd:=hWc.below qp (by omega);have aMx:Below w.heap.size w wd:=aRn.trans (qp.mono (by omega));cases QK:aW e with
   | true =>
    have hLe:=yq QK;push_cast -dsimp;exact⟨⟨by omega,by omega⟩,⟨k+1,e,Ip,Ir,a2,c2,rfl,by omega,hLe,Bl,hvc.below qp,hRd,hWd,aMx,by omega⟩,by rw[Xw];simp only[intOf];omega⟩
   | false =>
    have hLe:=oX QK;have hlm:=hLe.cr.many;have cd:wd.cell? ⟨w.heap.size,1,none⟩=some (.slice a2 e.ins.length c2):=Bl.cell rfl;push_cast -dsimp[cd];refine cF fL rfl rfl (by omega) ?_;intro we mI;have Mo:=mI.size;have aQh:=(aQg.aH (Kept.aQ qp (X:=λ_=>False) (λk hk hl=>by omega)) (λ_ _ h=>h)).new mI;push_cast -dsimp;refine aP (base:=wa.heap.size) [FK] (enc:=bX) fL aQh (by rfl) (λj u hu=>by simpa[bX] using mI.cell hu) j3 (by simp only[List.length_cons,List.length_nil];omega) (by omega) ?_;intro ve wf hof hgf hnf;have IB:=hof.slice;obtain⟨a3,c3,rfl⟩:=IB;have kf:Kept (λj=>(Value.slice a2 e.ins.length c2).ownBlock=some j) we wf:=Kept.grown hgf (λ_ h=>h);have ha7:∀g,(Value.slice a2 e.ins.length c2).ownBlock=some g->wa.heap.size<=g:=λg hg=>(Hs.block g hg).1;have kdf:Kept (λj=>(Value.slice a2 e.ins.length c2).ownBlock=some j) wd wf:=(Kept.new mI).trans kf (λ_ _ h=>h);have szf:=kdf.size;have hBf:=Bl.kept kdf (λh=>by have:=ha7 _ h;omega);have hRf:=hRd.kept kdf (λh=>by have:=ha7 _ h;omega);have hWf:=hWd.kept kdf (λh=>by have:=ha7 _ h;omega);push_cast -dsimp;refine aC hBf (by simp) rfl ?_;intro wg mJ;have szg:=mJ.size;push_cast -dsimp;have hvg:cz (λj=>X j\/j=w.heap.size\/j=w1.heap.size) wg (.agg #[.slice Ip e.sets.length Ir,.slice a3 (e.ins++[FK]).length c3]) ⟨e.sets,e.ins++[FK]⟩ :=
     ox (sets:=e.sets) (base:=wa.heap.size) (λb h=>by rcases h with h|h|h;(have:=hX b h;omega);omega;omega) (eH.mono (eH.kept (eH.kept (aQ8.below qp) kdf (λb h=>.inr h)) mJ.kept (λb h=>.inl (.inr (.inl h)))) (λ_ _ _=>rfl) (λb h=>.inl h)) (hof.aH mJ.kept (λg hg h=>by have:=(hof.block g hg).1;omega)) rfl
    exact⟨⟨by omega,by omega⟩,⟨k+1,⟨e.sets,e.ins++[FK]⟩,Ip,Ir,a3,c3,rfl,by omega,hLe,mJ.aL,hvg,hRf.kept mJ.kept (by omega),hWf.kept mJ.kept (by omega),aMx.trans ((kdf.below (by omega) (λg h=>by have:=ha7 g h;omega)).trans (mJ.kept.below (by omega) (λ_ h=>by omega))),by omega⟩,by rw[Xw];simp only[intOf];omega⟩
  have EA:k=3:=by omega
  subst EA;have hdm:=hL.cr.many;have hdl:=hL.len;have aRl:=hvx;obtain⟨_,_,he,pG,hix⟩:=hvx;cases he;have c1:wx.cell? ⟨w.heap.size,1,none⟩=some (.slice a' d.ins.length c'):=lr.cell rfl;push_cast -dsimp[c1];refine aA (tg (En bX) 116 [] (λx=>decide (x.op=5)) d.ins (by omega) _ _ wx hix ?_) ?_
  ·rintro y hy cs rfl _ w' Dw;exact Rx y w'
  rintro _ wa ⟨rfl,xZ⟩;have Vp:=xZ.size;have hBa:=lr.below xZ (by omega);have hRa:=vh.below xZ (by omega);have hWa:=hWx.below xZ (by omega);have eB:Below w.heap.size w wa:=bS.trans (xZ.mono (by omega));have Yo:=aRl.below xZ;have t1:wa.cell? ⟨w3.heap.size,1,none⟩=some (.slice a c.ins.length cp):=hWa.cell rfl;have t2:wa.cell? ⟨w.heap.size,1,none⟩=some (.slice a' d.ins.length c'):=hBa.cell rfl;cases aPo:d.ins.any (λx=>decide (x.op=5)) with
  | false =>
   push_cast -dsimp[t1];refine⟨λh2=>?_,λh2=>?_⟩
   ·refine cF nw rfl rfl (by omega) ?_;intro wb cH;have PD:=cH.size;have QJ:=hRa.below cH.below (by omega);have aMw:Below w.heap.size w wb:=eB.trans (cH.below.mono (by omega));have hNb:=hN.below aMw;obtain⟨na,nc,hn1,hn2⟩:=hNb;have ho:=cH.own (base:=wa.heap.size) (k:=1) (n:=1) (enc:=kJ) (l:=[⟨none,0,0⟩]) rfl rfl (λ_=>rfl) (Nat.le_refl _) (by omega);push_cast -dsimp[hn1];refine aA (BZ [⟨1,0,0⟩,⟨5,0,0⟩] (by decide) (λ_=>False) _ wb hn2 (by simp)) ?_;rintro vc wc ⟨yG,ng⟩;have szc:=ng.size;have Dt:=QJ.below ng (by omega);have aRo:Below w.heap.size w wc:=aMw.trans (ng.mono (by omega));have hos:=yG.slice;obtain⟨ca,cc,rfl⟩:=hos;push_cast -dsimp;refine aI (n:=2) (by kernel_rfl) Dt rfl (by simp) (by simp[Value.oneCell']) ?_;intro wd jI;have szd:=jI.size;have qd:aB wd ⟨w1.heap.size,0,none⟩ 0 2=some [.slice (some ⟨wa.heap.size,0,none⟩) 1 1,.slice ca ([⟨1,0,0⟩,⟨5,0,0⟩]:List I3).length cc]:=jI.aL.aB;push_cast -dsimp[qd,if_true];have Ei:=(ho.aH (Kept.aQ ng (X:=λ_=>False) (λk hk hl=>by omega)) (λ_ _ h=>h)).aH jI.kept (λg hg h=>by have:=(ho.block g hg).1;omega);have aQM:=yG.aH jI.kept (λg hg h=>by have:=(yG.block g hg).1;omega);refine⟨⟨u9,_,rfl,hL.never aPo (by omega),?_⟩,aRo.trans (jI.kept.below (by omega) (λ_ h=>by omega))⟩;refine ox (sets:=[[]]) (base:=w.heap.size) hX ?_ (aQM.mono (by omega)) rfl;refine eH.sj (us:=[⟨none,0,0⟩]) rfl (Ei.sl.weaken λb h=>by have:=hX b h;omega) (λi u s hu hs=>?_);cases i with
    | zero =>
     simp only[List.getElem?_cons_zero,Option.some.injEq]at hu hs;subst hu hs;exact Sl.nil _ _ _ _ _ _
    | succ i=>simp at hs
   ·
    have t1:wa.cell? ⟨w3.heap.size,1,none⟩=some (.slice a c.ins.length cp):=hWa.cell rfl
    have t2:wa.cell? ⟨w.heap.size,1,none⟩=some (.slice a' d.ins.length c'):=hBa.cell rfl
    have qa:=hBa.aB
    simp only[List.length_cons,List.length_nil,Nat.zero_add,Nat.reduceAdd]at qa
    push_cast -dsimp[t1,t2,qa]
    refine⟨λ_=>?_,λh=>absurd h (by omega)⟩
    refine aA (ph d hL.lens (by omega) (by have:=hL.cr.sets;omega) _ _ wa Yo) ?_
    rintro _ wb ⟨rfl,jf⟩
    have PD:=jf.size
    rw[hL.cr.to]
    have hBb:=hBa.below jf (by omega)
    have QJ:=hRa.below jf (by omega)
    have qb:=hBb.aB
    simp only[List.length_cons,List.length_nil,Nat.zero_add,Nat.reduceAdd]at qb
    push_cast -dsimp[qb]
    refine aI (n:=2) (by kernel_rfl) QJ rfl (by simp) (by simp[Value.oneCell']) ?_
    intro wc fV
    have qc:aB wc ⟨w1.heap.size,0,none⟩ 0 2=some [.slice sa' d.sets.length sc',.slice a' d.ins.length c']:=fV.aL.aB
    push_cast -dsimp[qc,if_true]
    exact⟨⟨d,_,rfl,hL,((Yo.below jf).kept fV.kept (λb h=>.inr (.inr h))).mono (λ_ _ _=>rfl) (λ_ h=>.inl h)⟩,(eB.trans (jf.mono (by omega))).trans (fV.kept.below (by omega) (λ_ h=>by omega))⟩
  | true =>
   push_cast -dsimp;have t1:wa.cell? ⟨w3.heap.size,1,none⟩=some (.slice a c.ins.length cp):=hWa.cell rfl;have t2:wa.cell? ⟨w.heap.size,1,none⟩=some (.slice a' d.ins.length c'):=hBa.cell rfl;have qa:=hBa.aB;simp only[List.length_cons,List.length_nil,Nat.zero_add,Nat.reduceAdd]at qa;push_cast -dsimp[t1,t2,qa];refine⟨λ_=>?_,λh=>absurd h (by omega)⟩;refine aA (ph d hL.lens (by omega) (by have:=hL.cr.sets;omega) _ _ wa Yo) ?_;rintro _ wb ⟨rfl,jf⟩;have PD:=jf.size;rw[hL.cr.to];have hBb:=hBa.below jf (by omega);have QJ:=hRa.below jf (by omega);have qb:=hBb.aB;simp only[List.length_cons,List.length_nil,Nat.zero_add,Nat.reduceAdd]at qb;push_cast -dsimp[qb];refine aI (n:=2) (by kernel_rfl) QJ rfl (by simp) (by simp[Value.oneCell']) ?_;intro wc fV;have qc:aB wc ⟨w1.heap.size,0,none⟩ 0 2=some [.slice sa' d.sets.length sc',.slice a' d.ins.length c']:=fV.aL.aB;push_cast -dsimp[qc,if_true];exact⟨⟨d,_,rfl,hL,((Yo.below jf).kept fV.kept (λb h=>.inr (.inr h))).mono (λ_ _ _=>rfl) (λ_ h=>.inl h)⟩,(eB.trans (jf.mono (by omega))).trans (fV.kept.below (by omega) (λ_ h=>by omega))⟩
end
end Go.Proofs.YtemjejfpadnljaaGreatDoor
namespace Go.Vc
open Go.RowKit
theorem L7 {H:Type}{enc:TypeId×Value->H}{P:Program}{W:World}{base:Nat}{sp:Nat->Bool}{held:Bool}{α:Type}{t e:TypeId}{k:Nat}{R:List Value->α->Prop}{D:DataW H->α->Prop}(ht:P.underlying t=some (.slice e))(hc:P.cellsOf e=k)(hk:0<k)
  {fuel:Nat} {cs:List Value} {ds rs:List (DataW H)} {q:List MemPlace} (h:DataW.trod enc P W base sp held fuel t cs=some (.slice ds rs,q)) (tf:∀n cs y,cs.length=k->DataW.trod enc P W base sp held n e cs=some y->∃x,R cs x/\D y.1 x) :
  ∃v l,cs=[v]/\Sl (λ_=>False) k R W v l/\l.length=ds.length/\∀(i:Nat) (d:DataW H) (y:α),ds[i]?=some d->l[i]?=some y->D d y:=by
 rcases DataW.trod_slice ht h with ⟨rfl,hx⟩|⟨a,len,cap,elems,rest,n,_,rfl,hx,_,Kf,_,hlen,he,_⟩
 ·simp at hx
 obtain⟨l,hl,hp⟩:=yh (λi (x:α)=>(∃ci:List Value,ci.length=k/\(∀j u,ci[j]?=some u->W.cell? ((a.add (i*k)).add j)=some u)/\R ci x)/\∀y,elems[i]?=some y->D y.1 x) len (λi hi=>by
  have hE:=he i hi;rw[hc]at hE;have hs:elems[i]?=some elems[i]:=List.getElem?_eq_getElem (by omega);rw[hs]at hE;obtain⟨ci,h1,h2⟩:=Option.bind_eq_some_iff.1 hE;obtain⟨h3,h4⟩:=NS h1;obtain⟨x,hx,hd⟩:=tf n ci _ h3 h2;exact⟨x,⟨ci,h3,h4,hx⟩,λy hy=>by rw[hs]at hy;cases hy;exact hd⟩)
 have hds:ds=elems.map (·.1):=by
  have:=(Prod.mk.inj hx).1;injection this
 refine⟨_,l,rfl,⟨some a,cap,by rw[hl],by omega,λi x hx=>?_⟩,by rw[hds,List.length_map];omega,λi d y hd hy=>?_⟩
 ·obtain⟨⟨ci,h1,h2,h3⟩,_⟩:=hp i x hx;have hi0:=(List.getElem?_eq_some_iff.1 hx).1;obtain⟨⟨c0,g1,g2,_⟩,_⟩:=hp 0 l[0] (List.getElem?_eq_getElem (by omega));have h0:=g2 0 c0[0] (List.getElem?_eq_getElem (by omega));obtain⟨b,o,spot⟩:=a;have vC:spot=none:=by
   have:=World.cell?_spot h0;rw[Nat.zero_mul]at this;simpa[Addr.add] using this
  subst vC;exact⟨b,o,ci,rfl,id,h1,λj u hu=>by have:=h2 j u hu;rwa [add_lit,add_lit]at this,h3⟩
 rw[hds,List.getElem?_map]at hd;cases hj:elems[i]? with
 | none=>rw[hj]at hd;cases hd
 | some e =>
  rw[hj]at hd;simp only[Option.map_some,Option.some.injEq]at hd;subst hd;exact(hp i y hy).2 e hj
end Go.Vc
namespace Go.Proofs.YtemjejfpadnljaaGreatDoor
section
open Go.ChangeShapes Go.WideShapes Go.ChangeAt Go.Deep Go.RowKit Go.Vc Cae
section
variable {H:Type} {enc:TypeId×Value->H} {W:World} {base:Nat} {sp:Nat->Bool} {held:Bool}
theorem O9 {n:Nat}{cs:List Value}{y:DataW H×List MemPlace}(h:DataW.trod enc Tryz.prog W base sp held n 164 cs=some y):∃r:I3,cs=bX r/\y.1=.agg [.lit (.int .i64 r.op),.lit (.int .i64 r.a),.lit (.int .i64 r.b)]:=by
 obtain⟨y0,y1,y2,m,hy,hl,h0,h1,h2⟩:=trod_struct3 Tryz.underlying164 h;rw[show Tryz.prog.cellsOf 164=3 by kernel_rfl]at hl
 match cs,hl with
 | [a,b,c],_ =>
  have EO:DataW.trod enc Tryz.prog W base sp held m 3 (List.take (Tryz.prog.cellsOf 3) [a,b,c])=some y0:=h0;have yk:DataW.trod enc Tryz.prog W base sp held m 3 (List.take (Tryz.prog.cellsOf 3) [b,c])=some y1:=h1;have h2':DataW.trod enc Tryz.prog W base sp held m 3 (List.take (Tryz.prog.cellsOf 3) [c])=some y2:=h2;rw[aJZ]at EO yk h2';obtain⟨z0,e0,q0,_⟩:=DataW.trod_int Tryz.underlying3 EO;obtain⟨z1,e1,q1,_⟩:=DataW.trod_int Tryz.underlying3 yk;obtain⟨z2,e2,q2,_⟩:=DataW.trod_int Tryz.underlying3 h2';simp at e0 e1 e2;subst e0 e1 e2 q0 q1 q2;exact⟨⟨z0,z1,z2⟩,rfl,by rw[hy]⟩
end
theorem LU {W:World}{l:List (String×DataW Unit)}(hl:(l.filter λx=>x.1 == "caesura/opt.never")=[("caesura/opt.never",Rows.laid_caesura_opt_never)])(h:laidMetH Tryz.prog l W):iy W:=by
 have h:=h.filter (λx=>x.1 == "caesura/opt.never");rw[hl,MakeChecks.laidMetH_plain _ _ _ (by kernel_rfl)]at h;obtain⟨ps,⟨g,t,cs,fuel,p,q,hg,ht,hv,hd,_,_⟩,_,_⟩:=h;obtain rfl:=Option.some.inj ((show Tryz.prog.globalNamed "caesura/opt.never"=some 1 by kernel_rfl).symm.trans hg)
 obtain rfl:=Option.some.inj ((show (Tryz.prog.globals[1]?).map (·.type)=some 127 by kernel_rfl).symm.trans ht)
 obtain⟨y0,y1,m,hy,hlen,h0,h1⟩:=trod_struct2 Tryz.underlying127 hd;rw[show Tryz.prog.cellsOf 127=2 by kernel_rfl]at hlen
 obtain⟨lc⟩:=cs;match lc,hlen with
 | [a,b],_ =>
  have yk:DataW.trod _ Tryz.prog W _ _ _ m 125 (List.take (Tryz.prog.cellsOf 125) [b])=some y1:=h1;rw[show Tryz.prog.cellsOf 125=1 by kernel_rfl]at yk
  have hy1:=(List.cons.inj (List.cons.inj (DataW.agg.inj (Prod.mk.inj hy).1)).2).1;obtain⟨d1,q1⟩:=y1;have hy1:DataW.slice [.agg [.lit (.int .i64 1),.lit (.int .i64 0),.lit (.int .i64 0)],.agg [.lit (.int .i64 5),.lit (.int .i64 0),.lit (.int .i64 0)]] []=d1:=hy1;subst hy1;obtain⟨v,ins,e1,hi,Af,hD⟩:=L7 (k:=3) (R:=En bX) (D:=λd (r:I3)=>d=.agg [.lit (.int .i64 r.op),.lit (.int .i64 r.a),.lit (.int .i64 r.b)]) Tryz.underlying125 (by kernel_rfl) (by omega) yk λn cs y _ hh=>O9 hh;simp only[List.take_succ_cons,List.take_zero,List.cons.injEq,and_true]at e1;subst e1;have Ee:ins=[⟨1,0,0⟩,⟨5,0,0⟩]:=by
   match ins,Af with
   | [⟨o,x,y⟩,⟨o',x',y'⟩],_ =>
    have k0:=hD 0 _ _ rfl rfl;have k1:=hD 1 _ _ rfl rfl;simp at k0 k1;obtain⟨rfl,rfl,rfl⟩:=k0;obtain⟨rfl,rfl,rfl⟩:=k1;rfl
  subst Ee;obtain⟨av,cv,rfl,_⟩:=hi.shape;exact⟨av,cv,by simpa using World.var?_cell hg hv 1,hi⟩
end
section
open Go.ChangeShapes Go.WideShapes Go.ChangeAt Go.RowKit Go.Vc Cae
def ZE:List (String×DataW Unit):=[("math/bits.deBruijn32tab",Rows.laid_math_bits_deBruijn32tab),("math/bits.deBruijn64tab",Rows.laid_math_bits_deBruijn64tab),("internal/strconv.uint64pow10",Rows.laid_internal_strconv_uint64pow10),("unicode/utf8.acceptRanges",Rows.laid_unicode_utf8_acceptRanges),("caesura/utf.least",Rows.laid_caesura_utf_least),("strconv.ErrRange",Rows.laid_strconv_ErrRange),("strconv.ErrSyntax",Rows.laid_strconv_ErrSyntax),("caesura/opt.never",Rows.laid_caesura_opt_never),("unicode/utf8.first",Rows.laid_unicode_utf8_first)]
noncomputable def aRP (os:Os):World :=
 { World.doorLaid Tryz.prog 78 os with heap:=(World.doorLaid Tryz.prog 78 os).heap.modify 5 λo=>match o with
  | .cells _ t x=>.cells (Go.Pinned.utf8FirstZ.map λ(n:Nat)=>Value.int .u8 (n:Int)).toArray t x
  | o=>o }
end
end Go.Proofs.YtemjejfpadnljaaGreatDoor
namespace Go.Vc
theorem Own.at0 {α:Type}{base k:Nat}{e:TypeId}{enc:α->List Value}{w:World}{b o n c:Nat}{l:List α}(h:Vc.Own base e k enc w (.slice (some ⟨b,o,none⟩) n c) l):o=0:=by
 rcases h.1.2 with ⟨he,_⟩|⟨g,cap,cr,he,_⟩
 ·cases he
 cases he;rfl
end Go.Vc
namespace Go.Proofs.YtemjejfpadnljaaGreatDoor
open Go.Vc Go.Proofs Go.RowKit Cae
attribute [local irreducible] dN ae ak aY runK aw Sl Vc.Own vc aV cJ a7
def tu (c:aE)(ps:List Int):Value :=
 if aW c then .tuple #[.bool (fK c ps).1,.int .i64 (fK c ps).2,.nilIface] else .tuple #[.bool false,.int .i64 0,.iface 74 (.int .i64 1)]
theorem Qi (c:aE)(ps:List Int)(hl:mQ c)(hi:c.ins.length<1000000000)(hs:c.sets.length<1000000000)(uR:ps.length<1000000000)(X Xp:Nat->Prop)(v pv:Value)(w:World)(hv:cz X w v c)(hpv:Sl Xp 1 (En oS) w pv ps) :
  aw Tryz.prog 57 [v,pv] w λr w'=>r=tu c ps/\Below w.heap.size w w':=by
 have Kr:=hv;obtain⟨sv,iv,rfl,uU,vA⟩:=Kr;obtain⟨a1,c1,rfl,EX⟩:=uU.shape;obtain⟨a2,c2,rfl,tJ⟩:=vA.shape;obtain⟨a3,c3,rfl,hc3⟩:=hpv.shape;refine aD Tryz.func57 rfl (by kernel_rfl) [4,5,6] rfl ?_;push_cast -dsimp(maxSteps:=9^7) [Tryz.ntmps57];refine aS ?_;intro w1 aU;have d1:aB w1 ⟨w.heap.size,0,none⟩ 0 2=some [.slice a1 c.sets.length c1,.slice a2 c.ins.length c2]:=aU.aL.aB;push_cast -dsimp[d1];refine aA (ph c hl hi hs X _ w1 (hv.below aU.below)) ?_;rintro _ w2 ⟨rfl,dt⟩;have gy:Below w.heap.size w w2:=aU.below.trans (dt.mono (by have:=aU.size;omega));have aRa:=aU.size;cases hR:aW c with
 | false =>
  push_cast -dsimp;refine⟨?_,gy⟩;unfold tu;rw[hR];rfl
 | true =>
  have hc:=CR.of hR;have hn1:=hc.one;have hn2:=hc.many;have YO:aN w2 w.heap.size 127 [.slice a1 c.sets.length c1,.slice a2 c.ins.length c2]:=aU.aL.below dt aU.aL.lt;have e1:w2.cell? ⟨w.heap.size,1,none⟩=some (.slice a2 c.ins.length c2):=YO.cell rfl;push_cast -dsimp[e1];have pF:List.replicate c.ins.length (Value.bool false)=iB c.ins.length []:=by
   unfold iB;apply List.ext_getElem?;intro j;simp only[List.getElem?_map,List.getElem?_replicate];by_cases hj:j<c.ins.length
   ·simp[hj]
   simp[hj]
  refine aEQ [8,9,22,23,24,25,26,27,28,29] (λz wx=>∃pA pB:Nat,z 8=.pointer (some ⟨pA,0,none⟩)/\z 9=.pointer (some ⟨pB,0,none⟩)/\Dp (λj=>w2.heap.size<=j) wx pA pB c.ins.length [] []/\Kept (λj=>w2.heap.size<=j) w2 wx) ?_ ?_
  ·refine xX (.one 0 (.one 4 (.two 1 (.one 2 (.two 3 (.one 5 (.one 6 (.one 7 (.one 8 (.one 9 .done))))) 5 (.one 6 (.two 3 (.one 7 (.one 8 (.one 9 .done))) 7 (.one 3 (.one 8 (.one 9 .done))))))) 5 (.one 6 (.two 1 (.one 2 (.two 3 (.one 7 (.one 8 (.one 9 .done))) 7 (.one 3 (.one 8 (.one 9 .done))))) 7 (.one 1 (.one 2 (.one 3 (.one 8 (.one 9 .done)))))))))) (λ_=>True) mixed (by kernel_rfl) trivial ?_;push_cast -dsimp;constructor
   ·refine zL (z:=.bool false) pt (by kernel_rfl) rfl (by omega) (by omega) ?_;intro y1 n1;refine⟨trivial,?_⟩;push_cast -dsimp;constructor
    ·refine aS ?_;intro y2 n2;refine⟨trivial,?_⟩;push_cast -dsimp;refine zL (z:=.bool false) pt (by kernel_rfl) rfl (by omega) (by omega) ?_;intro y3 n3;refine⟨trivial,?_⟩;push_cast -dsimp;refine aS ?_;intro y4 n4;refine⟨trivial,?_⟩;push_cast -dsimp;have s1:=n1.size;have s2:=n2.size;have s3:=n3.size;have s4:=n4.size;have s0:w2.drew.heap.size=w2.heap.size:=rfl;have b3:Below y3.heap.size y3 y4:=n4.below;have b2:Below y2.heap.size y2 y4:=n3.below.trans (b3.mono (by omega));have b1:Below y1.heap.size y1 y4:=n2.below.trans (b2.mono (by omega));have b4:Below y4.heap.size y4 y4:=Below.refl _ _;refine⟨y1.heap.size,y3.heap.size,rfl,rfl,⟨λj=>j=w2.drew.heap.size\/j=y1.heap.size,λj=>j=y2.heap.size\/j=y3.heap.size,⟨.slice none 0 0,w2.drew.heap.size,(n2.aL.below b2 n2.aL.lt),Vc.Own.nil (enc:=aX) _ _ (λ_=>rfl) _,by rw[<-pF];exact(n1.aL.below b1 n1.aL.lt),by omega,λg h=>by simp[Value.ownBlock]at h,.inr rfl,.inl rfl,bz.nil _⟩,⟨.slice none 0 0,y2.heap.size,(n4.aL.below b4 n4.aL.lt),Vc.Own.nil (enc:=aX) _ _ (λ_=>rfl) _,by rw[<-pF];exact(n3.aL.below b3 n3.aL.lt),by omega,λg h=>by simp[Value.ownBlock]at h,.inr rfl,.inl rfl,bz.nil _⟩,λj h1 h2=>by omega,λj h=>by omega,λj h=>by omega⟩,Kept.aQ ((Below.refl w2.heap.size w2).drew.trans (n1.below.trans (b1.mono (by omega)))) (λi h _=>h)⟩
    refine zL (z:=.bool false) pt (by kernel_rfl) rfl (by omega) (by omega) ?_;intro y2 n2;refine⟨trivial,?_⟩;push_cast -dsimp;constructor
    ·refine aS ?_;intro y3 n3;refine⟨trivial,?_⟩;push_cast -dsimp;refine aS ?_;intro y4 n4;refine⟨trivial,?_⟩;push_cast -dsimp;have s1:=n1.size;have s2:=n2.size;have s3:=n3.size;have s4:=n4.size;have s0:w2.drew.heap.size=w2.heap.size:=rfl;have b3:Below y3.heap.size y3 y4:=n4.below;have b2:Below y2.heap.size y2 y4:=n3.below.trans (b3.mono (by omega));have b1:Below y1.heap.size y1 y4:=n2.below.trans (b2.mono (by omega));have b4:Below y4.heap.size y4 y4:=Below.refl _ _;refine⟨y2.heap.size,y3.heap.size,rfl,rfl,⟨λj=>j=w2.drew.heap.size\/j=y2.heap.size,λj=>j=y1.heap.size\/j=y3.heap.size,⟨.slice none 0 0,w2.drew.heap.size,(n3.aL.below b3 n3.aL.lt),Vc.Own.nil (enc:=aX) _ _ (λ_=>rfl) _,by rw[<-pF];exact(n1.aL.below b1 n1.aL.lt),by omega,λg h=>by simp[Value.ownBlock]at h,.inr rfl,.inl rfl,bz.nil _⟩,⟨.slice none 0 0,y1.heap.size,(n4.aL.below b4 n4.aL.lt),Vc.Own.nil (enc:=aX) _ _ (λ_=>rfl) _,by rw[<-pF];exact(n2.aL.below b2 n2.aL.lt),by omega,λg h=>by simp[Value.ownBlock]at h,.inr rfl,.inl rfl,bz.nil _⟩,λj h1 h2=>by omega,λj h=>by omega,λj h=>by omega⟩,Kept.aQ ((Below.refl w2.heap.size w2).drew.trans (n1.below.trans (b1.mono (by omega)))) (λi h _=>h)⟩
    refine aS ?_;intro y3 n3;refine⟨trivial,?_⟩;push_cast -dsimp;refine aS ?_;intro y4 n4;refine⟨trivial,?_⟩;push_cast -dsimp;have s1:=n1.size;have s2:=n2.size;have s3:=n3.size;have s4:=n4.size;have s0:w2.drew.heap.size=w2.heap.size:=rfl;have b3:Below y3.heap.size y3 y4:=n4.below;have b2:Below y2.heap.size y2 y4:=n3.below.trans (b3.mono (by omega));have b1:Below y1.heap.size y1 y4:=n2.below.trans (b2.mono (by omega));have b4:Below y4.heap.size y4 y4:=Below.refl _ _;refine⟨y3.heap.size,y2.heap.size,rfl,rfl,⟨λj=>j=w2.drew.heap.size\/j=y3.heap.size,λj=>j=y1.heap.size\/j=y2.heap.size,⟨.slice none 0 0,w2.drew.heap.size,(n4.aL.below b4 n4.aL.lt),Vc.Own.nil (enc:=aX) _ _ (λ_=>rfl) _,by rw[<-pF];exact(n1.aL.below b1 n1.aL.lt),by omega,λg h=>by simp[Value.ownBlock]at h,.inr rfl,.inl rfl,bz.nil _⟩,⟨.slice none 0 0,y1.heap.size,(n3.aL.below b3 n3.aL.lt),Vc.Own.nil (enc:=aX) _ _ (λ_=>rfl) _,by rw[<-pF];exact(n2.aL.below b2 n2.aL.lt),by omega,λg h=>by simp[Value.ownBlock]at h,.inr rfl,.inl rfl,bz.nil _⟩,λj h1 h2=>by omega,λj h=>by omega,λj h=>by omega⟩,Kept.aQ ((Below.refl w2.heap.size w2).drew.trans (n1.below.trans (b1.mono (by omega)))) (λi h _=>h)⟩
   refine zL (z:=.bool false) pt (by kernel_rfl) rfl (by omega) (by omega) ?_;intro y1 n1;refine⟨trivial,?_⟩;push_cast -dsimp;constructor
   ·refine zL (z:=.bool false) pt (by kernel_rfl) rfl (by omega) (by omega) ?_;intro y2 n2;refine⟨trivial,?_⟩;push_cast -dsimp;constructor
    ·refine aS ?_;intro y3 n3;refine⟨trivial,?_⟩;push_cast -dsimp;refine aS ?_;intro y4 n4;refine⟨trivial,?_⟩;push_cast -dsimp;have s1:=n1.size;have s2:=n2.size;have s3:=n3.size;have s4:=n4.size;have s0:w2.drew.heap.size=w2.heap.size:=rfl;have b3:Below y3.heap.size y3 y4:=n4.below;have b2:Below y2.heap.size y2 y4:=n3.below.trans (b3.mono (by omega));have b1:Below y1.heap.size y1 y4:=n2.below.trans (b2.mono (by omega));have b4:Below y4.heap.size y4 y4:=Below.refl _ _;refine⟨y2.heap.size,y3.heap.size,rfl,rfl,⟨λj=>j=y1.heap.size\/j=y2.heap.size,λj=>j=w2.drew.heap.size\/j=y3.heap.size,⟨.slice none 0 0,y1.heap.size,(n3.aL.below b3 n3.aL.lt),Vc.Own.nil (enc:=aX) _ _ (λ_=>rfl) _,by rw[<-pF];exact(n2.aL.below b2 n2.aL.lt),by omega,λg h=>by simp[Value.ownBlock]at h,.inr rfl,.inl rfl,bz.nil _⟩,⟨.slice none 0 0,w2.drew.heap.size,(n4.aL.below b4 n4.aL.lt),Vc.Own.nil (enc:=aX) _ _ (λ_=>rfl) _,by rw[<-pF];exact(n1.aL.below b1 n1.aL.lt),by omega,λg h=>by simp[Value.ownBlock]at h,.inr rfl,.inl rfl,bz.nil _⟩,λj h1 h2=>by omega,λj h=>by omega,λj h=>by omega⟩,Kept.aQ ((Below.refl w2.heap.size w2).drew.trans (n1.below.trans (b1.mono (by omega)))) (λi h _=>h)⟩
    refine aS ?_;intro y3 n3;refine⟨trivial,?_⟩;push_cast -dsimp;refine aS ?_;intro y4 n4;refine⟨trivial,?_⟩;push_cast -dsimp;have s1:=n1.size;have s2:=n2.size;have s3:=n3.size;have s4:=n4.size;have s0:w2.drew.heap.size=w2.heap.size:=rfl;have b3:Below y3.heap.size y3 y4:=n4.below;have b2:Below y2.heap.size y2 y4:=n3.below.trans (b3.mono (by omega));have b1:Below y1.heap.size y1 y4:=n2.below.trans (b2.mono (by omega));have b4:Below y4.heap.size y4 y4:=Below.refl _ _;refine⟨y3.heap.size,y2.heap.size,rfl,rfl,⟨λj=>j=y1.heap.size\/j=y3.heap.size,λj=>j=w2.drew.heap.size\/j=y2.heap.size,⟨.slice none 0 0,y1.heap.size,(n4.aL.below b4 n4.aL.lt),Vc.Own.nil (enc:=aX) _ _ (λ_=>rfl) _,by rw[<-pF];exact(n2.aL.below b2 n2.aL.lt),by omega,λg h=>by simp[Value.ownBlock]at h,.inr rfl,.inl rfl,bz.nil _⟩,⟨.slice none 0 0,w2.drew.heap.size,(n3.aL.below b3 n3.aL.lt),Vc.Own.nil (enc:=aX) _ _ (λ_=>rfl) _,by rw[<-pF];exact(n1.aL.below b1 n1.aL.lt),by omega,λg h=>by simp[Value.ownBlock]at h,.inr rfl,.inl rfl,bz.nil _⟩,λj h1 h2=>by omega,λj h=>by omega,λj h=>by omega⟩,Kept.aQ ((Below.refl w2.heap.size w2).drew.trans (n1.below.trans (b1.mono (by omega)))) (λi h _=>h)⟩
   refine aS ?_;intro y2 n2;refine⟨trivial,?_⟩;push_cast -dsimp;refine zL (z:=.bool false) pt (by kernel_rfl) rfl (by omega) (by omega) ?_;intro y3 n3;refine⟨trivial,?_⟩;push_cast -dsimp;refine aS ?_;intro y4 n4;refine⟨trivial,?_⟩;push_cast -dsimp;have s1:=n1.size;have s2:=n2.size;have s3:=n3.size;have s4:=n4.size;have s0:w2.drew.heap.size=w2.heap.size:=rfl;have b3:Below y3.heap.size y3 y4:=n4.below;have b2:Below y2.heap.size y2 y4:=n3.below.trans (b3.mono (by omega));have b1:Below y1.heap.size y1 y4:=n2.below.trans (b2.mono (by omega));have b4:Below y4.heap.size y4 y4:=Below.refl _ _;refine⟨y3.heap.size,y1.heap.size,rfl,rfl,⟨λj=>j=y2.heap.size\/j=y3.heap.size,λj=>j=w2.drew.heap.size\/j=y1.heap.size,⟨.slice none 0 0,y2.heap.size,(n4.aL.below b4 n4.aL.lt),Vc.Own.nil (enc:=aX) _ _ (λ_=>rfl) _,by rw[<-pF];exact(n3.aL.below b3 n3.aL.lt),by omega,λg h=>by simp[Value.ownBlock]at h,.inr rfl,.inl rfl,bz.nil _⟩,⟨.slice none 0 0,w2.drew.heap.size,(n2.aL.below b2 n2.aL.lt),Vc.Own.nil (enc:=aX) _ _ (λ_=>rfl) _,by rw[<-pF];exact(n1.aL.below b1 n1.aL.lt),by omega,λg h=>by simp[Value.ownBlock]at h,.inr rfl,.inl rfl,bz.nil _⟩,λj h1 h2=>by omega,λj h=>by omega,λj h=>by omega⟩,Kept.aQ ((Below.refl w2.heap.size w2).drew.trans (n1.below.trans (b1.mono (by omega)))) (λi h _=>h)⟩
  intro z w6 hJ;obtain⟨pA0,pB0,h8,h9,hT,k26⟩:=hJ;push_cast -dsimp[h8,h9];refine aA (pX hT (k:=0) (by omega) (by omega)) ?_;rintro _ w7 ⟨AQ,k67⟩;have k27:Kept (λj=>w2.heap.size<=j) w2 w7:=k26.trans k67 (λ_ _ h=>h);have s26:=k26.size;have AQ:Dp (λj=>w2.heap.size<=j) w7 pA0 pB0 c.ins.length [0] []:=AQ.narrow (λj h _=>by omega);clear hT k26 k67 d1 pF;push_cast -dsimp;refine aK [4,5,6,8,9,10,11,12,13,14,32,33,34,35,36,37,38,39,40,41,42,43,44,45,46,47,48,49,50,51,52,53,54,55,56,57,58,59,60,61,62,63,64,65,66,67,68,69,70,71,72,73,74,75,76,77,78,79,80,81,82,83,84,85,86,87,88,89,90,91,92,93,94,95,96,97,98,99,100,101,102,103,104,105,106,107,108,109,110,111,112,113,114,115,116,117,118,119,120,121,122,123,124,125] (λz wx=>∃(i st pA pB:Nat) (q:List Nat),z 11=.int .i64 i/\z 10=.int .i64 st/\z 8=.pointer (some ⟨pA,0,none⟩)/\z 9=.pointer (some ⟨pB,0,none⟩)/\i<=ps.length/\st<=i*2001 /\
   outer c (ps.drop i) q st=fK c ps/\Dp (λj=>w2.heap.size<=j) wx pA pB c.ins.length q []/\Kept (λj=>w2.heap.size<=j) w2 wx) (λz _=>ps.length-(intOf (z 11)).toNat) ?_ ?_
  ·exact⟨0,0,pA0,pB0,[0],rfl,rfl,rfl,rfl,Nat.zero_le _,Nat.le_refl _,rfl,AQ,k27⟩
  intro z wx hI;obtain⟨i,st0,pA,pB,q,Xw,uH,h8,h9,hip,bm,jV,hT,hk⟩:=hI;push_cast -dsimp[Xw,uH,h8,h9];rw[Zl c ps i q st0 hip]at jV;generalize hR0:inner c ps[i]? (c.ins.length+1) q 0 [] st0=R0 at jV;refine aK [4,5,6,10,12,13,14,34,35,36,37,38,39,40,41,42,43,44,45,46,47,48,49,50,51,52,53,54,55,56,57,58,59,60,61,62,63,64,65,66,67,68,69,70,71,72,73,74,75,76,77,78,79,80,81,82,83,84,85,86,87,88,89,90,91,92,93,94,95,96,97,98,99,100,101,102,103,104,105,106,107,108] (λz' wy=>∃(k st:Nat) (q' nx:List Nat),z' 12=.int .i64 k/\z' 10=.int .i64 st/\k<=q'.length/\st<=st0+k/\inner c ps[i]? (c.ins.length+1-k) q' k nx st=R0 /\
   Dp (λj=>w2.heap.size<=j) wy pA pB c.ins.length q' nx/\Kept (λj=>w2.heap.size<=j) w2 wy) (λz' _=>c.ins.length+1-(intOf (z' 12)).toNat) ?_ ?_
  ·exact⟨0,st0,q,[],rfl,rfl,Nat.zero_le _,Nat.le_refl _,hR0,hT,hk⟩
  intro z' wy hI;obtain⟨k,st,q',nx,AK,uH,qz,aWT,oh,hT,hk⟩:=hI;obtain⟨al,cl,cA,hqs⟩:=hT.read;have hP:=hT.places;have hql:=hP.1.len;have aFp:=YO.kept hk (by have:=YO.lt;show ¬w2.heap.size<=w.heap.size;omega)
  have b0:wy.cell? ⟨w.heap.size,0,none⟩=some (.slice a1 c.sets.length c1):=aFp.cell rfl;have b1:wy.cell? ⟨w.heap.size,1,none⟩=some (.slice a2 c.ins.length c2):=aFp.cell rfl;push_cast -dsimp[AK,uH,cA,h8,h9];refine⟨λaq=>?_,λeo=>?_⟩
  ·have Nf:Below w.heap.size w wy:=gy.trans (hk.below gy.size (λ_ h=>by have:=gy.size;omega));have hex:∃(at_:Nat) (x:I3) (bq oq bi oi:Nat),q'[k]?=some at_/\at_<c.ins.length/\c.ins[at_]?=some x/\al=some ⟨bq,oq,none⟩/\a2=some ⟨bi,oi,none⟩/\wy.cell? ⟨bq,oq+k,none⟩=some (.int .i64 at_) /\
     aB wy ⟨bi,oi+at_*3,none⟩ 0 3=some [.int .i64 x.op,.int .i64 x.a,.int .i64 x.b]:=by
    obtain⟨at_,Hi,aPs,_,_⟩:=ag (l:=q') (i:=k) (by omega);have aGX:=hP.1.2 at_ aPs;obtain⟨bq,oq,hal,_,aHc⟩:=hqs.get Hi;obtain⟨x,hx,jJ,_,_⟩:=ag (l:=c.ins) (i:=at_) aGX;obtain⟨bi,oi,hai,_,aHb⟩:=(vA.below Nf).get hx;exact⟨at_,x,bq,oq,bi,oi,Hi,aGX,hx,hal,hai,by simpa using aHc 0 _ rfl,ao (bX x) 0 (λj u hu=>by simpa using aHb j u hu)⟩
   refine Exists.elim hex λat_ hex=>Exists.elim hex λx hex=>Exists.elim hex λbq hex=>Exists.elim hex λoq hex=>Exists.elim hex λbi hex=>Exists.elim hex λoi hex=>?_;have Hi:=hex.1;have aGX:=hex.2.1;have hx:=hex.2.2.1;have hal:=hex.2.2.2.1;have hai:=hex.2.2.2.2.1;have cq:=hex.2.2.2.2.2.1;have ci:=hex.2.2.2.2.2.2;clear hex;push_cast -dsimp[hal,cq,b1,oZ hai,ci];obtain⟨f,hf⟩:∃f,c.ins.length+1-k=f+1:=⟨c.ins.length-k,by omega⟩;have hf':c.ins.length+1-(k+1)=f:=by omega
   rw[hf]at oh;have aFq:=cY (hc.ins at_ x hx);have yv:=hc.next at_ x hx;refine⟨⟨by omega,by omega⟩,⟨by omega,by omega⟩,⟨by omega,by omega⟩,?_⟩;refine ah (z:=[.int .i64 0,.int .i64 0,.int .i64 0]) (by kernel_rfl) ?_;intro wz0 aDc;push_cast -dsimp;refine aI (n:=3) (by kernel_rfl) aDc.aL rfl (by simp) (by simp[Value.oneCell']) ?_;intro wz CJ;have aWV:wz.heap.size=wy.heap.size+1:=by rw[CJ.size,aDc.size]
   have kz:Kept (λj=>j=wy.heap.size) wy wz:=(Kept.new aDc).trans CJ.kept (λ_ _ h=>h);have o0:wz.cell? ⟨wy.heap.size,0,none⟩=some (.int .i64 x.op):=CJ.aL.cell rfl;have lr:aN wz wy.heap.size 164 [.int .i64 x.op,.int .i64 x.a,.int .i64 x.b]:=CJ.aL;have xy:Dp (λj=>w2.heap.size<=j/\j<wy.heap.size) wz pA pB c.ins.length q' nx:=(hT.narrow (λj h hl=>⟨h,hl⟩)).kept kz (λj h _ hh=>by omega);have hkz:Kept (λj=>w2.heap.size<=j) w2 wz:=hk.trans kz (λi hi h=>by subst h;exact hk.size);have sy:=hk.size;clear CJ aDc hT kz;push_cast -dsimp[o0];refine⟨λh5=>?_,λh5=>⟨λh2=>?_,λh2=>⟨λh3=>?_,λh3=>⟨λh4=>?_,λh4=>?_⟩⟩⟩⟩
   ·rw[T9 Hi hx h5]at oh;subst oh;dsimp only at jV;unfold tu;rw[hR,<-jV];exact⟨rfl,gy.trans (hkz.below gy.size (λ_ h=>by have:=gy.size;omega))⟩
   ·rw[qE Hi hx h5]at oh;have hr:0<=x.a/\x.a<c.ins.length/\0<=x.b/\x.b<c.ins.length:=by omega
    have ea:x.a=(x.a.toNat:Int):=by omega
    have eb:x.b=(x.b.toNat:Int):=by omega
    have o1:wz.cell? ⟨wy.heap.size,1,none⟩=some (.int .i64 (x.a.toNat:Int)):=by rw[<-ea];exact lr.cell rfl
    push_cast -dsimp[o1];refine aA (pX xy (k:=x.a.toNat) (by omega) (by omega)) ?_;rintro _ w5 ⟨hT5,Dz⟩;have aOG:=lr.kept Dz (by omega);have o2:w5.cell? ⟨wy.heap.size,2,none⟩=some (.int .i64 (x.b.toNat:Int)):=by rw[<-eb];exact aOG.cell rfl
    push_cast -dsimp[o2];refine aA (pX hT5 (k:=x.b.toNat) (by omega) (by omega)) ?_;rintro _ w6 ⟨Du,yo⟩;have SK:(fR c ps[i]? x at_ q' nx)=(ji (ji q' x.a.toNat) x.b.toNat,nx):=by unfold fR;rw[if_pos h2]
    rw[SK]at oh;have PC:=Dz.size;have Sq:=Du.narrow (D':=λj=>w2.heap.size<=j) (λj h _=>by omega);have JS:Kept (λj=>w2.heap.size<=j) w2 w6:=(hkz.trans Dz (λ_ _ h=>h.1)).trans yo (λi hi h=>by omega);have hlen:q'.length<=(ji (ji q' x.a.toNat) x.b.toNat).length:=Nat.le_trans (vK _ _) (vK _ _);push_cast -dsimp;refine⟨⟨by omega,by omega⟩,⟨k+1,st+1,_,_,by simp,by simp,by omega,by omega,?_,Sq,JS⟩,by rw[AK];simp only[intOf];omega⟩;rw[hf'];exact oh
   ·rw[qE Hi hx h5]at oh;have hr:0<=x.a/\x.a<c.ins.length:=by omega
    have ea:x.a=(x.a.toNat:Int):=by omega
    have o1:wz.cell? ⟨wy.heap.size,1,none⟩=some (.int .i64 (x.a.toNat:Int)):=by rw[<-ea];exact lr.cell rfl
    push_cast -dsimp[o1];refine aA (pX xy (k:=x.a.toNat) (by omega) (by omega)) ?_;rintro _ w6 ⟨hT5,Dz⟩;have SK:(fR c ps[i]? x at_ q' nx)=(ji q' x.a.toNat,nx):=by unfold fR;rw[if_neg h2,if_pos h3]
    rw[SK]at oh;have Sq:=hT5.narrow (D':=λj=>w2.heap.size<=j) (λj h _=>by omega);have JS:Kept (λj=>w2.heap.size<=j) w2 w6:=(hkz.trans Dz (λ_ _ h=>h.1));have hlen:q'.length<=(ji q' x.a.toNat).length:=vK _ _;push_cast -dsimp;refine⟨⟨by omega,by omega⟩,⟨k+1,st+1,_,_,by simp,by simp,by omega,by omega,?_,Sq,JS⟩,by rw[AK];simp only[intOf];omega⟩;rw[hf'];exact oh
   ·rw[qE Hi hx h5]at oh;have j7:=yv (.inr h4);refine⟨λHp=>⟨⟨by omega,by omega⟩,?_⟩,λHp=>?_⟩
    ·refine aA (pX xy (k:=at_+1) (by omega) (by omega)) ?_;rintro _ w6 ⟨hT5,Dz⟩;have SK:(fR c ps[i]? x at_ q' nx)=(ji q' (at_+1),nx):=by unfold fR;rw[if_neg h2,if_neg h3,if_pos h4,List.getElem?_eq_none (by omega)];rfl
     rw[SK]at oh;have Sq:=hT5.narrow (D':=λj=>w2.heap.size<=j) (λj h _=>by omega);have JS:Kept (λj=>w2.heap.size<=j) w2 w6:=(hkz.trans Dz (λ_ _ h=>h.1));have hlen:q'.length<=(ji q' (at_+1)).length:=vK _ _;push_cast -dsimp;refine⟨⟨by omega,by omega⟩,⟨k+1,st+1,_,_,by simp,by simp,by omega,by omega,?_,Sq,JS⟩,by rw[AK];simp only[intOf];omega⟩;rw[hf'];exact oh
    have SK:(fR c ps[i]? x at_ q' nx)=(q',nx):=by unfold fR;rw[if_neg h2,if_neg h3,if_pos h4,List.getElem?_eq_getElem (show i<ps.length by omega)];rfl
    rw[SK]at oh;have Sq:=xy.narrow (D':=λj=>w2.heap.size<=j) (λj h _=>h.1);have JS:=hkz;have hlen:q'.length<=q'.length:=Nat.le_refl _;refine⟨⟨by omega,by omega⟩,⟨k+1,st+1,_,_,by simp,by simp,by omega,by omega,?_,Sq,JS⟩,by rw[AK];simp only[intOf];omega⟩;rw[hf'];exact oh
   rw[qE Hi hx h5]at oh;have hop:x.op=1/\0<=x.a/\x.a<c.sets.length:=by omega
   refine bu (λw'=>Kept (λ_=>False) wz w') mixed (by kernel_rfl) (Kept.refl _ _).drew ?_;have sxn:=yv (.inl hop.1);have ea:x.a=(x.a.toNat:Int):=by omega
   have lB:∀w',Kept (λ_=>False) wz w'->w'.cell? ⟨w.heap.size,0,none⟩=some (.slice a1 c.sets.length c1):=λw' Dy=>Dy.cell ((YO.kept hkz (by have:=YO.lt;show ¬w2.heap.size<=w.heap.size;omega)).cell rfl) id
   have lX:∀w',Kept (λ_=>False) wz w'->w'.cell? ⟨wy.heap.size,1,none⟩=some (.int .i64 (x.a.toNat:Int)):=λw' Dy=>Dy.cell (by rw[<-ea];exact lr.cell rfl) id;have kd:Kept (λ_=>False) wz wz.drew:=(Kept.refl _ _).drew;have d1:=lB _ kd;have d2:=lX _ kd;push_cast -dsimp[d1,d2];refine⟨λaS6=>⟨λbQ hC=>by rw[lB bQ hC];exact rfl,λbQ hC=>by rw[lX bQ hC];exact rfl,?_⟩,λaQO=>?_⟩
   ·have hBz:Below w.heap.size w wz:=gy.trans (hkz.below gy.size (λ_ h=>by have:=gy.size;omega));have hex:∃(s:List Rg) (u:Value) (bs os:Nat) (p:Int) (bp op:Nat),c.sets[x.a.toNat]?=some s/\a1=some ⟨bs,os,none⟩/\wz.drew.cell? ⟨bs,os+x.a.toNat,none⟩=some u/\Sl X 2 (En bF) wz.drew u s/\ps[i]?=some p/\a3=some ⟨bp,op,none⟩/\wz.drew.cell? ⟨bp,op+i,none⟩=some (.int .i64 p):=by
     obtain⟨s,gE,_,_,_⟩:=ag (l:=c.sets) (i:=x.a.toNat) (by omega);obtain⟨p,JT,_,_,_⟩:=ag (l:=ps) (i:=i) (by omega);have ED:Sl X 1 (Mz X wz) wz (.slice a1 c.sets.length c1) c.sets:=uU.below hBz;obtain⟨bs,os,cs,Mg,_,_,il,u,rfl,hu⟩:=ED.AJ gE;obtain⟨bp,op,ha3,_,TG⟩:=(hpv.below hBz).get JT;exact⟨s,u,bs,os,p,bp,op,gE,Mg,by simpa using il 0 u rfl,hu.below (Below.refl _ _).drew,JT,ha3,by simpa using TG 0 _ rfl⟩
    refine Exists.elim hex λs hex=>Exists.elim hex λu hex=>Exists.elim hex λbs hex=>Exists.elim hex λos hex=>Exists.elim hex λp hex=>Exists.elim hex λbp hex=>Exists.elim hex λop hex=>?_;have gE:=hex.1;have Mg:=hex.2.1;have cu:=hex.2.2.1;have hu:=hex.2.2.2.1;have JT:=hex.2.2.2.2.1;have ha3:=hex.2.2.2.2.2.1;have cp:=hex.2.2.2.2.2.2;clear hex;have TW:=List.mem_of_getElem? gE;have lU:∀w',Kept (λ_=>False) wz w'->w'.cell? ⟨bs,os+x.a.toNat,none⟩=some u:=λw' Dy=>Dy.cell (show wz.cell? _=_ from cu) id
    have lP:∀w',Kept (λ_=>False) wz w'->w'.cell? ⟨bp,op+i,none⟩=some (.int .i64 p):=λw' Dy=>Dy.cell (show wz.cell? _=_ from cp) id
    push_cast -dsimp[oZ Mg,oZ ha3,cu,cp];refine⟨⟨by omega,by omega⟩,λbQ hC=>by rw[lU bQ hC];exact rfl,⟨by omega,by omega⟩,λbQ hC=>by rw[lP bQ hC];exact rfl,?_⟩;refine aA (aFn s (hl s TW) (hc.set s TW) p X u wz.drew hu) ?_;rintro _ w6 ⟨rfl,lk⟩;have k6:Kept (λ_=>False) wz w6:=kd.trans (Kept.aQ lk (X:=λ_=>False) (λj h1 h2=>absurd h2 (by have:wz.drew.heap.size=wz.heap.size:=rfl;omega))) (λ_ _=>id);have Du:=xy.kept k6 (λ_ _ _=>id);have yo:=hkz.trans k6 (λ_ _ h=>h.elim);have hgs:c.sets.getD x.a.toNat []=s:=by rw[List.getD_eq_getElem?_getD,gE];rfl
    refine⟨k6,?_⟩;cases hH:fO s p with
    | true =>
     push_cast -dsimp;refine⟨⟨by omega,by omega⟩,?_⟩;refine aA (pX Du.swap (k:=at_+1) (by omega) (by omega)) ?_;rintro _ w7 ⟨AQ,ll⟩;have SK:(fR c ps[i]? x at_ q' nx)=(q',ji nx (at_+1)):=by unfold fR;rw[if_neg h2,if_neg h3,if_neg h4,JT];dsimp only;rw[hgs,hH,if_pos rfl]
     rw[SK]at oh;have MN:=k6.size;have Sq:=AQ.swap.narrow (D':=λj=>w2.heap.size<=j) (λj h _=>by omega);have JS:Kept (λj=>w2.heap.size<=j) w2 w7:=yo.trans ll (λ_ _ h=>h.1);have hlen:q'.length<=q'.length:=Nat.le_refl _;push_cast -dsimp;refine⟨⟨by omega,by omega⟩,⟨k+1,st+1,_,_,by simp,by simp,by omega,by omega,?_,Sq,JS⟩,by rw[AK];simp only[intOf];omega⟩;rw[hf'];exact oh
    | false =>
     push_cast -dsimp;have SK:(fR c ps[i]? x at_ q' nx)=(q',nx):=by unfold fR;rw[if_neg h2,if_neg h3,if_neg h4,JT];dsimp only;rw[hgs,hH];rfl
     rw[SK]at oh;have Sq:=Du.narrow (D':=λj=>w2.heap.size<=j) (λj h _=>h.1);have JS:=yo;have hlen:q'.length<=q'.length:=Nat.le_refl _;refine⟨⟨by omega,by omega⟩,⟨k+1,st+1,_,_,by simp,by simp,by omega,by omega,?_,Sq,JS⟩,by rw[AK];simp only[intOf];omega⟩;rw[hf'];exact oh
   have SK:(fR c ps[i]? x at_ q' nx)=(q',nx):=by unfold fR;rw[if_neg h2,if_neg h3,if_neg h4,List.getElem?_eq_none (by omega)]
   rw[SK]at oh;have Sq:=(xy.kept kd (λ_ _ _=>id)).narrow (D':=λj=>w2.heap.size<=j) (λj h _=>h.1);have JS:=hkz.trans kd (λ_ _ h=>h.elim);have hlen:q'.length<=q'.length:=Nat.le_refl _;refine⟨⟨by omega,by omega⟩,⟨k+1,st+1,_,_,by simp,by simp,by omega,by omega,?_,Sq,JS⟩,by rw[AK];simp only[intOf];omega⟩;rw[hf'];exact oh
  have hn:q'[k]?=none:=List.getElem?_eq_none (by omega);obtain⟨f,hf⟩:∃f,c.ins.length+1-k=f+1:=⟨c.ins.length-k,by omega⟩;rw[hf,T8 hn]at oh;subst oh;dsimp only at jV;have Nf:Below w.heap.size w wy:=gy.trans (hk.below gy.size (λ_ h=>by have:=gy.size;omega));have uN:(ps.length<=i\/nx=[])->Value.tuple #[.bool false,.int .i64 st,.nilIface]=tu c ps:=λh=>by
   rw[if_pos h]at jV;unfold tu;rw[hR,<-jV];rfl
  refine⟨λaTa=>?_,λaS5=>⟨uN (.inl (by omega)),Nf⟩⟩;refine Exists.elim hT.swap.read λan hrd=>Exists.elim hrd λcn hrd=>?_;have cB:=hrd.1;clear hrd;push_cast -dsimp[cB];refine⟨λh0=>⟨uN (.inr (List.eq_nil_of_length_eq_zero (by omega))),Nf⟩,λh0=>?_⟩;have j7:¬(ps.length<=i\/nx=[]):=by
   rintro(h|h)
   ·omega
   subst h;exact h0 rfl
  rw[if_neg j7]at jV;refine aA (PL hT (by omega)) ?_;rintro _ w7 ⟨AQ,ll⟩;push_cast -dsimp;exact⟨⟨by omega,by omega⟩,⟨i+1,st,pB,pA,nx,rfl,rfl,rfl,rfl,by omega,by omega,jV,AQ.swap,hk.trans ll (λ_ _ h=>h)⟩,by rw[Xw];simp only[intOf];omega⟩
theorem Ua (l:List Int)(base:Nat)(v:Value)(w:World)(hn:l.length<1000000000)(ho:Vc.Own base 3 1 oS w v l)(hb0:base<=w.heap.size) :
  aw Tryz.prog 56 [v] w λ_ w'=>Vc.Own base 3 1 oS w' v l.reverse/\Below base w w':=by
 obtain⟨a,c,rfl⟩:=ho.slice;refine aD Tryz.func56 rfl (by kernel_rfl) [] rfl ?_;push_cast -dsimp(maxSteps:=9^7) [Tryz.ntmps56];refine⟨⟨by omega,by omega⟩,?_⟩;refine aK [2,3,7,8,9,10,11,12,13,14,15,16,17,18,19,20,21,22,23,24,25,26,27] (λz wx=>∃(i:Nat) (cur:List Int),z 2=.int .i64 i/\z 3=.int .i64 ((l.length:Int)-1-i)/\2*i<=l.length/\cur.length=l.length/\(∀k,k<l.length->cur[k]?=if k<i\/l.length-i<=k then l[l.length-1-k]? else l[k]?)/\Vc.Own base 3 1 oS wx (.slice a l.length c) cur/\Below base w wx) (λz _=>l.length-(intOf (z 2)).toNat) ?_ ?_
 ·exact⟨0,l,rfl,by simp[at_],by omega,rfl,λk hk=>by rw[if_neg (by omega)],ho,Below.refl _ _⟩
 intro z wx hI;obtain⟨i,cur,h2,h3,hi,jE,Ho,eU,hb⟩:=hI;have A5:=hb.size;push_cast -dsimp[h2,h3];refine⟨λaq=>?_,λeo=>?_⟩
 ·have hex:∃(x y:Int) (g:Nat),cur[i]?=some x/\cur[l.length-1-i]?=some y/\a=some ⟨g,0,none⟩/\wx.cell? ⟨g,i,none⟩=some (.int .i64 x)/\wx.cell? ⟨g,l.length-1-i,none⟩=some (.int .i64 y):=by
   obtain⟨x,hx,_⟩:=ag (l:=cur) (i:=i) (by omega);obtain⟨y,hy,_⟩:=ag (l:=cur) (i:=l.length-1-i) (by omega);have mH:=eU.sl.get hx;have Ec:=eU.sl.get hy;obtain⟨b,o,e,_,hcx⟩:=mH;obtain⟨b',o',e',_,QN⟩:=Ec;rw[e]at e';cases e';have ho0:o=0:=Vc.Own.at0 (by rw[<-e];exact eU);subst ho0;exact⟨x,y,b,hx,hy,e,by simpa using hcx 0 _ rfl,by simpa using QN 0 _ rfl⟩
  obtain⟨x,y,g,hx,hy,he,cx,cy⟩:=hex;subst he;have ej:((l.length:Int)-1-i)=((l.length-1-i:Nat):Int):=by omega
  rw[ej];refine Dg [0,1,2,3,4,5,6,7,8,9,10,11,12] 13 [14,15] (λw'=>w'=wx.drew) mixed (by kernel_rfl) rfl ?_;have cx':wx.drew.cell? ⟨g,i,none⟩=some (.int .i64 x):=cx;have cy':wx.drew.cell? ⟨g,l.length-1-i,none⟩=some (.int .i64 y):=cy;have Ei:Vc.Own base 3 1 oS wx.drew (.slice (some ⟨g,0,none⟩) l.length c) cur:=eU.aH (Kept.refl (λ_=>False) _).drew (λ_ _ h=>h);push_cast -dsimp[cx',cy'];refine⟨⟨by omega,by omega⟩,λbQ hC=>by rw[hC,cy'];exact rfl,⟨by omega,by omega⟩,λbQ hC=>by rw[hC,cx'];exact rfl,⟨by omega,by omega⟩,?_⟩;refine xV (i:=i) (y:=y) Ei rfl (by omega) rfl rfl ?_;intro w1 vy QU qw;refine⟨trivial,?_⟩;push_cast -dsimp;refine⟨⟨by omega,by omega⟩,?_⟩;have yq:l.length-1-i<(cur.set i y).length:=by rw[List.length_set];omega
  have n5:(cur.set i y).length=cur.length:=List.length_set;refine xV (i:=l.length-1-i) (y:=x) vy rfl yq rfl rfl ?_;intro w2 ln nh EE;have yp:Kept (λj=>j=g) wx w2:=(((Kept.refl (λj=>j=g) wx).drew).trans QU (λ_ _ h=>h)).trans nh (λ_ _ h=>h);have Ad:base<=g:=(eU.block g rfl).1;refine⟨trivial,?_⟩;push_cast -dsimp;refine⟨⟨by omega,by omega⟩,⟨by omega,by omega⟩,⟨i+1,(cur.set i y).set (l.length-1-i) x,rfl,by congr 1;omega,by omega,by rw[List.length_set,List.length_set];exact jE,λk hk=>?_,ln,hb.trans (yp.below (by omega) (λj h=>by rw[show j=g from h];exact Ad))⟩,by rw[h2];simp only[intOf];omega⟩
  rw[List.getElem?_set,List.getElem?_set];have EY:=Ho i (by omega);have rT:=Ho (l.length-1-i) (by omega);rw[if_neg (by omega)]at EY rT;rw[hx]at EY;rw[hy]at rT;by_cases e1:l.length-1-i=k
  ·rw[if_pos e1,if_pos yq,if_pos (by omega),EY];congr 1;omega
  rw[if_neg e1];by_cases e2:i=k
  ·rw[if_pos e2,if_pos (by omega),if_pos (by omega),rT];congr 1;omega
  rw[if_neg e2,Ho k hk];by_cases e3:k<i\/l.length-i<=k
  ·rw[if_pos e3,if_pos (by omega)]
  rw[if_neg e3,if_neg (by omega)]
 have aHN:cur=l.reverse:=by
  apply List.ext_getElem?;intro k;by_cases hk:k<l.length
  ·rw[Ho k hk,List.getElem?_reverse hk];split
   ·rfl
   congr 1;omega
  rw[List.getElem?_eq_none (by omega),List.getElem?_eq_none (by rw[List.length_reverse];omega)]
 subst aHN;exact⟨eU,hb⟩
end Go.Proofs.YtemjejfpadnljaaGreatDoor
