/- Texts of this claim, merged: Rr8, Rr9, Rrb, Rrc, IsB, Rfo, Vrg, Mxm. -/
import Derived.Test.YtodeeahdhnjpkaaGreatDoorM12
import Derived.Maps.RangeRun
set_option maxRecDepth 100000
set_option linter.unusedSimpArgs false
set_option linter.unusedVariables false
set_option maxHeartbeats 8000000
section
namespace Cae
def mZ (row:Pa aI)(m:Nat)(acc:List aI):Pa aI:=pb (eH row m acc) λps=>pr (jW ps)
theorem MB (row:Pa aI):IQ row=pb row λx=>mZ row 1000 [x]:=rfl
theorem sX {row:Pa aI}{m:Nat}{acc:List aI}{l:List Cae.Tok}(h:bI [124] l=false):mZ row (m+1) acc l=.ok (jW acc,l):=by
 unfold mZ;rw[eH];unfold pb bE;rw[h];rfl
theorem sW {row:Pa aI}{m:Nat}{acc:List aI}{l r:List Cae.Tok}(h:bI [124] l=true)(hp:bV l=.ok ((),r)):mZ row (m+1) acc l=pb row (λx=>mZ row m (acc++[x])) r:=by
 have e:eH row (m+1) acc l=pb row (λx=>eH row m (acc++[x])) r:=by
  rw[eH]
  show (if bI [124] l=true then pb bV (λ_=>pb row _) l else _)=_
  rw[if_pos h,aG hp]
 unfold mZ;unfold pb at e ⊢
 rw[e];cases row r with
 | ok x=>rfl
 | error e=>rfl
end Cae
namespace Go.Proofs.YtodeeahdhnjpkaaGreatDoor
open Go.Vc Go.Proofs Go.RowKit Cae
attribute [local irreducible] cw ag aq a8 runK bD Sl Vc.Own vc aW cN ai
@[reducible] def szR {rb B:Nat} {w:World} {l:List Cae.Tok} {bad:Option (Nat×Nat)} (_:RS rb B w l bad):Nat:=w.heap.size
theorem Lv.swap {S xb:Nat}{code:Int}{w:World}{sv:Value}{us:List (Option Addr)}{acc l9:Option (List aI)}(h:Lv S xb code w sv us acc)(h':LV S xb code w us l9):Lv S xb code w sv us l9:=by
 obtain⟨sv',h'⟩:=h';have c1:w.cell? ⟨xb,2,none⟩=some sv:=h.aN.cell rfl;have c2:w.cell? ⟨xb,2,none⟩=some sv':=h'.aN.cell rfl;have e:sv'=sv:=Option.some.inj (c2.symm.trans c1);subst e;exact h'
def pz (v:Value):Nat:=match v with
 | .bool true=>1
 | _=>0
def aAu (d:Nat)(S xb rb B:Nat)(w':World)(more:Bool)(us:List (Option Addr))(out:Except (Nat×Nat) (aI×List Cae.Tok)):Prop :=
 (∃(m:Nat) (acc:List aI) (l1:List Cae.Tok),LV S xb 5 w' us (some acc)/\RS rb B w' l1 none/\(more=true->l1.length<m)/\acc.length+m<=1001 /\
  (if more=true then out=Cae.pb (gV (aQ d (aY d))) (λx=>mZ (gV (aQ d (aY d))) m (acc++[x])) l1 else out=.ok (jW acc,l1))) \/
 (∃(e:Nat×Nat) (l1:List Cae.Tok),LV S xb 5 w' us none/\out=.error e/\RS rb B w' l1 (some e)/\us.length<=1001+if more=true then 0 else 1)
def aEJ (d:Nat)(S xb rb B:Nat)(w':World)(us:List (Option Addr))(R:Except (Nat×Nat) (List aI×List Cae.Tok)):Prop :=
 (∃(m:Nat) (acc:List aI) (l1:List Cae.Tok),LV S xb 4 w' us (some acc)/\RS rb B w' l1 none/\l1.length<m/\acc.length+m<=1000/\bG (aQ d (aY d)) m acc l1=R) \/
 (∃(e:Nat×Nat) (l1:List Cae.Tok),LV S xb 4 w' us none/\R=.error e/\RS rb B w' l1 (some e)/\us.length<=1001)
def aIQ (d:Nat)(S xb rb B:Nat)(w':World)(us:List (Option Addr))(R:Except (Nat×Nat) (List aI×List Cae.Tok)):Prop :=
 (∃(acc:List aI) (l1:List Cae.Tok),LV S xb 4 w' us (some acc)/\RS rb B w' l1 none/\R=.ok (acc,l1)) \/
 (∃(e:Nat×Nat) (l1:List Cae.Tok),LV S xb 4 w' us none/\R=.error e/\RS rb B w' l1 (some e)/\us.length<=1001)
theorem OT (d:Nat)(hd:d≠0)(aGH:ZU d):QD d:=by
 intro n oK hn rb B w l0 bad h0;have hle:=h0.le;have bZ:=h0.lt;have p6:∃out,dp bad (j8 d) l0=out:=⟨_,rfl⟩;obtain⟨out,fN⟩:=p6;unfold Rc pC;rw[fN];have hgS:∃S,S=w.heap.size:=⟨_,rfl⟩;obtain⟨S,hS⟩:=hgS;rw[<-hS];refine aE Tryz.func28 rfl (by kernel_rfl) [4] rfl ?_;push_cast -dsimp(maxSteps:=4000000) [Tryz.ntmps28];refine⟨λh8=>?_,λh8=>?_⟩
 ·exact absurd (by omega) hd
 have P1:=h0;have k1:Kept (·=rb) w w:=Kept.refl _ _;have gh:∃b1,b1=bad:=⟨_,rfl⟩;obtain⟨b1,de⟩:=gh;rw[<-de]at P1;have cO:(b1=none->out=IQ (gV (aQ d (aY d))) l0)/\∀e,b1=some e->out=.error e:=⟨λh=>by
  rw[<-fN,<-de,h]
  show j8 d l0=_
  unfold j8 AX;rw[if_neg (by omega)],λe h=>by rw[<-fN,<-de,h];rfl⟩
 push_cast -dsimp;have hgx:∃xb,xb=szR P1:=⟨_,rfl⟩;obtain⟨xb,tD⟩:=hgx;refine ah ?_;intro w2 bT;have P2:=P1.below bT.below;have k2:=k1.trans (Kept.new (X:=(·=rb)) bT) (λi _ h=>h);have z2:=bT.size;have zk1:=k1.size;have B2:aO w2 xb 129 [.int .i64 5,.pointer none,.slice none 0 0,.int .i64 0,.int .i64 0]:=by rw[tD];exact bT.aN
 have hSx:w.heap.size<=xb:=by rw[tD];exact zk1
 unfold szR at tD;rw[<-tD];have LA:LV S xb 5 w2 [] (some []):=⟨_,B2,Vc.Own.nil (enc:=oC) _ _ (λ_=>rfl) _,λg hg=>(by cases hg),λl hl=>(by cases hl;exact⟨[],rfl,by simp only[aU]⟩),by omega⟩;have hI0:aAu d S xb rb B w2 true [] out:=by
  unfold aAu;cases hb:b1 with
  | none =>
   rw[hb]at P2;refine .inl ⟨1000,[],l0,LA,P2,λ_=>by have:=P2.tl.len;omega,by simp,?_⟩;rw[if_pos rfl,cO.1 hb,MB];rfl
  | some e =>
   rw[hb]at P2;exact .inr ⟨e,l0,LA.cut (λl h=>by cases h),cO.2 e hb,P2,by simp⟩
 push_cast -dsimp;refine aM [6,7,14,15,16,17,18,19,20,21,22,23,24,25,26,27,28,29,30,31,32,33,34,35,36,37,38,39,40,41,42,43,44,45,46,47,48,49,50,51,52,53,54,55,56,57,58,59,60,61,62,63,64,65,66,67,68,69,70,71,72,73,74,75,76,77,78,79,80] (λz w'=>∃(more:Bool) (us:List (Option Addr)),z 6=.bool more/\Kept (·=rb) w w'/\aAu d S xb rb B w' more us out) (λz w'=>2*Tx rb w'+pz (z 6)) ?_ ?_
 ·exact⟨true,[],rfl,k2,hI0⟩
 rintro z w3 ⟨more,us,ig,k3,hI⟩;cases more with
 | false =>
  have hLL:∃acc,LV S xb 5 w3 us acc:=by
   rcases hI with ⟨_,acc,_,h,_⟩|⟨_,_,h,_⟩
   ·exact⟨_,h⟩
   exact⟨_,h⟩
  obtain⟨aIT,svX,zG⟩:=hLL;have eM:=zG.own.slice;obtain⟨xa,xc,rfl⟩:=eM;have dX:w3.cell? ⟨xb,2,none⟩=some (.slice xa us.length xc):=zG.aN.cell rfl;push_cast -dsimp[ig,dX];refine⟨λh1=>?_,λh1=>?_⟩
  ·have GP:∃u,us=[u]:=List.length_eq_one_iff.1 (by omega);obtain⟨u,rfl⟩:=GP;have hg:=zG.own.sl.get (i:=0) (x:=u) rfl;obtain⟨b,o,rfl,_,aP⟩:=hg;have k0:w3.cell? ⟨b,o,none⟩=some (.pointer u):=by simpa[oC] using aP 0 _ rfl
   simp only[List.length_cons,List.length_nil,Nat.zero_add]at dX;push_cast -dsimp[dX,k0,Nat.zero_mul,Nat.add_zero];refine⟨k3,?_⟩;rcases hI with ⟨m,acc,l1,hL,P3,_,_,ho⟩|⟨e,l1,hL,ho,P3,_⟩
   ·have h1:=LV.one hL;obtain⟨x,ub,rfl,rfl,hV⟩:=h1;rw[if_neg (by decide)]at ho;rw[ho];exact⟨hV,P3⟩
   rw[ho];exact⟨⟨_,rfl⟩,_,P3⟩
  refine⟨k3,?_⟩;rcases hI with ⟨m,acc,l1,hL,P3,_,_,ho⟩|⟨e,l1,hL,ho,P3,_⟩
  ·have hlen:=LV.len hL;rw[if_neg (by decide)]at ho;have hro:jW acc=.alt acc:=by
    unfold jW;split
    ·rename_i x;simp at hlen;omega
    rfl
   rw[ho,hro];exact⟨LV.alt hL,P3⟩
  rw[ho];exact⟨⟨_,rfl⟩,_,P3⟩
 | true =>
  have zx3:=k3.size;have aQt:=P2.lt;have aQr:=P2.le;push_cast -dsimp[ig];refine ah ?_;intro w4 aj;have z4:=aj.size;have hgy:∃yb,yb=w3.heap.size:=⟨_,rfl⟩;obtain⟨yb,hyb⟩:=hgy;have hgS:∃S1,S1=w3.heap.size:=⟨_,rfl⟩;obtain⟨S1,hS1⟩:=hgS;have B4:aO w4 yb 129 [.int .i64 4,.pointer none,.slice none 0 0,.int .i64 0,.int .i64 0]:=by rw[hyb];exact aj.aN
  rw[<-hyb];have k4:Kept (·=rb) w3 w4:=Kept.new aj;have L4:LV S1 yb 4 w4 [] (some []):=⟨_,B4,Vc.Own.nil (enc:=oC) _ _ (λ_=>rfl) _,λg hg=>(by cases hg),λl hl=>(by cases hl;exact⟨[],rfl,by simp only[aU]⟩),by omega⟩;have hR:∃R,aEJ d S1 yb rb B w4 [] R/\B<=w3.heap.size/\rb<B/\(∀di l2,R=.ok (di,l2)->∃m acc,LV S xb 5 w3 us (some acc)/\l2.length<m/\acc.length+m<=1001/\out=mZ (gV (aQ d (aY d))) m (acc++[rowOf di]) l2/\l2.length+1<=Tx rb w3) /\
    (∀e,R=.error e->LV S xb 5 w3 us none/\out=.error e/\us.length<=1001):=by
   rcases hI with ⟨m,acc,l1,hL,P3,hm,r8,ho⟩|⟨e,l1,hL,ho,P3,WB⟩
   ·have hm:=hm rfl;rw[if_pos rfl]at ho;refine⟨bG (aQ d (aY d)) 1000 [] l1,.inl ⟨1000,[],l1,L4,P3.below aj.below,by have:=P3.tl.len;omega,by simp,rfl⟩,P3.le,P3.lt,λdi l2 h=>?_,λe h=>?_⟩
    ·have hrw:gV (aQ d (aY d)) l1=.ok (rowOf di,l2):=by unfold gV;rw[aG h];rfl
     have:=Up hrw;exact⟨m,acc,hL,by omega,r8,by rw[ho,aG hrw],by rw[P3.mu];omega⟩
    have:=LV.len hL;refine⟨hL.cut (λl h=>by cases h),?_,by omega⟩;rw[ho];unfold gV Cae.pb;rw[h]
   exact⟨.error e,.inr ⟨e,l1,L4.cut (λl h=>by cases h),rfl,P3.below aj.below,by simp⟩,P3.le,P3.lt,λ_ _ h=>(by cases h),λe' h=>(by cases h;exact⟨hL,ho,by simpa using WB⟩)⟩
  obtain⟨R,hRI,hBz,hrB,hRo,aFH⟩:=hR;push_cast -dsimp;refine kR [19,20,21,22,23,24,25,26,27,28,29,30,31,32,33,34,35,36,37,38,39,40,41,42,43,44,45,46,47,48,49,50,51,52,53,54,55,56,57,58] (λz wx=>∃Ln,aIQ d S1 yb rb B wx Ln R/\Kept (·=rb) w3 wx) ?_ ?_
  ·refine jP [19,20,21,22,23,24,25,26,27,28,29,30,31,32,33,34,35,36,37,38,39,40,41,42,43,44,45,46,47,48,49,50,51,52,53,54,55,56,57,58] (λz wx=>∃Ln,aEJ d S1 yb rb B wx Ln R/\Kept (·=rb) w3 wx) (λz wx=>Tx rb wx) ?_ ?_
   ·exact⟨[],hRI,k4⟩
   rintro z2 w5 ⟨Ln,hI2,k5⟩;have z5:=k5.size;rcases hI2 with ⟨m2,di,l2,hL2,P5,dB,aNw,Kr⟩|⟨e,l2,hL2,Kr,P5,aCd⟩
   ·have aGs:=P5.mu;have uo:=P5.cons;obtain⟨t2,r2,el2⟩:=uo;have n5:gB l2=(t2.kind == 3 || fI l2 || bI [46] l2 || bI [36] l2 || bI [40] l2):=by unfold gB isKind;rw[el2];rfl
    have aQV:=LV.len hL2;refine fK (mO [19,20,21,22,23,24,25,26,27,28,29,30,31,32,33,34,35,36,37,38,39,40,41,42,43,44,45,46] (λz wx=>z 46=.bool (gB l2)/\RS rb B wx l2 none/\Below w5.heap.size w5 wx) ?_ ?_)
    ·push_cast -dsimp;refine aA (iW P5) ?_;rintro _ w6 ⟨rfl,jc⟩;have P6:=P5.below jc;have P6':=P6;rw[el2]at P6';have aKz:=P6'.hd;obtain⟨b6,o6,c6,Cs,hc6,JP,c60,_⟩:=aKz;have cb6:w6.cell? ⟨rb,0,none⟩=some (.slice (some ⟨b6,o6,none⟩) (r2.length+1) c6):=Cs.cell rfl;push_cast -dsimp[cb6,c60];refine⟨by omega,λh3=>?_,λh3=>?_⟩
     ·have qq:(t2.kind == 3)=false:=by
       have:t2.kind≠3:=λe=>h3 (by omega);simpa using this
      rw[qq,Bool.false_or]at n5;refine aA (u0 P6) ?_;rintro _ w7 ⟨rfl,Mz⟩;have P7:=P6.below Mz;have k7:=jc.trans (Mz.mono jc.size);cases jR:fI l2 with
      | true =>
       have pH:gB l2=true:=by rw[n5,jR];rfl
       push_cast -dsimp;exact⟨by rw[pH],P7,k7⟩
      | false =>
       rw[jR,Bool.false_or]at n5;push_cast -dsimp;refine aA (oU P7 [46]) ?_;rintro _ w8 ⟨rfl,kW⟩;rw[fT,Bool.true_and];have P8:=P7.below kW;have k8:=k7.trans (kW.mono k7.size);cases eY:bI [46] l2 with
       | true =>
        have pH:gB l2=true:=by rw[n5,eY];rfl
        push_cast -dsimp;exact⟨by rw[pH],P8,k8⟩
       | false =>
        rw[eY,Bool.false_or]at n5;push_cast -dsimp;refine aA (oU P8 [36]) ?_;rintro _ wa ⟨rfl,ED⟩;rw[fT,Bool.true_and];have Pa:=P8.below ED;have ka:=k8.trans (ED.mono k8.size);cases iP:bI [36] l2 with
        | true =>
         have pH:gB l2=true:=by rw[n5,iP];rfl
         push_cast -dsimp;exact⟨by rw[pH],Pa,ka⟩
        | false =>
         rw[iP,Bool.false_or]at n5;push_cast -dsimp;refine aA (oU Pa [40]) ?_;rintro _ wb ⟨rfl,me⟩;rw[fT,Bool.true_and,<-n5];push_cast -dsimp;exact⟨Pa.below me,ka.trans (me.mono ka.size)⟩
     have pH:gB l2=true:=by
      have:t2.kind=3:=by omega
      rw[n5,this];rfl
     exact⟨by rw[pH],P6,jc⟩
    rintro z3 w6 ⟨h46,P6,jc⟩;have L6:=hL2.below jc;have k6:=k5.trans (Kept.rb P5.le P5.lt jc) (λi _ h=>h);refine cC ?_;cases pH:gB l2 with
    | true =>
     rw[pH]at h46;push_cast -dsimp[h46];refine cC ?_;push_cast -dsimp;have gi:∃m2',m2=m2'+1:=⟨m2-1,by omega⟩;obtain⟨m2',nY⟩:=gi;have bN:R=Cae.pb (aQ d (aY d)) (λx=>bG (aQ d (aY d)) m2' (di++[x])) l2:=by
      rw[<-Kr,nY,bG];unfold bE;rw[pH,if_pos rfl]
     have hLR:=L6;obtain⟨sv,hL⟩:=hLR;have hLd:=hL.kept (Kept.refl (λ_=>False) w6).drew (λ_ h=>h.elim);have Pd:=RS.below P6 (aS w6);have kd4:=Kept.trans k6 (Kept.rb (P6).le (P6).lt (aS w6)) (λi _ h=>h);have zd:(w6).drew.heap.size=(w6).heap.size:=rfl;have d2:(w6).drew.cell? ⟨yb,2,none⟩=some sv:=hLd.aN.cell rfl;refine kT (λw'=>aO w' yb 129 [.int .i64 4,.pointer none,sv,.int .i64 0,.int .i64 0]) mixed (by kernel_rfl) (by simp) hLd.aN ?_;push_cast -dsimp[d2];refine⟨λar h=>by rw[aO.cell h (o:=2) rfl];exact rfl,?_⟩;refine aA (aGH n oK hn rb B (w6).drew l2 none Pd) ?_;rintro v9 w9 ⟨k9,sr⟩;rw[show dp none (aQ d (aY d)) l2=aQ d (aY d) l2 from rfl]at sr
     have z9:=k9.size;have Zu:=Pd.lt;have L9:=hLd.kept k9 (λi h=>.inl (by omega));have hv9:∃u,v9=.pointer u:=by
      cases hp:aQ d (aY d) l2 with
      | ok q =>
       rw[hp]at sr;obtain⟨ub,e,_⟩:=sr.1.ptr;exact⟨_,e⟩
      | error e =>
       rw[hp]at sr;exact sr.1
     obtain⟨u,rfl⟩:=hv9;have B9:=L9.aN;have k9':=kd4.trans k9 (λi _ h=>h);refine⟨B9,?_⟩;push_cast -dsimp;refine cY dj rfl rfl (by omega) ?_;intro tq eQ;have B10:=B9.below eQ.below B9.lt;have z10:=eQ.size;refine⟨B10,?_⟩;push_cast -dsimp;refine ae (base:=S1) [u] (enc:=oC) dj (L9.own.new eQ) (by rfl) (λj y hy=>by simpa[oC] using eQ.cell hy) sj (by simp only[List.length_cons,List.length_nil];omega) (by have:=hL.lo;have:=B9.lt;omega) ?_;intro IB A8 xW JH JN;have kg:Kept (λj=>sv.ownBlock=some j) tq A8:=Kept.grown JH (λ_ h=>h);have B11:=B10.kept kg (λh=>L9.ne _ h rfl);have z11:=kg.size;refine⟨B11,?_⟩;have eM:=xW.slice;obtain⟨a5,c5,rfl⟩:=eM;push_cast -dsimp;refine aC B11 (by simp) rfl ?_;intro qO gj;have oL:∀g,sv.ownBlock=some g->S1<=g/\g<(w6).heap.size:=λg hg=>hL.own.block g hg;have aBV:=hL.lo;have hyl:=hL.aN.lt;have Vs:∀l9,(∀l',l9=some l'->∃l x ub,some di=some l/\l'=l++[x]/\u=rY ub/\aV (·<(w6).heap.size) w9 (bF ub) x)->LV S1 yb 4 qO (Ln++[u]) l9:=λl9 hu=>LV.push L9 ⟨by omega,hyl,λg hg=>(oL g hg).2⟩ (by omega) eQ xW kg JN gj hu;have GZ:Kept (·=rb) w3 qO:=((k9'.trans (Kept.new (X:=(·=rb)) eQ) (λi _ h=>h)).trans kg (λi h1 h2=>by have:=oL _ h2;omega)).trans gj.kept (λi h1 h2=>by omega);have kP:Kept (λi=>B<=i) w9 qO:=((Kept.new (X:=λi=>B<=i) eQ).trans kg (λi h1 h2=>by have:=(oL _ h2).1;omega)).trans gj.kept (λi h1 h2=>by omega);cases hp:aQ d (aY d) l2 with
     | ok q =>
      obtain⟨x,l3⟩:=q;rw[hp]at sr;obtain⟨V9,P9⟩:=sr;have rW:=P9.fx kP (λi h=>h);have Ss:=rW.mu;have hl3:l3.length<l2.length:=jg hp;have hp9:=V9.ptr;obtain⟨ub,eub,_⟩:=hp9;cases eub;push_cast -dsimp;refine⟨⟨Ln++[rY ub],.inl ⟨m2',di++[x],l3,Vs _ (λl' h=>by cases h;exact⟨di,x,ub,rfl,rfl,rfl,V9⟩),rW,by omega,by rw[List.length_append,List.length_singleton];omega,by rw[bN,aG hp]⟩,GZ⟩,by rw[aGs,Ss];omega⟩
     | error e =>
      rw[hp]at sr;obtain⟨_,l3,P9⟩:=sr;have rW:=P9.fx kP (λi h=>h);have Ss:=rW.vD;have hll:=LV.len ⟨sv,hL⟩;push_cast -dsimp;refine⟨⟨Ln++[u],.inr ⟨e,l3,Vs none (λl' h=>by cases h),?_,rW,by rw[List.length_append,List.length_singleton];omega⟩,GZ⟩,by rw[aGs,Ss];omega⟩;rw[bN];unfold Cae.pb;rw[hp]
    | false =>
     rw[pH]at h46;have hRf:R=.ok (di,l2):=by
      rw[<-Kr];obtain⟨m2',rfl⟩:∃m2',m2=m2'+1:=⟨m2-1,by omega⟩;rw[bG];unfold bE;rw[pH];rfl
     push_cast -dsimp[h46];exact⟨Ln,.inl ⟨di,l2,L6,P6,hRf⟩,k6⟩
   refine cC ?_;push_cast -dsimp;refine aA (iW P5) ?_;rintro _ w6 ⟨rfl,jc⟩;push_cast -dsimp;exact⟨Ln,.inr ⟨e,l2,hL2.below jc,Kr,P5.below jc,aCd⟩,k5.trans (Kept.rb P5.le P5.lt jc) (λi _ h=>h)⟩
  rintro z2 w5 ⟨Ln,hJ,k5⟩;have z5:=k5.size;have hLL:∃acc,LV S1 yb 4 w5 Ln acc:=by
   rcases hJ with ⟨acc,_,h,_⟩|⟨_,_,h,_⟩
   ·exact⟨_,h⟩
   exact⟨_,h⟩
  obtain⟨aOn,svY,hLY⟩:=hLL;have eM:=hLY.own.slice;obtain⟨ya,yc,rfl⟩:=eM;have dY:w5.cell? ⟨yb,2,none⟩=some (.slice ya Ln.length yc):=hLY.aN.cell rfl;have XM:(∃acc,LV S xb 5 w3 us acc)/\us.length<=1001:=by
   rcases hI with ⟨m,acc,_,h,_,_,h2,_⟩|⟨_,_,h,_,_,h2⟩
   ·exact⟨⟨_,h⟩,by have:=LV.len h;omega⟩
   exact⟨⟨_,h⟩,by simpa using h2⟩
  obtain⟨⟨aIT,svX,aBk⟩,aQW⟩:=XM;have zG:=aBk.kept k5 (λi h=>.inl (by omega));have eM:=zG.own.slice;obtain⟨xa,xc,rfl⟩:=eM;have dX:w5.cell? ⟨xb,2,none⟩=some (.slice xa us.length xc):=zG.aN.cell rfl;have hxl:=aBk.aN.lt;have oL:∀g,(Value.slice xa us.length xc).ownBlock=some g->S<=g/\g<w3.heap.size:=λg hg=>aBk.own.block g hg;push_cast -dsimp[dY];refine⟨λh1=>?_,λh1=>?_⟩
  ·have GP:∃u,Ln=[u]:=List.length_eq_one_iff.1 (by omega);obtain⟨u,rfl⟩:=GP;have hg:=hLY.own.sl.get (i:=0) (x:=u) rfl;obtain⟨b,o,rfl,_,aP⟩:=hg;have k0:w5.cell? ⟨b,o,none⟩=some (.pointer u):=by simpa[oC] using aP 0 _ rfl
   simp only[List.length_cons,List.length_nil,Nat.zero_add]at dY;have hQ:∀(di acc:List aI),LV S1 yb 4 w5 [u] (some di)->∃l x ub,some acc=some l/\acc++[rowOf di]=l++[x]/\u=rY ub/\aV (·<w3.heap.size) w5 (bF ub) x:=λdi acc h1=>by
    have h4:=LV.one h1;obtain⟨x,ub,rfl,rfl,hV⟩:=h4;exact⟨acc,x,ub,rfl,rfl,rfl,by rw[<-hS1];exact hV⟩
   push_cast -dsimp[dY,k0,dX,Nat.zero_mul,Nat.add_zero];refine cY dj rfl rfl (by omega) ?_;intro tq eQ;have Be:=zG.aN.below eQ.below zG.aN.lt;have z10:=eQ.size;push_cast -dsimp;refine ae (base:=S) [u] (enc:=oC) dj (zG.own.new eQ) (by rfl) (λj y hy=>by simpa[oC] using eQ.cell hy) sj (by simp only[List.length_cons,List.length_nil];omega) (by omega) ?_;intro IB A8 xW JH JN;have kg:Kept (λj=>(Value.slice xa us.length xc).ownBlock=some j) tq A8:=Kept.grown JH (λ_ h=>h);have Bf:=Be.kept kg (λh=>zG.ne _ h rfl);have z11:=kg.size;have eM:=xW.slice;obtain⟨a5,c5,rfl⟩:=eM;push_cast -dsimp;refine aC Bf (by simp) rfl ?_;intro qO gj;have Vs:∀IM l9,LV S xb 5 w3 us IM->(∀l',l9=some l'->∃l x ub,IM=some l/\l'=l++[x]/\u=rY ub/\aV (·<w3.heap.size) w5 (bF ub) x)->LV S xb 5 qO (us++[u]) l9:=λIM l9 h0 hu=>LV.push (zG.swap (h0.kept k5 (λi h=>.inl (by omega)))) ⟨by omega,hxl,λg hg=>(oL g hg).2⟩ (by omega) eQ xW kg JN gj hu;have GZ:Kept (·=rb) w qO:=(((k3.trans k5 (λi _ h=>h)).trans (Kept.new (X:=(·=rb)) eQ) (λi _ h=>h)).trans kg (λi h1 h2=>by have:=oL _ h2;omega)).trans gj.kept (λi h1 h2=>by omega);have kP:Kept (λi=>B<=i) w5 qO:=((Kept.new (X:=λi=>B<=i) eQ).trans kg (λi h1 h2=>by have:=(oL _ h2).1;omega)).trans gj.kept (λi h1 h2=>by omega);have zc:=GZ.size;rcases hJ with ⟨di,l2,hLJ,P5,Kr⟩|⟨e,l2,hLJ,Kr,P5,aCd⟩
   ·have hr:=hRo di l2 Kr;obtain⟨m,acc,XM,hm,r8,ho,aKU⟩:=hr;have gi:∃m',m=m'+1:=⟨m-1,by omega⟩;obtain⟨m',rfl⟩:=gi;have rW:=P5.fx kP (λi h=>h);have SN:LV S xb 5 qO (us++[u]) (some (acc++[rowOf di])):=Vs _ _ XM (λl' h=>by cases h;exact hQ di acc hLJ);have hll:=LV.len SN;rw[List.length_append,List.length_append,List.length_singleton,List.length_singleton]at hll;push_cast -dsimp;refine aA (fB rW [124]) ?_;rintro _ rA hT;rcases hT with ⟨_,eY,rfl,t1,r1,gy,lx,wV,kt⟩|⟨eY,rfl,wV,vu⟩
    ·have ew:bV l2=.ok ((),r1):=by rw[gy];exact bB lx
     have Hs:l2.length=r1.length+1:=by rw[gy,List.length_cons]
     have GI:=wV.mu;push_cast -dsimp;refine⟨⟨true,us++[u],rfl,GZ.trans kt (λi _ h=>h),.inl ⟨m',acc++[rowOf di],r1,SN.kept kt (λi h=>by omega),wV,λ_=>by omega,by rw[List.length_append,List.length_singleton];omega,?_⟩⟩,?_⟩
     ·rw[if_pos rfl,ho,sW eY ew]
     simp only[pz,ig];omega
    rw[fT,Bool.true_and]at eY;have GI:=wV.mu;push_cast -dsimp;refine⟨⟨false,us++[u],rfl,GZ.trans (Kept.rb rW.le rW.lt vu) (λi _ h=>h),.inl ⟨m',acc++[rowOf di],l2,SN.below vu,wV,(λh=>by cases h),by rw[List.length_append,List.length_singleton];omega,?_⟩⟩,?_⟩
    ·rw[if_neg (by decide),ho,sX eY]
    simp only[pz,ig];omega
   have hr:=aFH e Kr;obtain⟨XM,ho,WB⟩:=hr;have rW:=P5.fx kP (λi h=>h);have SN:LV S xb 5 qO (us++[u]) none:=Vs _ none XM (λl' h=>by cases h);push_cast -dsimp;refine aA (fB rW [124]) ?_;rintro _ rA hT;rcases hT with ⟨NA,_⟩|⟨eY,rfl,wV,vu⟩
   ·cases NA
   have GI:=wV.vD;push_cast -dsimp;refine⟨⟨false,us++[u],rfl,GZ.trans (Kept.rb rW.le rW.lt vu) (λi _ h=>h),.inr ⟨e,l2,SN.below vu,ho,wV,by rw[List.length_append,List.length_singleton,if_neg (by decide)];omega⟩⟩,?_⟩;simp only[pz,ig];omega
  have hQ:∀(di acc:List aI),LV S1 yb 4 w5 Ln (some di)->∃l x ub,some acc=some l/\acc++[rowOf di]=l++[x]/\rY yb=rY ub/\aV (·<w3.heap.size) w5 (bF ub) x:=λdi acc h1=>by
   have hlen:=LV.len h1;have hro:rowOf di=.cat di:=by
    unfold rowOf;split
    ·rename_i x;simp at hlen;omega
    rfl
   exact⟨acc,.cat di,yb,rfl,by rw[hro],rfl,by rw[<-hS1];exact LV.cat h1⟩
  push_cast -dsimp[dX];refine cY dj rfl rfl (by omega) ?_;intro tq eQ;have Be:=zG.aN.below eQ.below zG.aN.lt;have z10:=eQ.size;push_cast -dsimp;refine ae (base:=S) [(rY yb)] (enc:=oC) dj (zG.own.new eQ) (by rfl) (λj y hy=>by simpa[oC] using eQ.cell hy) sj (by simp only[List.length_cons,List.length_nil];omega) (by omega) ?_;intro IB A8 xW JH JN;have kg:Kept (λj=>(Value.slice xa us.length xc).ownBlock=some j) tq A8:=Kept.grown JH (λ_ h=>h);have Bf:=Be.kept kg (λh=>zG.ne _ h rfl);have z11:=kg.size;have eM:=xW.slice;obtain⟨a5,c5,rfl⟩:=eM;push_cast -dsimp;refine aC Bf (by simp) rfl ?_;intro qO gj;have Vs:∀IM l9,LV S xb 5 w3 us IM->(∀l',l9=some l'->∃l x ub,IM=some l/\l'=l++[x]/\(rY yb)=rY ub/\aV (·<w3.heap.size) w5 (bF ub) x)->LV S xb 5 qO (us++[(rY yb)]) l9:=λIM l9 h0 hu=>LV.push (zG.swap (h0.kept k5 (λi h=>.inl (by omega)))) ⟨by omega,hxl,λg hg=>(oL g hg).2⟩ (by omega) eQ xW kg JN gj hu;have GZ:Kept (·=rb) w qO:=(((k3.trans k5 (λi _ h=>h)).trans (Kept.new (X:=(·=rb)) eQ) (λi _ h=>h)).trans kg (λi h1 h2=>by have:=oL _ h2;omega)).trans gj.kept (λi h1 h2=>by omega);have kP:Kept (λi=>B<=i) w5 qO:=((Kept.new (X:=λi=>B<=i) eQ).trans kg (λi h1 h2=>by have:=(oL _ h2).1;omega)).trans gj.kept (λi h1 h2=>by omega);have zc:=GZ.size;rcases hJ with ⟨di,l2,hLJ,P5,Kr⟩|⟨e,l2,hLJ,Kr,P5,aCd⟩
  ·have hr:=hRo di l2 Kr;obtain⟨m,acc,XM,hm,r8,ho,aKU⟩:=hr;have gi:∃m',m=m'+1:=⟨m-1,by omega⟩;obtain⟨m',rfl⟩:=gi;have rW:=P5.fx kP (λi h=>h);have SN:LV S xb 5 qO (us++[(rY yb)]) (some (acc++[rowOf di])):=Vs _ _ XM (λl' h=>by cases h;exact hQ di acc hLJ);have hll:=LV.len SN;rw[List.length_append,List.length_append,List.length_singleton,List.length_singleton]at hll;push_cast -dsimp;refine aA (fB rW [124]) ?_;rintro _ rA hT;rcases hT with ⟨_,eY,rfl,t1,r1,gy,lx,wV,kt⟩|⟨eY,rfl,wV,vu⟩
   ·have ew:bV l2=.ok ((),r1):=by rw[gy];exact bB lx
    have Hs:l2.length=r1.length+1:=by rw[gy,List.length_cons]
    have GI:=wV.mu;push_cast -dsimp;refine⟨⟨true,us++[(rY yb)],rfl,GZ.trans kt (λi _ h=>h),.inl ⟨m',acc++[rowOf di],r1,SN.kept kt (λi h=>by omega),wV,λ_=>by omega,by rw[List.length_append,List.length_singleton];omega,?_⟩⟩,?_⟩
    ·rw[if_pos rfl,ho,sW eY ew]
    simp only[pz,ig];omega
   rw[fT,Bool.true_and]at eY;have GI:=wV.mu;push_cast -dsimp;refine⟨⟨false,us++[(rY yb)],rfl,GZ.trans (Kept.rb rW.le rW.lt vu) (λi _ h=>h),.inl ⟨m',acc++[rowOf di],l2,SN.below vu,wV,(λh=>by cases h),by rw[List.length_append,List.length_singleton];omega,?_⟩⟩,?_⟩
   ·rw[if_neg (by decide),ho,sX eY]
   simp only[pz,ig];omega
  have hr:=aFH e Kr;obtain⟨XM,ho,WB⟩:=hr;have rW:=P5.fx kP (λi h=>h);have SN:LV S xb 5 qO (us++[(rY yb)]) none:=Vs _ none XM (λl' h=>by cases h);push_cast -dsimp;refine aA (fB rW [124]) ?_;rintro _ rA hT;rcases hT with ⟨NA,_⟩|⟨eY,rfl,wV,vu⟩
  ·cases NA
  have GI:=wV.vD;push_cast -dsimp;refine⟨⟨false,us++[(rY yb)],rfl,GZ.trans (Kept.rb rW.le rW.lt vu) (λi _ h=>h),.inr ⟨e,l2,SN.below vu,ho,wV,by rw[List.length_append,List.length_singleton,if_neg (by decide)];omega⟩⟩,?_⟩;simp only[pz,ig];omega
end Go.Proofs.YtodeeahdhnjpkaaGreatDoor
end
section
namespace Go.Proofs.YtodeeahdhnjpkaaGreatDoor
open Go.Vc Go.Proofs Go.RowKit Cae
attribute [local irreducible] cw ag aq a8 runK bD Sl Vc.Own vc aW cN ai
theorem OU:QD 0:=by
 intro n oK hn rb B w l0 bad h0;have hle:=h0.le;have bZ:=h0.lt;have fN:dp bad (j8 0) l0=.error (bad.getD (4,(Cae.hd l0).pos)):=by cases bad<;>rfl
 have gh:∃e,e=bad.getD (4,(Cae.hd l0).pos):=⟨_,rfl⟩;obtain⟨e,he⟩:=gh;unfold Rc pC;rw[fN,<-he];refine aE Tryz.func28 rfl (by kernel_rfl) [4] rfl ?_;push_cast -dsimp(maxSteps:=4000000) [Tryz.ntmps28];refine⟨λh8=>?_,λh8=>by omega⟩;refine aA (bX h0 4 (by decide)) ?_;rintro _ w1 ⟨rfl,P1,k1⟩;rw[<-he]at P1;have z1:=k1.size;push_cast -dsimp;have hgx:∃xb,xb=w1.heap.size:=⟨_,rfl⟩;obtain⟨xb,tD⟩:=hgx;refine ah ?_;intro w2 bT;have P2:=P1.below bT.below;have k2:=k1.trans (Kept.new (X:=(·=rb)) bT) (λi _ h=>h);have z2:=bT.size;have B2:aO w2 xb 129 [.int .i64 5,.pointer none,.slice none 0 0,.int .i64 0,.int .i64 0]:=by rw[tD];exact bT.aN
 rw[<-tD];have LA:LV xb xb 5 w2 [] none:=⟨_,B2,Vc.Own.nil (enc:=oC) _ _ (λ_=>rfl) _,λg hg=>(by cases hg),λl hl=>(by cases hl),by omega⟩;push_cast -dsimp;refine aM [6,7,14,15,16,17,18,19,20,21,22,23,24,25,26,27,28,29,30,31,32,33,34,35,36,37,38,39,40,41,42,43,44,45,46,47,48,49,50,51,52,53,54,55,56,57,58,59,60,61,62,63,64,65,66,67,68,69,70,71,72,73,74,75,76,77,78,79,80] (λz w'=>∃(more:Bool) (us:List (Option Addr)),z 6=.bool more/\us.length+pz (z 6)=1/\LV xb xb 5 w' us none/\RS rb B w' l0 (some e)/\Kept (·=rb) w w') (λz w'=>pz (z 6)) ?_ ?_
 ·exact⟨true,[],rfl,rfl,LA,P2,k2⟩
 rintro z w3 ⟨more,us,ig,WB,hL,P3,k3⟩;rw[ig]at WB;obtain⟨svX,zG⟩:=hL;have eM:=zG.own.slice;obtain⟨xa,xc,rfl⟩:=eM;have dX:w3.cell? ⟨xb,2,none⟩=some (.slice xa us.length xc):=zG.aN.cell rfl;cases more with
 | false =>
  have GP:∃u,us=[u]:=List.length_eq_one_iff.1 WB;obtain⟨u,rfl⟩:=GP;have hg:=zG.own.sl.get (i:=0) (x:=u) rfl;obtain⟨b,o,rfl,_,aP⟩:=hg;have k0:w3.cell? ⟨b,o,none⟩=some (.pointer u):=by simpa[oC] using aP 0 _ rfl
  simp only[List.length_cons,List.length_nil,Nat.zero_add]at dX;push_cast -dsimp[ig,dX,k0,Nat.zero_mul,Nat.add_zero];exact⟨k3,⟨_,rfl⟩,_,P3⟩
 | true =>
  have GP:us=[]:=List.length_eq_zero_iff.1 (by simpa[pz] using WB);subst GP;have aQq:=P3.le;push_cast -dsimp[ig];refine ah ?_;intro w4 aj;have z4:=aj.size;have P4:=P3.below aj.below;have L4:=Lv.kept zG (Kept.new (X:=λ_=>False) aj) (λi h=>h.elim);have k4:=k3.trans (Kept.new (X:=(·=rb)) aj) (λi _ h=>h);have hgy:∃yb,yb=w3.heap.size:=⟨_,rfl⟩;obtain⟨yb,hyb⟩:=hgy;have B4:aO w4 yb 129 [.int .i64 4,.pointer none,.slice none 0 0,.int .i64 0,.int .i64 0]:=by rw[hyb];exact aj.aN
  have hxl:=zG.aN.lt;rw[<-hyb];push_cast -dsimp;refine kR [19,20,21,22,23,24,25,26,27,28,29,30,31,32,33,34,35,36,37,38,39,40,41,42,43,44,45,46,47,48,49,50,51,52,53,54,55,56,57,58] (λz wx=>Below w4.heap.size w4 wx) ?_ ?_
  ·refine aM [19,20,21,22,23,24,25,26,27,28,29,30,31,32,33,34,35,36,37,38,39,40,41,42,43,44,45,46,47,48,49,50,51,52,53,54,55,56,57,58] (λz wx=>Below w4.heap.size w4 wx) (λz wx=>0) ?_ ?_
   ·exact Below.refl _ _
   rintro z2 w5 b5;push_cast -dsimp;refine aA (iW (P4.below b5)) ?_;rintro _ w6 ⟨rfl,jc⟩;push_cast -dsimp;exact b5.trans (jc.mono b5.size)
  rintro z2 w5 b5;have z5:=b5.size;have P5:=P4.below b5;have L5:=Lv.kept L4 (Kept.aJ b5 (X:=λi=>w4.heap.size<=i) (λi h1 h2=>h1)) (λi h=>.inr h);have B5:=B4.below b5 (by omega);have k5:=k4.trans (Kept.rb P4.le P4.lt b5) (λi _ h=>h);have dY:w5.cell? ⟨yb,2,none⟩=some (.slice none 0 0):=B5.cell rfl;have dX5:w5.cell? ⟨xb,2,none⟩=some (.slice xa 0 xc):=L5.aN.cell rfl;push_cast -dsimp[dY,dX5];refine cY dj rfl rfl (by omega) ?_;intro tq eQ;have Be:=L5.aN.below eQ.below L5.aN.lt;have z10:=eQ.size;push_cast -dsimp;refine ae (base:=xb) [rY yb] (enc:=oC) dj (L5.own.new eQ) (by rfl) (λj y hy=>by simpa[oC,rY] using eQ.cell hy) sj (by simp) (by omega) ?_;intro IB A8 xW JH JN;have kg:Kept (λj=>(Value.slice xa 0 xc).ownBlock=some j) tq A8:=Kept.grown JH (λ_ h=>h);have Bf:=Be.kept kg (λh=>L5.ne _ h rfl);have z11:=kg.size;have eM:=xW.slice;obtain⟨a5,c5,rfl⟩:=eM;push_cast -dsimp;refine aC Bf (by simp) rfl ?_;intro qO gj;have oL:∀g,(Value.slice xa 0 xc).ownBlock=some g->xb<=g/\g<w5.heap.size:=λg hg=>L5.own.block g hg;have Vs:LV xb xb 5 qO [rY yb] none:=LV.push (T:=w5.heap.size) L5 ⟨by omega,by omega,λg hg=>(oL g hg).2⟩ (by omega) eQ xW kg JN gj (λl' h=>by cases h);have GZ:Kept (·=rb) w qO:=((k5.trans (Kept.new (X:=(·=rb)) eQ) (λi _ h=>h)).trans kg (λi h1 h2=>by have:=oL _ h2;omega)).trans gj.kept (λi h1 h2=>by omega);have rW:=P5.fx (((Kept.new (X:=λi=>B<=i) eQ).trans kg (λi h1 h2=>by have:=oL _ h2;omega)).trans gj.kept (λi h1 h2=>by omega)) (λi h=>h);push_cast -dsimp;refine aA (fB rW [124]) ?_
  rintro _ rA hT;rcases hT with ⟨NA,_⟩|⟨_,rfl,wV,vu⟩
  ·cases NA
  push_cast -dsimp;exact⟨⟨false,[rY yb],rfl,rfl,Vs.below vu,wV,GZ.trans (Kept.rb rW.le rW.lt vu) (λi _ h=>h)⟩,by simp only[pz,ig];omega⟩
theorem aAp:∀d,Kg d/\QD d
 | 0=>⟨KA,OU⟩
 | d+1=>by
  have h:=aAp d;have hu:=Jz d h.2;exact⟨hu,OT (d+1) (by omega) (Ur (d+1) hu)⟩
theorem aDb (d:Nat):QD d:=(aAp d).2
end Go.Proofs.YtodeeahdhnjpkaaGreatDoor
end
section
namespace Cae
theorem Yp {i:Nat}{s:List UInt8}{l:List Cae.Tok}(h:Tk i s l):∀t∈l,t.kind≠4->noMark t.text:=by
 induction h with
 | nil i=>simp
 | blank _ _ ih=>exact ih
 | note _ _ _ ih=>exact ih
 | @tok i c r l h1 h2 h3 hl ih =>
  intro t ht hk;rcases List.mem_cons.1 ht with rfl|ht
  ·have hc:c≠124/\c≠38/\c≠45:=by
    rw[jq]at hk;refine⟨?_,?_,?_⟩<;>(rintro rfl;revert hk;simp(decide:=true))
   have hx:∀x:UInt8,c≠x->(c::r).take (gG (c::r)).2≠[x]:=by
    intro x dA he;cases hn:(gG (c::r)).2 with
    | zero=>rw[hn]at he;cases he
    | succ n=>rw[hn,List.take_succ_cons]at he;exact dA (List.cons.inj he).1
   exact⟨hx _ hc.1,hx _ hc.2.1,hx _ hc.2.2⟩
  exact ih t ht hk
theorem pbe {α β:Type}{p:Pa α}{q:α->Pa β}{l:List Cae.Tok}{e:Nat×Nat}(h:p l=.error e):pb p q l=.error e:=by
 unfold pb;rw[h]
theorem yY {α β:Type}{p p':Pa α}{q:α->Pa β}{l:List Cae.Tok}(h:p l=p' l):pb p q l=pb p' q l:=by
 unfold pb;rw[h]
theorem Gs {α β γ:Type}(p:Pa α)(q:α->Pa β)(r:β->Pa γ)(l:List Cae.Tok):pb (pb p q) r l=pb p (λx=>pb (q x) r) l:=by
 unfold pb;cases p l with
 | ok x=>rfl
 | error e=>rfl
section
variable {β:Type} {l:List Cae.Tok} {m:Nat}
theorem RC {K:List eD->Pa β}{acc:List eD}(hm:l.length<m)(hs:bI [99,108,97,115,115] l=false):pb (az m acc) K l=K acc l:=by
 obtain⟨m',rfl⟩:∃m',m=m'+1:=⟨m-1,by omega⟩;refine aG ?_;rw[az];unfold bE;rw[hs];rfl
theorem MM {K:List eD->Pa β}{acc:List eD}(hs:bI [99,108,97,115,115] l=true)(h:acc.length=20):pb (az (m+1) acc) K l=.error (4,(hd l).pos):=by
 refine pbe ?_;rw[az];unfold bE;rw[hs,if_pos rfl,if_pos h];rfl
theorem MN {K:List eD->Pa β}{acc:List eD}(hs:bI [99,108,97,115,115] l=true)(h:acc.length≠20):pb (az (m+1) acc) K l=pb iX (λc=>pb (az m (acc++[c])) K) l:=by
 rw[<-Gs];have e:az (m+1) acc l=pb iX (λc=>az m (acc++[c])) l:=by
  rw[az];unfold bE;rw[hs,if_pos rfl,if_neg h]
 exact yY e
theorem Ut {K:List cW->Pa β}{acc:List cW}(hm:l.length<m)(hs:dC l=false):pb (bA m acc) K l=K acc l:=by
 obtain⟨m',rfl⟩:∃m',m=m'+1:=⟨m-1,by omega⟩;refine aG ?_;rw[bA];unfold bE;rw[hs];rfl
theorem OW {K:List cW->Pa β}{acc:List cW}(hs:dC l=true)(h:acc.length=20):pb (bA (m+1) acc) K l=.error (4,(hd l).pos):=by
 refine pbe ?_;rw[bA];unfold bE;rw[hs,if_pos rfl,if_pos h];rfl
theorem OX {K:List cW->Pa β}{acc:List cW}(hs:dC l=true)(h:acc.length≠20):pb (bA (m+1) acc) K l=pb iq (λc=>pb (bA m (acc++[c])) K) l:=by
 rw[<-Gs];have e:bA (m+1) acc l=pb iq (λc=>bA m (acc++[c])) l:=by
  rw[bA];unfold bE;rw[hs,if_pos rfl,if_neg h]
 exact yY e
end
theorem Gt {p:Prop}{α:Type}(a:α){R:α->Prop}(h:p->∃x,R x):∃x,p->R x:=by
 by_cases hp:p
 ·obtain⟨x,hx⟩:=h hp;exact⟨x,λ_=>hx⟩
 exact⟨a,λh=>absurd h hp⟩
end Cae
namespace Go.Proofs.YtodeeahdhnjpkaaGreatDoor
open Go.Vc Go.Proofs Go.RowKit Cae
attribute [local irreducible] cw ag aq a8 runK bD Sl Vc.Own vc aW cN ai
theorem pC.next {α β:Type}{rb B:Nat}{w w':World}{l:List Cae.Tok}{bad:Option (Nat×Nat)}{p:Pa α}{q:α->Pa β}{X:Except (Nat×Nat) (β×List Cae.Tok)}{V:World->Value->α->Prop}{J:Value->Prop}{r:Value}
  (h:pC rb B w (dp bad p l) V J r w') (h1:bad=none->X=Cae.pb p q l) (h2:∀e,bad=some e->X=.error e) :
  Kept (·=rb) w w'/\∃kZ l',RS rb B w' l' kZ/\(kZ=none->bad=none/\∃x,V w' r x/\X=q x l')/\(∀e,kZ=some e->X=.error e)/\((∃x,V w' r x)\/J r):=by
 obtain⟨hk,h⟩:=h;refine⟨hk,?_⟩;cases bad with
 | some e =>
  obtain⟨hj,l',hP⟩:=h;exact⟨some e,l',hP,λh=>(by cases h),λe' h=>(by cases h;exact h2 _ rfl),.inr hj⟩
 | none =>
  have e1:dp none p l=p l:=rfl;rw[e1]at h;cases hp:p l with
  | ok y =>
   obtain⟨x,l'⟩:=y;rw[hp]at h;exact⟨none,l',h.2,λ_=>⟨rfl,x,h.1,by rw[h1 rfl,aG hp]⟩,λe h=>(by cases h),.inl ⟨x,h.1⟩⟩
  | error e =>
   rw[hp]at h;obtain⟨hj,l',hP⟩:=h;exact⟨some e,l',hP,λh=>(by cases h),λe' h=>(by cases h;rw[h1 rfl];unfold Cae.pb;rw[hp]),.inr hj⟩
theorem Yc {l r:List Cae.Tok}{t:Cae.Tok}(hl:l=t::r)(h:dC l=true):ep l=.ok (bI [98,114,101,97,107] l,r)/\t.kind≠5:=by
 subst hl;unfold dC at h;unfold ep bE;cases hb:bI [98,114,101,97,107] (t::r) with
 | true =>
  have h5:=q8 hb;exact⟨by rw[if_pos rfl,aG (bB h5)];rfl,h5⟩
 | false =>
  rw[hb,Bool.false_or]at h;have h5:=q8 h;refine⟨?_,h5⟩;rw[if_neg (by decide)];unfold a7 bE;have e:(if bI [107,101,101,112] (t::r)=true then bV (t::r) else ck 3 (t::r))=.ok ((),r):=by rw[if_pos h];exact bB h5
  rw[aG e];rfl
theorem aHz {s:List UInt8}{l:List Cae.Tok}(h:yp s=.ok l):∀t∈l,t.kind≠4->noMark t.text:=by
 obtain⟨m,hm,e,hn⟩:=jv _ _ _ _ _ (by simp) h;rw[List.nil_append]at e;subst e;intro t ht hk;rcases List.mem_append.1 ht with ht|ht
 ·exact Yp hm t ht hk
 rw[List.mem_singleton.1 ht];exact⟨by simp,by simp,by simp⟩
section
variable {β:Type} {rb B:Nat} {w:World} {l:List Cae.Tok} {bad:Option (Nat×Nat)} {X:Except (Nat×Nat) (β×List Cae.Tok)}
def Nx (rb B:Nat)(X:Except (Nat×Nat) (β×List Cae.Tok))(w w':World)(J:List Cae.Tok->Prop):Prop:=Kept (·=rb) w w'/\∃kZ l',RS rb B w' l' kZ/\(kZ=none->J l')/\∀e,kZ=some e->X=.error e
theorem qE (s:List UInt8){q:Unit->Pa β}(hP:RS rb B w l bad)(h1:bad=none->X=Cae.pb (a7 s) q l)(h2:∀e,bad=some e->X=.error e) :
  bD Tryz.prog 24 [.pointer (some ⟨rb,0,none⟩),str s] w λr w'=>r=.tuple #[]/\Nx rb B X w w' λl'=>X=q () l':=by
 refine(iS hP s).mono λr w' h=>?_;obtain⟨hk,kZ,l',Hn,hn,he,hv⟩:=pC.next h h1 h2;exact⟨by rcases hv with ⟨_,h⟩|h<;>exact h,hk,kZ,l',Hn,λh=>by obtain⟨_,_,_,h⟩:=hn h;exact h,he⟩
theorem aDa {q:List UInt8->Pa β}(hP:RS rb B w l bad)(h1:bad=none->X=Cae.pb fP q l)(h2:∀e,bad=some e->X=.error e) :
  bD Tryz.prog 25 [.pointer (some ⟨rb,0,none⟩)] w λr w'=>∃nm,r=str nm/\Nx rb B X w w' λl'=>X=q nm l':=by
 refine(Lc hP).mono λr w' h=>?_;obtain⟨hk,kZ,l',Hn,hn,he,hv⟩:=pC.next h h1 h2;cases hb:kZ with
 | none =>
  obtain⟨_,nm,hr,hX⟩:=hn hb;exact⟨nm,hr,hk,kZ,l',Hn,λ_=>hX,he⟩
 | some e =>
  obtain⟨nm,hr⟩:∃nm,r=str nm:=by
   rcases hv with ⟨nm,h⟩|h
   ·exact⟨nm,h⟩
   exact h
  exact⟨nm,hr,hk,kZ,l',Hn,λh=>(by rw[hb]at h;cases h),he⟩
theorem aC9 {q:ax->Pa β}(hP:RS rb B w l bad)(h1:bad=none->X=Cae.pb (iV 9) q l)(h2:∀e,bad=some e->X=.error e) :
  bD Tryz.prog 27 [.pointer (some ⟨rb,0,none⟩),.int .i64 0] w λr w'=>∃u,r=.pointer u/\Nx rb B X w w' λl'=>∃x ub,u=rY ub/\eC (·<w.heap.size) w' (bF ub) x/\X=q x l':=by
 refine(G0 9 (tH 9) 0 (by omega) (by omega) rb B w l bad hP).mono λr w' h=>?_;obtain⟨hk,kZ,l',Hn,hn,he,hv⟩:=pC.next h h1 h2;cases hb:kZ with
 | none =>
  obtain⟨_,x,hr,hX⟩:=hn hb;obtain⟨ub,rfl,_⟩:=hr.ptr;exact⟨_,rfl,hk,kZ,l',Hn,λ_=>⟨x,ub,rfl,hr,hX⟩,he⟩
 | some e =>
  obtain⟨u,hr⟩:∃u,r=.pointer u:=by
   rcases hv with ⟨x,h⟩|h
   ·obtain⟨ub,e,_⟩:=h.ptr;exact⟨_,e⟩
   exact h
  exact⟨u,hr,hk,kZ,l',Hn,λh=>(by rw[hb]at h;cases h),he⟩
theorem aAq {q:aI->Pa β}(hP:RS rb B w l bad)(h1:bad=none->X=Cae.pb (j8 9) q l)(h2:∀e,bad=some e->X=.error e) :
  bD Tryz.prog 28 [.pointer (some ⟨rb,0,none⟩),.int .i64 0] w λr w'=>∃u,r=.pointer u/\Nx rb B X w w' λl'=>∃x ub,u=rY ub/\aV (·<w.heap.size) w' (bF ub) x/\X=q x l':=by
 refine(aDb 9 0 (by omega) (by omega) rb B w l bad hP).mono λr w' h=>?_;obtain⟨hk,kZ,l',Hn,hn,he,hv⟩:=pC.next h h1 h2;cases hb:kZ with
 | none =>
  obtain⟨_,x,hr,hX⟩:=hn hb;obtain⟨ub,rfl,_⟩:=hr.ptr;exact⟨_,rfl,hk,kZ,l',Hn,λ_=>⟨x,ub,rfl,hr,hX⟩,he⟩
 | some e =>
  obtain⟨u,hr⟩:∃u,r=.pointer u:=by
   rcases hv with ⟨x,h⟩|h
   ·obtain⟨ub,e,_⟩:=h.ptr;exact⟨_,e⟩
   exact h
  exact⟨u,hr,hk,kZ,l',Hn,λh=>(by rw[hb]at h;cases h),he⟩
end
def QF (w:World)(s:List UInt8)(r:Value)(w':World):Prop :=
 (∃f v,dM s=.ok f/\r=.tuple #[v,.agg #[.int .i64 0,.int .i64 (-1)]]/\gn (·<w.heap.size) w' v f) \/
 (∃e pos:Nat,dM s=.error (e,pos)/\e≠0/\r=.tuple #[.agg #[.slice none 0 0,.slice none 0 0,.bool false],.agg #[.int .i64 e,.int .i64 pos]])
def Ac (a:List UInt8×Nat×Option Addr):List Value:=[str a.1,.int .i64 a.2.1,.pointer a.2.2]
def Ad (a:Nat×Bool×Option Addr×Option Addr):List Value:=[.int .i64 a.1,.bool a.2.1,.pointer a.2.2.1,.pointer a.2.2.2]
theorem Ma (a:List UInt8×Nat×Option Addr):∀u∈Ac a,u.oneCell'=true:=by
 intro u hu;simp[Ac]at hu;rcases hu with rfl|rfl|rfl<;>rfl
theorem Mb (a:Nat×Bool×Option Addr×Option Addr):∀u∈Ad a,u.oneCell'=true:=by
 intro u hu;simp[Ad]at hu;rcases hu with rfl|rfl|rfl|rfl<;>rfl
def cQ (a:List UInt8×Nat×Nat):List UInt8×Nat×Option Addr:=(a.1,a.2.1,rY a.2.2)
def rQ (a:Nat×Bool×Nat×Nat):Nat×Bool×Option Addr×Option Addr:=(a.1,a.2.1,rY a.2.2.1,rY a.2.2.2)
theorem Sl.Z5 {α β:Type}{X:Nat->Prop}{k:Nat}{f:α->β}{enc:α->List Value}{aAY:β->List Value}(hf:∀x,aAY (f x)=enc x){w:World}{v:Value}{l:List α}(h:Sl X k (En aAY) w v (l.map f)):Sl X k (En enc) w v l:=by
 unfold Sl at h ⊢
 obtain⟨a,c,rfl,hc,h⟩:=h;refine⟨a,c,by rw[List.length_map],by rw[List.length_map]at hc;exact hc,λi x hx=>?_⟩;obtain⟨b,o,cs,ha,hb,je,aP,hr⟩:=h i (f x) (by rw[List.getElem?_map,hx];rfl);exact⟨b,o,cs,ha,hb,je,aP,by have zK:cs=aAY (f x):=hr;rw[hf]at zK;exact zK⟩
def aEw (X:Except (Nat×Nat) (dQ×List Cae.Tok))(rb B ob:Nat)(w':World)(cv:Value)(cq:List (List UInt8×Nat×Option Addr))(bad:Option (Nat×Nat))(l1:List Cae.Tok)(K:List eD->Except (Nat×Nat) (dQ×List Cae.Tok)):Prop :=
 RS rb B w' l1 bad/\aO w' ob 25 [cv,.slice none 0 0,.bool true]/\Vc.Own (ob+1) 74 3 Ac w' cv cq /\
 (bad=none->∃acc cs,X=K acc/\cq=cs.map cQ/\cq.length<=20/\dd (qj (λb=>b<ob+1\/cv.ownBlock=some b) w') cs acc)/\(∀e,bad=some e->X=.error e)
def aEK (X:Except (Nat×Nat) (dQ×List Cae.Tok))(rb B ob:Nat)(cv:Value)(p0:Prop)(S:Nat)(w':World)(rv:Value)(rq:List (Nat×Bool×Option Addr×Option Addr))(bad:Option (Nat×Nat))(l1:List Cae.Tok)(K:List cW->Except (Nat×Nat) (dQ×List Cae.Tok)):Prop :=
 RS rb B w' l1 bad/\aO w' ob 25 [cv,rv,.bool true]/\Vc.Own S 60 4 Ad w' rv rq /\
 (bad=none->p0/\∃acc rs,X=K acc/\rq=rs.map rQ/\rq.length<=20/\dd (kG (λb=>b<S\/rv.ownBlock=some b) w') rs acc)/\(∀e,bad=some e->X=.error e)
end Go.Proofs.YtodeeahdhnjpkaaGreatDoor
end
section
namespace Go.Proofs.YtodeeahdhnjpkaaGreatDoor
open Go.Vc Go.Proofs Go.RowKit Cae
attribute [local irreducible] cw ag aq a8 runK bD Sl Vc.Own vc aW cN ai
theorem Jv (s:List UInt8)(hs:s.length<=1000000)(w:World)(hg:Gr w):bD Tryz.prog 5 [str s] w λr w'=>QF w s r w'/\Below w.heap.size w w':=by
 refine cM Tryz.func5 rfl (by kernel_rfl) [.cell 2 25,.cell 3 28] rfl ?_;push_cast -dsimp(maxSteps:=4000000) [Tryz.ntmps5];refine aD ?_;push_cast -dsimp;refine aR (z:=[.slice none 0 0,.slice none 0 0,.bool false]) (by kernel_rfl) ?_;intro w1 au;have R1:aO w1 w.heap.size 25 [.slice none 0 0,.slice none 0 0,.bool false]:=au.aN;have z1:=au.size;have b1:=au.below;push_cast -dsimp;refine aR (z:=[.int .i64 0,.int .i64 0]) (by kernel_rfl) ?_;intro w2 bT;have E2:aO w2 w1.heap.size 28 [.int .i64 0,.int .i64 0]:=bT.aN;have R2:=R1.below bT.below (by omega);have z2:=bT.size;have b2:=b1.trans (bT.below.mono (by omega));have gh:∃eb,eb=w1.heap.size:=⟨_,rfl⟩;obtain⟨eb,zI⟩:=gh;rw[<-zI]at E2;push_cast -dsimp[<-zI];refine aD ?_;push_cast -dsimp;have hg2:=hg.below b2;refine aA (OV s hs w2 hg2) ?_;rintro r w3 ⟨hT,b3⟩;have R3:=R2.below b3 (by omega);have E3:=E2.below b3 (by omega);have z3:=b3.size;have ft:=b2.trans (b3.mono (by omega));have hg3:=hg.below ft;unfold ZV at hT;rcases hT with ⟨l,v,uQ,rfl,hO⟩|⟨en,pos,uQ,dA,rfl⟩
 ·have eM:=hO.slice;obtain⟨va,vc,rfl⟩:=eM;push_cast -dsimp;refine aR (z:=[.int .i64 0,.int .i64 0]) (by kernel_rfl) ?_;intro w4 aj;have z4:=aj.size;push_cast -dsimp;refine aF (xt:=28) (n:=2) (by kernel_rfl) aj.aN rfl (by decide) (by simp;exact⟨rfl,rfl⟩) ?_;intro w5 bW;have F5:aO w5 w3.heap.size 28 [.int .i64 0,.int .i64 (-1)]:=bW.aN;have z5:=bW.size;have Hl:Below w3.heap.size w3 w5:=aj.below.trans (bW.kept.below (B:=w3.heap.size) (by omega) (λi h=>by omega));have rh:=hg.below (ft.trans (Hl.mono ft.size));have d5:aB w5 ⟨w3.heap.size,0,none⟩ 0 2=some [.int .i64 0,.int .i64 (-1)]:=F5.aB;have g5:=aL rh;push_cast -dsimp;refine aD ?_;push_cast -dsimp[d5,g5];refine aD ?_;push_cast -dsimp[g5];refine ah ?_;intro w6 cB;have z6:=cB.size;have b56:=cB.below;have hgr:∃rb,rb=w5.heap.size:=⟨_,rfl⟩;obtain⟨rb,hrb⟩:=hgr;rw[<-hrb];have P6:aO w6 rb 68 (.slice va l.length vc::pN none):=by rw[hrb];exact cB.aN
  push_cast -dsimp;refine aD ?_;push_cast -dsimp;refine aR (z:=[.slice none 0 0,.slice none 0 0,.bool false]) (by kernel_rfl) ?_;intro w7 dN;have z7:=dN.size;have p6:∃ob,ob=w6.heap.size:=⟨_,rfl⟩;obtain⟨ob,gw⟩:=p6;rw[<-gw];push_cast -dsimp;have O7:aO w7 ob 25 [.slice none 0 0,.slice none 0 0,.bool false]:=by rw[gw];exact dN.aN
  refine aF (xt:=25) (n:=3) (by kernel_rfl) O7 rfl (by decide) (by simp;exact⟨rfl,rfl⟩) ?_;intro w8 n9;have z8:=n9.size;have O8:aO w8 ob 25 [.slice none 0 0,.slice none 0 0,.bool true]:=n9.aN;have b58:Below w5.heap.size w5 w8:=(b56.trans (dN.below.mono (by omega))).trans (n9.kept.below (B:=w5.heap.size) (by omega) (λi h=>by omega));have b38:=Hl.trans (b58.mono (by omega));have kW:=ft.trans (b38.mono ft.size);have R8:=R3.below b38 (by omega);have E8:=E3.below b38 (by omega);have GO:=VL hs uQ;have htm:=aHz uQ;have S8:RS rb (rb+1) w8 l none:=by
   refine⟨⟨_,P6.below ((dN.below.trans (n9.kept.below (B:=w6.heap.size) (by omega) (λi h=>by omega)))) (by omega),?_⟩,by omega,by omega,GO,htm,⟨w,hg,by omega,kW⟩,λe h=>by cases h⟩;exact(((Sl.top (by decide) hO.sl).below b38).weaken (λi h=>by omega))
  have hX:∃X,X=j3 l:=⟨_,rfl⟩;obtain⟨X,hX⟩:=hX;push_cast -dsimp;refine fK (dr ?_);refine kR [8,25,26,27,28,29,30,31,32,33,34,35,36,37,38,39,40,41,42,43,44,45,46,47,48,49,50,51,52,53,54,55,56,57,58,59,60] (λz w'=>∃bad l1 cv cq,aEw X rb (rb+1) ob w' cv cq bad l1 (λacc=>Cae.pb (bA 1000 []) (λrs=>Cae.pb ia λb=>pr ⟨acc,rs,b⟩) l1)/\Kept (λi=>i=rb\/i=ob) w8 w') ?_ ?_
  ·refine jP [8,25,26,27,28,29,30,31,32,33,34,35,36,37,38,39,40,41,42,43,44,45,46,47,48,49,50,51,52,53,54,55,56,57,58,59,60] (λz w'=>∃bad l1 cv cq m,aEw X rb (rb+1) ob w' cv cq bad l1 (λacc=>Cae.pb (az m acc) (λcs=>Cae.pb (bA 1000 []) (λrs=>Cae.pb ia λb=>pr ⟨cs,rs,b⟩)) l1)/\(bad=none->l1.length<m)/\Kept (λi=>i=rb\/i=ob) w8 w') (λz w'=>Tx rb w') ?_ ?_
   ·refine⟨none,l,_,[],1000,⟨S8,O8,Vc.Own.nil (enc:=Ac) _ _ (λ_=>rfl) _,λ_=>⟨[],[],hX,rfl,by simp,.nil⟩,λe h=>by cases h⟩,λ_=>by have:=GO.len;omega,Kept.refl _ _⟩
   rintro z w' ⟨bad,l1,cv,cq,m,⟨hP,hF,Ir,hN,wD⟩,hm,hk⟩;have hzk:=hk.size;refine aD ?_;push_cast -dsimp;refine aA (oU hP [99,108,97,115,115]) ?_;rintro _ w9 ⟨rfl,b9⟩;have P9:=hP.below b9;have F9:=hF.below b9 hF.lt;have O9:=Ir.below b9;have k9:Kept (λi=>i=rb\/i=ob) w8 w9:=hk.trans (Kept.aJ b9 (X:=λi=>i=rb) (λi h1 h2=>by have:=hP.le;have:=hP.lt;omega)) (λi _ h=>.inl h);have z9:=b9.size;have aK3:=hF.lt;have aGq:=hP.le;cases hs:(okB bad && bI [99,108,97,115,115] l1) with
   | false =>
    push_cast -dsimp;refine⟨bad,l1,cv,cq,⟨P9,F9,O9,λh=>?_,wD⟩,k9⟩;subst h;rw[fT,Bool.true_and]at hs;obtain⟨acc,cs,EC,Hq,lC,hV⟩:=hN rfl;exact⟨acc,cs,EC.trans (RC (hm rfl) hs),Hq,lC,hV.imp λa c h=>⟨h.1,h.2.1,h.2.2.below b9⟩⟩
   | true =>
    have DA:bad=none:=by
     cases bad with
     | none=>rfl
     | some e=>cases hs
    subst DA;rw[fT,Bool.true_and]at hs;obtain⟨acc,cs,EC,Hq,lC,hV⟩:=hN rfl;have gi:=hm rfl;obtain⟨m',rfl⟩:∃m',m=m'+1:=⟨m-1,by omega⟩;have hVl:=hV.len;have hql:cq.length=acc.length:=by rw[Hq,List.length_map,hVl]
    obtain⟨ca,cc,JE⟩:=Ir.slice;have d0:w9.cell? ⟨ob,0,none⟩=some (.slice ca cq.length cc):=by rw[<-JE];exact F9.cell rfl
    push_cast -dsimp;refine dr (aD ?_);push_cast -dsimp[d0];refine⟨λjQ=>?_,λjQ=>?_⟩
    ·refine aA (bX P9 4 (by decide)) ?_;rintro _ wa ⟨rfl,Pa,ka⟩;push_cast -dsimp;refine⟨_,l1,cv,cq,⟨Pa,F9.kept ka (by omega),O9.ak ka (λg hg h=>by have:=(O9.block g hg).1;omega),λh=>(by cases h),λe h=>?_⟩,k9.trans ka (λi _ h=>.inl h)⟩;cases h;exact EC.trans (MM hs (by omega))
    have jQ:acc.length≠20:=by omega
    have Vt:=EC.trans (MN hs jQ);obtain⟨t1,r1,gy⟩:=P9.cons;have wF:Cae.hd l1=t1:=by rw[gy];rfl
    have ZT:=P9;rw[gy]at ZT;obtain⟨b,o,c,Cv,hc,dA,c0,c1,c2,c3⟩:=ZT.hd;have cb:w9.cell? ⟨rb,0,none⟩=some (.slice (some ⟨b,o,none⟩) (r1.length+1) c):=Cv.cell rfl;have jE:iX l1=Cae.pb (a7 [99,108,97,115,115]) (λ_=>Cae.pb fP λn=>Cae.pb (a7 [61]) λ_=>Cae.pb (iV 9) λk=>Cae.pb (a7 [59]) λ_=>pr ⟨n,t1.pos,k⟩) l1:=by
     unfold iX;rw[aG (p:=eA) (x:=Cae.hd l1) (l1:=l1) rfl,wF]
    refine aD ?_;push_cast -dsimp[cb,c2];refine⟨by omega,?_⟩;refine aR (z:=[str [],.int .i64 0,.pointer none]) (by kernel_rfl) ?_;intro wa eL;have za:=eL.size;have hgc:∃kb,kb=w9.heap.size:=⟨_,rfl⟩;obtain⟨kb,vi⟩:=hgc;have Ca:aO wa kb 74 [str [],.int .i64 0,.pointer none]:=by rw[vi];exact eL.aN
    rw[<-vi];push_cast -dsimp;refine aF (xt:=74) (n:=3) (by kernel_rfl) Ca rfl (by decide) (by simp;exact⟨rfl,rfl,rfl⟩) ?_;intro wb cX;have Cb:aO wb kb 74 [str [],.int .i64 t1.pos,.pointer none]:=cX.aN;have zb:=cX.size;have k9b:Kept (λi=>i=rb) w9 wb:=(Kept.new (X:=λi=>i=rb) eL).trans cX.kept (λi h1 h2=>by omega);have Pb:RS rb (rb+1) wb l1 none:=(P9.below eL.below).fx cX.kept (λi h=>by omega);push_cast -dsimp;refine aD ?_;push_cast -dsimp;refine aA (qE [99,108,97,115,115] Pb (λ_=>jE) (λe h=>by cases h)) ?_;rintro _ wc ⟨rfl,kc,Q5,l2,Pc,AJ,JF⟩;have Cc:=Cb.kept kc (by omega);have zc:=kc.size;push_cast -dsimp;refine aD ?_;push_cast -dsimp;refine aA (aDa Pc AJ JF) ?_;rintro _ wd ⟨nm,rfl,kd,ET,l3,Pd,hn3,he3⟩;have Cd:=Cc.kept kd (by omega);have zd:=kd.size;push_cast -dsimp;refine aC Cd (by simp) rfl ?_;intro we lN;have Ce:aO we kb 74 [str nm,.int .i64 t1.pos,.pointer none]:=lN.aN;have Pe:=Pd.fx lN.kept (λi h=>by omega);have ze:=lN.size;push_cast -dsimp;refine aD ?_;push_cast -dsimp;refine aA (qE [61] Pe hn3 he3) ?_;rintro _ wf ⟨rfl,kf,aIX,l4,Pf,hn4,he4⟩;have Cf:=Ce.kept kf (by omega);have zf:=kf.size;have k9f:Kept (λi=>i=rb) w9 wf:=(((k9b.trans kc (λi _ h=>h)).trans kd (λi _ h=>h)).trans lN.kept (λi h1 h2=>by omega)).trans kf (λi _ h=>h);push_cast -dsimp
    refine mO [48,49,50,51,52] (λz wx=>∃nK l5 u,RS rb (rb+1) wx l5 nK/\aO wx kb 74 [str nm,.int .i64 t1.pos,.pointer u]/\Kept (λi=>i=rb\/i=kb) wf wx/\(nK=none->∃kd ub,u=rY ub/\eC (λi=>i<wf.heap.size) wx (bF ub) kd/\iX l1=Cae.pb (a7 [59]) (λ_=>pr ⟨nm,t1.pos,kd⟩) l5)/\∀e,nK=some e->iX l1=.error e) ?_ ?_
    ·push_cast -dsimp;refine aA (iW Pf) ?_;rintro _ wg ⟨rfl,bg⟩;have Pg:=Pf.below bg;have Cg:=Cf.below bg Cf.lt;have zg:=bg.size;have kg:Kept (λi=>i=rb\/i=kb) wf wg:=Kept.aJ bg (λi h1 h2=>by have:=Pf.le;omega);cases aIX with
     | some e =>
      push_cast -dsimp;exact⟨some e,l4,none,Pg,Cg,kg,λh=>(by cases h),he4⟩
     | none =>
      push_cast -dsimp;refine aA (aC9 Pg hn4 he4) ?_;rintro _ wh ⟨u,rfl,kh,nK,l5,Ph,mT,NG⟩;have Ch:=Cg.kept kh (by omega);push_cast -dsimp;refine aC Ch (by simp) rfl ?_;intro wi mV;have Ci:aO wi kb 74 [str nm,.int .i64 t1.pos,.pointer u]:=mV.aN;have zh:=kh.size;push_cast -dsimp;refine⟨nK,l5,u,Ph.fx mV.kept (λi h=>by omega),Ci,(kg.trans kh (λi _ h=>.inl h)).trans mV.kept (λi _ h=>.inr h),λh=>?_,NG⟩;obtain⟨kd,ub,e,hV,hX⟩:=mT h;exact⟨kd,ub,e,hV.mono mV.kept (λi h=>by omega) (λi h=>by omega),hX⟩
    rintro z2 wg ⟨nK,l5,u,Pg,Cg,kg,mT,NG⟩;have zg:=kg.size;obtain⟨rM,mT⟩:=Gt (.ref 0 []) mT;refine aD ?_;push_cast -dsimp;refine aA (qE [59] Pg (λh=>by obtain⟨_,_,_,h⟩:=mT h;exact h) NG) ?_;rintro _ wh ⟨rfl,kh,IY,l6,Ph,JO,he6⟩;have Ch:=Cg.kept kh (by omega);have zh:=kh.size;have kw:Kept (λi=>i=rb) w' wh:=(((Kept.aJ b9 (X:=λi=>i=rb) (λi h1 h2=>by omega)).trans k9f (λi _ h=>h)).trans kg (λi h1 h2=>by omega)).trans kh (λi _ h=>h);have Fh:=hF.kept kw (by omega);have Oh:=Ir.ak kw (λg hg h=>by have:=(Ir.block g hg).1;omega);have p9:∀g,cv.ownBlock=some g->ob+1<=g/\g<w'.heap.size:=λg hg=>Ir.block g hg;have hVh:dd (qj (λb=>(b<ob+1\/cv.ownBlock=some b)\/w'.heap.size<=b) wh) cs acc:=hV.imp λa c h=>h.top.mono kw (λi h=>by omega) (λi h=>h);have dh:wh.cell? ⟨ob,0,none⟩=some (.slice ca cq.length cc):=by rw[<-JE];exact Fh.cell rfl
    have dl:aB wh ⟨kb,0,none⟩ 0 3=some [str nm,.int .i64 t1.pos,.pointer u]:=Ch.aB;push_cast -dsimp;refine cC ?_;push_cast -dsimp[dh,dl];refine cY CI rfl rfl (by omega) ?_;intro wi mV;have Fi:=Fh.below mV.below Fh.lt;have Oi:=Oh.new mV;rw[JE]at Oi;have Pi:=Ph.below mV.below;have zi:=mV.size;push_cast -dsimp;refine ae (base:=ob+1) [(nm,t1.pos,u)] (enc:=Ac) CI Oi (by rfl) (λj y hy=>by simpa[Ac] using mV.cell hy) Ma (by simp only[List.length_cons,List.length_nil];omega) (by omega) ?_;intro cv2 wj hOj hgj ie;rw[<-JE]at hgj ie;have kj:Kept (λj=>cv.ownBlock=some j) wi wj:=Kept.grown hgj (λ_ h=>h);have Fj:=Fi.kept kj (λh=>by have:=p9 _ h;omega);have Pj:=Pi.fx kj (λi h=>by have:=p9 _ h;omega);have zj:=kj.size;obtain⟨a5,c5,rfl⟩:=hOj.slice;push_cast -dsimp;refine aC Fj (by simp) rfl ?_;intro wk hwk;have Fk:aO wk ob 25 [.slice a5 (cq++[(nm,t1.pos,u)]).length c5,.slice none 0 0,.bool true]:=hwk.aN;have Ok':=hOj.ak hwk.kept (λg hg h=>by have:=(hOj.block g hg).1;omega);have Pk:=Pj.fx hwk.kept (λi h=>by omega);have kY:Kept (λi=>i=ob\/cv.ownBlock=some i) wh wk:=((Kept.new (X:=λi=>i=ob\/cv.ownBlock=some i) mV).trans kj (λi _ h=>.inr h)).trans hwk.kept (λi _ h=>.inl h);have kk:Kept (λi=>i=rb\/i=ob) w8 wk:=(hk.trans kw (λi _ h=>.inl h)).trans kY (λi h1 h2=>by
     rcases h2 with h2|h2
     ·exact .inr h2
     have:=p9 _ h2;omega)
    have hXk:∀i,(i<ob+1\/(Value.slice a5 (cq++[(nm,t1.pos,u)]).length c5).ownBlock=some i)->(i<ob+1\/cv.ownBlock=some i)\/wh.heap.size<=i:=λi h=>by
     rcases h with h|h
     ·exact .inl (.inl h)
     rcases ie i h with h|h
     ·exact .inl (.inr h)
     exact .inr (by omega)
    push_cast -dsimp;refine⟨⟨IY,l6,_,cq++[(nm,t1.pos,u)],m',⟨Pk,Fk,Ok',λh=>?_,λe h=>?_⟩,λh=>?_,kk⟩,?_⟩
    ·have cD:iX l1=.ok (⟨nm,t1.pos,rM⟩,l6):=JO h;have kU:nK=none:=by
      cases kU:nK with
      | none=>rfl
      | some e=>rw[NG e kU]at cD;cases cD
     obtain⟨ub,rfl,hVu,_⟩:=mT kU;have aBt:=(hVu.mono kh (X':=λi=>i<wf.heap.size) (λi h=>by omega) (λi h=>h)).top;refine⟨acc++[⟨nm,t1.pos,rM⟩],cs++[(nm,t1.pos,ub)],Vt.trans (aG cD),by rw[Hq,List.map_append];rfl,by rw[List.length_append,List.length_singleton];omega,(hVh.imp λa c h=>h.mono kY (λi h=>?_) (λi h=>?_)).snoc ⟨rfl,rfl,aBt.mono kY (λi h=>?_) (λi h=>?_)⟩⟩
     ·rcases h with h|h
      ·exact .inl (.inl (by omega))
      exact .inl (.inr h)
     ·rcases hXk i h with h|h
      ·exact .inl h
      exact .inr (by omega)
     ·rcases h with h|h
      ·exact .inl (by omega)
      have:=p9 _ h;exact .inl (by omega)
     rcases hXk i h with h|h
     ·rcases h with h|h
      ·exact .inl (by omega)
      have:=p9 _ h;exact .inl (by omega)
     exact .inr h
    ·exact Vt.trans (pbe (he6 e h))
    ·have:=yk _ _ _ (JO h);omega
    have h0:=hP.mu;cases jc:IY with
    | none =>
     subst jc
     have:=Pk.mu
     have:=yk _ _ _ (JO rfl);omega
    | some e =>
     subst jc
     have:=Pk.vD;omega
  rintro z V0 ⟨MF,lc,cv,cq,⟨hP0,hF0,Mw,hN0,hB0⟩,JI⟩;obtain⟨acc,hN0⟩:=Gt [] hN0;obtain⟨ca,cc,JE⟩:=Mw.slice;have hz0:=JI.size;have aK3:=hF0.lt;have aQp:=hP0.le;push_cast -dsimp;refine fK (dr ?_);refine kR [9,61,62,63,64,65,66,67,68,69,70,71,72,73,74,75,76,77,78,79,80,81,82,83,84,85,86,87,88,89,90,91,92,93,94,95,96,97,98,99,100,101,102,103,104,105,106,107,108] (λz w'=>∃bad l1 rv rq,aEK X rb (rb+1) ob cv (MF=none) V0.heap.size w' rv rq bad l1 (λee=>Cae.pb ia (λb=>pr ⟨acc,ee,b⟩) l1)/\Kept (λi=>i=rb\/i=ob) V0 w') ?_ ?_
  ·refine jP [9,61,62,63,64,65,66,67,68,69,70,71,72,73,74,75,76,77,78,79,80,81,82,83,84,85,86,87,88,89,90,91,92,93,94,95,96,97,98,99,100,101,102,103,104,105,106,107,108] (λz w'=>∃bad l1 rv rq m,aEK X rb (rb+1) ob cv (MF=none) V0.heap.size w' rv rq bad l1 (λee=>Cae.pb (bA m ee) (λrs=>Cae.pb ia λb=>pr ⟨acc,rs,b⟩) l1)/\(bad=none->l1.length<m)/\Kept (λi=>i=rb\/i=ob) V0 w') (λz w'=>Tx rb w') ?_ ?_
   ·refine⟨MF,lc,_,[],1000,⟨hP0,hF0,Vc.Own.nil (enc:=Ad) _ _ (λ_=>rfl) _,λh=>⟨h,[],[],?_,rfl,by simp,.nil⟩,hB0⟩,λ_=>by have:=hP0.tl.len;omega,Kept.refl _ _⟩;obtain⟨cs,EC,_⟩:=hN0 h;exact EC
   rintro z w' ⟨bad,l1,rv,rq,m,⟨hP,hF,Ir,hN,wD⟩,hm,hk⟩;have hzk:=hk.size;have aGq:=hP.le;refine fK (mO [61,62,63,64,65,66] (λz wx=>z 66=.bool (okB bad && dC l1)/\Below w'.heap.size w' wx) ?_ ?_)
   ·have fO:(okB bad && dC l1)=((okB bad && bI [98,114,101,97,107] l1) || (okB bad && bI [107,101,101,112] l1)):=by unfold dC;cases okB bad<;>rfl
    push_cast -dsimp;refine aA (oU hP [98,114,101,97,107]) ?_;rintro _ wa ⟨rfl,ba⟩;rw[fO];cases eY:(okB bad && bI [98,114,101,97,107] l1) with
    | true =>
     push_cast -dsimp;exact⟨by rw[Bool.true_or],ba⟩
    | false =>
     push_cast -dsimp;refine aA (oU (hP.below ba) [107,101,101,112]) ?_;rintro _ wb ⟨rfl,bb⟩;push_cast -dsimp;exact ba.trans (bb.mono ba.size)
   rintro z3 w9 ⟨h66,b9⟩;have P9:=hP.below b9;have F9:=hF.below b9 hF.lt;have O9:=Ir.below b9;have k9:Kept (λi=>i=rb\/i=ob) V0 w9:=hk.trans (Kept.aJ b9 (X:=λi=>i=rb) (λi h1 h2=>by omega)) (λi _ h=>.inl h);have z9:=b9.size;refine cC ?_;cases hs:(okB bad && dC l1) with
   | false =>
    rw[hs]at h66;push_cast -dsimp[h66];refine⟨bad,l1,rv,rq,⟨P9,F9,O9,λh=>?_,wD⟩,k9⟩;subst h;rw[fT,Bool.true_and]at hs;obtain⟨ti,ee,rs,EC,Hq,lC,hV⟩:=hN rfl;exact⟨ti,ee,rs,EC.trans (Ut (hm rfl) hs),Hq,lC,hV.imp λa c h=>⟨h.1,h.2.1,h.2.2.1.below b9,h.2.2.2.below b9⟩⟩
   | true =>
    rw[hs]at h66;have DA:bad=none:=by
     cases bad with
     | none=>rfl
     | some e=>cases hs
    subst DA;rw[fT,Bool.true_and]at hs;obtain⟨ti,ee,rs,EC,Hq,lC,hV⟩:=hN rfl;have gi:=hm rfl;obtain⟨m',rfl⟩:∃m',m=m'+1:=⟨m-1,by omega⟩;have hVl:=hV.len;have hql:rq.length=ee.length:=by rw[Hq,List.length_map,hVl]
    obtain⟨ra,rc,tj⟩:=Ir.slice;have d0:w9.cell? ⟨ob,1,none⟩=some (.slice ra rq.length rc):=by rw[<-tj];exact F9.cell rfl
    push_cast -dsimp[h66];refine dr (aD ?_);push_cast -dsimp[d0];refine⟨λjQ=>?_,λjQ=>?_⟩
    ·refine aA (bX P9 4 (by decide)) ?_;rintro _ wa ⟨rfl,Pa,ka⟩;push_cast -dsimp;refine⟨_,l1,rv,rq,⟨Pa,F9.kept ka (by omega),O9.ak ka (λg hg h=>by have:=(O9.block g hg).1;omega),λh=>(by cases h),λe h=>?_⟩,k9.trans ka (λi _ h=>.inl h)⟩;cases h;exact EC.trans (OW hs (by omega))
    have jQ:ee.length≠20:=by omega
    have Vt:=EC.trans (OX hs jQ);obtain⟨t1,r1,gy⟩:=P9.cons;have wF:Cae.hd l1=t1:=by rw[gy];rfl
    have ox:=Yc gy hs;have vh:∃Hy,Hy=bI [98,114,101,97,107] l1:=⟨_,rfl⟩;obtain⟨Hy,aBP⟩:=vh;rw[<-aBP]at ox;have lM:iq l1=Cae.pb (j8 9) (λx=>Cae.pb (a7 [58]) λ_=>Cae.pb (j8 9) λy=>Cae.pb (a7 [59]) λ_=>pr ⟨t1.pos,Hy,x,y⟩) r1:=by
     unfold iq;rw[aG (p:=eA) (x:=Cae.hd l1) (l1:=l1) rfl,wF,aG ox.1]
    have ZT:=P9;rw[gy]at ZT;obtain⟨b,o,c,Cv,hc,dA,c0,c1,c2,c3⟩:=ZT.hd;refine aD ?_;push_cast -dsimp;have cla:∀{x y:World},Below x.heap.size x y->(aO x rb 68 (.slice (some ⟨b,o,none⟩) (r1.length+1) c::pN none)/\x.cell? ⟨b,o+2,none⟩=some (.int .i64 t1.pos))->(aO y rb 68 (.slice (some ⟨b,o,none⟩) (r1.length+1) c::pN none)/\y.cell? ⟨b,o+2,none⟩=some (.int .i64 t1.pos)):=λhb h=>⟨h.1.below hb h.1.lt,(hb.cell (World.block_lt_of_cell? _ _ h.2)).trans h.2⟩;refine ZP [9,73,74,75,76,77,78,79,80,81,82] (λz wx=>∃kb,z 9=.pointer (some ⟨kb,0,none⟩)/\w9.heap.size<=kb/\aO wx kb 60 [.int .i64 t1.pos,.bool Hy,.pointer none,.pointer none]/\Below w9.heap.size w9 wx) ?_ ?_
    ·refine Vl (.one 0 (.one 1 (.one 2 (.one 3 (.one 4 (.one 5 (.one 6 (.one 7 (.two 8 (.one 9 (.one 10 (.one 11 .done))) 10 (.one 8 (.one 9 (.one 11 .done)))))))))))) (λar=>aO ar rb 68 (.slice (some ⟨b,o,none⟩) (r1.length+1) c::pN none)/\ar.cell? ⟨b,o+2,none⟩=some (.int .i64 t1.pos)) mixed (by kernel_rfl) ⟨Cv.drew,c2⟩ ?_;have gb:∀ar:World,(aO ar rb 68 (.slice (some ⟨b,o,none⟩) (r1.length+1) c::pN none)/\ar.cell? ⟨b,o+2,none⟩=some (.int .i64 t1.pos))->ar.cell? ⟨rb,0,none⟩=some (.slice (some ⟨b,o,none⟩) (r1.length+1) c):=λar h=>h.1.cell rfl;have db:w9.drew.cell? ⟨rb,0,none⟩=some (.slice (some ⟨b,o,none⟩) (r1.length+1) c):=gb _ ⟨Cv.drew,c2⟩;have dc:w9.drew.cell? ⟨b,o+2,none⟩=some (.int .i64 t1.pos):=c2;have Pd:=P9.below (aS w9);have zd:w9.drew.heap.size=w9.heap.size:=rfl;have iL:b<w9.heap.size:=World.block_lt_of_cell? _ _ c2;push_cast -dsimp[db,dc,Nat.zero_mul,Nat.add_zero];refine⟨λar h=>by rw[gb ar h];exact rfl,by omega,λar h=>by rw[h.2];exact rfl,?_,?_⟩
     ·refine aA (oU Pd [98,114,101,97,107]) ?_;rintro _ wa ⟨rfl,ba⟩;rw[fT,Bool.true_and,<-aBP];have Ka:=cla ba ⟨Cv.drew,c2⟩;have za:=ba.size;refine⟨Ka,?_⟩;push_cast -dsimp;refine aR (z:=[.int .i64 0,.bool false,.pointer none,.pointer none]) (by kernel_rfl) ?_;intro wb cX;have zb:=cX.size;have Kb:=cla cX.below Ka;refine⟨Kb,?_⟩;push_cast -dsimp;refine aF (xt:=60) (n:=4) (by kernel_rfl) cX.aN rfl (by decide) (by simp;exact⟨rfl,rfl,rfl⟩) ?_;intro wc lF;have Kc:=lF.kept;refine⟨⟨Kb.1.kept Kc (by omega),Kc.cell Kb.2 (by show ¬b=wa.heap.size;omega)⟩,?_⟩
      push_cast -dsimp;exact⟨_,rfl,by omega,lF.aN,(((aS w9).trans (ba.mono (by omega))).trans (cX.below.mono (by omega))).trans (Kc.below (B:=w9.heap.size) (by omega) (λi h=>by omega))⟩
     refine aR (z:=[.int .i64 0,.bool false,.pointer none,.pointer none]) (by kernel_rfl) ?_;intro wb cX;have zb:=cX.size;have Kb:=cla cX.below ⟨Cv.drew,c2⟩;refine⟨Kb,?_⟩;push_cast -dsimp;refine aA (oU (Pd.below cX.below) [98,114,101,97,107]) ?_;rintro _ wa ⟨rfl,ba⟩;rw[fT,Bool.true_and,<-aBP];have Ka:=cla ba Kb;have za:=ba.size;refine⟨Ka,?_⟩;push_cast -dsimp;refine aF (xt:=60) (n:=4) (by kernel_rfl) (cX.aN.below ba (by omega)) rfl (by decide) (by simp;exact⟨rfl,rfl,rfl⟩) ?_;intro wc lF;have Kc:=lF.kept;refine⟨⟨Ka.1.kept Kc (by omega),Kc.cell Ka.2 (by show ¬b=w9.drew.heap.size;omega)⟩,?_⟩
     push_cast -dsimp;exact⟨_,rfl,by omega,lF.aN,(((aS w9).trans (cX.below.mono (by omega))).trans (ba.mono (by omega))).trans (Kc.below (B:=w9.heap.size) (by omega) (λi h=>by omega))⟩
    rintro z4 wc ⟨kb,h9,vi,Cc,bc⟩;have Bc:aO wc rb 68 (.slice (some ⟨b,o,none⟩) (r1.length+1) c::pN none):=Cv.below bc Cv.lt;have Pc:=P9.below bc;have k9c:Kept (λi=>i=rb) w9 wc:=Kept.aJ bc (λi h1 h2=>by omega);have zc:=bc.size;have cc:wc.cell? ⟨rb,0,none⟩=some (.slice (some ⟨b,o,none⟩) (r1.length+1) c):=Bc.cell rfl;have aPO:=Cc.lt;push_cast -dsimp[h9];refine aD ?_;push_cast -dsimp[cc,oX];refine⟨by omega,?_⟩;refine aC Bc (by simp) rfl ?_;intro wd ur;rw[gy]at Pc;have Pd2:=Pc.pop Bc ox.2 ur;have Cd:=Cc.kept ur.kept (by omega);have zd2:=ur.size;have k9d:=k9c.trans ur.kept (λi _ h=>h);push_cast -dsimp;refine aD ?_;push_cast -dsimp;refine aA (aAq Pd2 (λ_=>lM) (λe h=>by cases h)) ?_;rintro _ we ⟨u1,rfl,ke,Q5,l2,Pe,AJ,JF⟩;obtain⟨x1,AJ⟩:=Gt aI.any AJ;have Ce:=Cd.kept ke (by omega);have ze:=ke.size;push_cast -dsimp;refine aC Ce (by simp) rfl ?_;intro wf DG;have Cf:aO wf kb 60 [.int .i64 t1.pos,.bool Hy,.pointer u1,.pointer none]:=DG.aN;have Pf:=Pe.fx DG.kept (λi h=>by omega);have zf:=DG.size;push_cast -dsimp;refine aD ?_;push_cast -dsimp;refine aA (qE [58] Pf (λh=>by obtain⟨_,_,_,h⟩:=AJ h;exact h) JF) ?_;rintro _ wg ⟨rfl,kg,ET,l3,Pg,hn3,he3⟩;have Cg:=Cf.kept kg (by omega);have zg:=kg.size;have k9g:Kept (λi=>i=rb) w9 wg:=((k9d.trans ke (λi _ h=>h)).trans DG.kept (λi h1 h2=>by omega)).trans kg (λi _ h=>h);push_cast -dsimp
    refine mO [96,97,98,99,100] (λz wx=>∃nK l5 u,RS rb (rb+1) wx l5 nK/\aO wx kb 60 [.int .i64 t1.pos,.bool Hy,.pointer u1,.pointer u]/\Kept (λi=>i=rb\/i=kb) wg wx/\(nK=none->∃x ub,u=rY ub/\aV (λi=>i<wg.heap.size) wx (bF ub) x/\iq l1=Cae.pb (a7 [59]) (λ_=>pr ⟨t1.pos,Hy,x1,x⟩) l5)/\∀e,nK=some e->iq l1=.error e) ?_ ?_
    ·push_cast -dsimp;refine aA (iW Pg) ?_;rintro _ wh ⟨rfl,bh⟩;have Ph:=Pg.below bh;have Ch:=Cg.below bh Cg.lt;have zh:=bh.size;have kh:Kept (λi=>i=rb\/i=kb) wg wh:=Kept.aJ bh (λi h1 h2=>by have:=Pg.le;omega);cases ET with
     | some e =>
      push_cast -dsimp;exact⟨some e,l3,none,Ph,Ch,kh,λh=>(by cases h),he3⟩
     | none =>
      push_cast -dsimp;refine aA (aAq Ph hn3 he3) ?_;rintro _ wi ⟨u,rfl,ki,nK,l5,Pi,mT,NG⟩;have Ci:=Ch.kept ki (by omega);have zi:=ki.size;push_cast -dsimp;refine aC Ci (by simp) rfl ?_;intro wj qx;have Cj:aO wj kb 60 [.int .i64 t1.pos,.bool Hy,.pointer u1,.pointer u]:=qx.aN;push_cast -dsimp;refine⟨nK,l5,u,Pi.fx qx.kept (λi h=>by omega),Cj,(kh.trans ki (λi _ h=>.inl h)).trans qx.kept (λi _ h=>.inr h),λh=>?_,NG⟩;obtain⟨x,ub,e,hV,hX⟩:=mT h;exact⟨x,ub,e,hV.mono qx.kept (λi h=>by omega) (λi h=>by omega),hX⟩
    rintro z2 wh ⟨nK,l5,u,Ph,Ch,kh,mT,NG⟩;have zh:=kh.size;obtain⟨x2,mT⟩:=Gt aI.any mT;refine aD ?_;push_cast -dsimp;refine aA (qE [59] Ph (λh=>by obtain⟨_,_,_,h⟩:=mT h;exact h) NG) ?_;rintro _ wi ⟨rfl,ki,IY,l6,Pi,JO,he6⟩;have Ci:=Ch.kept ki (by omega);have zi:=ki.size;have kw:Kept (λi=>i=rb) w' wi:=(((Kept.aJ b9 (X:=λi=>i=rb) (λi h1 h2=>by omega)).trans k9g (λi _ h=>h)).trans kh (λi h1 h2=>by omega)).trans ki (λi _ h=>h);have Fi:=hF.kept kw (by omega);have Oi:=Ir.ak kw (λg hg h=>by have:=(Ir.block g hg).1;omega);have p9:∀g,rv.ownBlock=some g->V0.heap.size<=g/\g<w'.heap.size:=λg hg=>Ir.block g hg;have hVh:dd (kG (λb=>(b<V0.heap.size\/rv.ownBlock=some b)\/w'.heap.size<=b) wi) rs ee:=hV.imp λa c h=>h.top.mono kw (λi h=>by omega) (λi h=>h);have dh:wi.cell? ⟨ob,1,none⟩=some (.slice ra rq.length rc):=by rw[<-tj];exact Fi.cell rfl
    have dl:aB wi ⟨kb,0,none⟩ 0 4=some [.int .i64 t1.pos,.bool Hy,.pointer u1,.pointer u]:=Ci.aB;push_cast -dsimp;refine cC ?_;push_cast -dsimp[dh,dl];refine cY mw rfl rfl (by omega) ?_;intro wj qx;have Fj:=Fi.below qx.below Fi.lt;have Oj:=Oi.new qx;rw[tj]at Oj;have Pj:=Pi.below qx.below;have zj:=qx.size;push_cast -dsimp;refine ae (base:=V0.heap.size) [(t1.pos,Hy,u1,u)] (enc:=Ad) mw Oj (by rfl) (λj y hy=>by simpa[Ad] using qx.cell hy) Mb (by simp only[List.length_cons,List.length_nil];omega) (by omega) ?_;intro rv2 wk hOk hgk ie;rw[<-tj]at hgk ie;have kj:Kept (λj=>rv.ownBlock=some j) wj wk:=Kept.grown hgk (λ_ h=>h);have Fk:=Fj.kept kj (λh=>by have:=p9 _ h;omega);have Pk:=Pj.fx kj (λi h=>by have:=p9 _ h;omega);have zk:=kj.size;obtain⟨a5,c5,rfl⟩:=hOk.slice;push_cast -dsimp;refine aC Fk (by simp) rfl ?_;intro wl hwl;have Fl:aO wl ob 25 [cv,.slice a5 (rq++[(t1.pos,Hy,u1,u)]).length c5,.bool true]:=hwl.aN;have Ol:=hOk.ak hwl.kept (λg hg h=>by have:=(hOk.block g hg).1;omega);have Pl:=Pk.fx hwl.kept (λi h=>by omega);have kY:Kept (λi=>i=ob\/rv.ownBlock=some i) wi wl:=((Kept.new (X:=λi=>i=ob\/rv.ownBlock=some i) qx).trans kj (λi _ h=>.inr h)).trans hwl.kept (λi _ h=>.inl h);have kk:Kept (λi=>i=rb\/i=ob) V0 wl:=(hk.trans kw (λi _ h=>.inl h)).trans kY (λi h1 h2=>by
     rcases h2 with h2|h2
     ·exact .inr h2
     have:=p9 _ h2;omega)
    have hXk:∀i,(i<V0.heap.size\/(Value.slice a5 (rq++[(t1.pos,Hy,u1,u)]).length c5).ownBlock=some i)->(i<V0.heap.size\/rv.ownBlock=some i)\/wi.heap.size<=i:=λi h=>by
     rcases h with h|h
     ·exact .inl (.inl h)
     rcases ie i h with h|h
     ·exact .inl (.inr h)
     exact .inr (by omega)
    push_cast -dsimp;refine⟨⟨IY,l6,_,rq++[(t1.pos,Hy,u1,u)],m',⟨Pl,Fl,Ol,λh=>?_,λe h=>?_⟩,λh=>?_,kk⟩,?_⟩
    ·have cD:iq l1=.ok (⟨t1.pos,Hy,x1,x2⟩,l6):=JO h;have kU:nK=none:=by
      cases kU:nK with
      | none=>rfl
      | some e=>rw[NG e kU]at cD;cases cD
     have eW:Q5=none:=by
      cases eW:Q5 with
      | none=>rfl
      | some e=>rw[JF e eW]at cD;cases cD
     obtain⟨ub,rfl,hVu,_⟩:=AJ eW;obtain⟨vb,rfl,hVv,_⟩:=mT kU;have aBt:aV (λi=>i<wd.heap.size\/we.heap.size<=i) wi (bF ub) x1:=(((hVu.top.mono DG.kept (X':=λi=>i<wd.heap.size\/we.heap.size<=i) (λi h=>by omega) (λi h=>h)).mono kg (X':=λi=>i<wd.heap.size\/we.heap.size<=i) (λi h=>by omega) (λi h=>h)).mono kh (X':=λi=>i<wd.heap.size\/we.heap.size<=i) (λi h=>by omega) (λi h=>h)).mono ki (λi h=>by omega) (λi h=>h);have aJ3:=(hVv.mono ki (X':=λi=>i<wg.heap.size) (λi h=>by omega) (λi h=>h)).top;refine⟨ti,ee++[⟨t1.pos,Hy,x1,x2⟩],rs++[(t1.pos,Hy,ub,vb)],Vt.trans (aG cD),by rw[Hq,List.map_append];rfl,by rw[List.length_append,List.length_singleton];omega,(hVh.imp λa c h=>h.mono kY (λi h=>?_) (λi h=>?_)).snoc ⟨rfl,rfl,aBt.mono kY (λi h=>?_) (λi h=>?_),aJ3.mono kY (λi h=>?_) (λi h=>?_)⟩⟩
     ·rcases h with h|h
      ·exact .inl (.inl (by omega))
      exact .inl (.inr h)
     ·rcases hXk i h with h|h
      ·exact .inl h
      exact .inr (by omega)
     ·rcases h with h|h
      ·exact .inl (by omega)
      have:=p9 _ h;exact .inl (by omega)
     ·rcases hXk i h with h|h
      ·rcases h with h|h
       ·exact .inl (by omega)
       have:=p9 _ h;exact .inl (by omega)
      exact .inr (by omega)
     ·rcases h with h|h
      ·exact .inl (by omega)
      have:=p9 _ h;exact .inl (by omega)
     rcases hXk i h with h|h
     ·rcases h with h|h
      ·exact .inl (by omega)
      have:=p9 _ h;exact .inl (by omega)
     exact .inr h
    ·exact Vt.trans (pbe (he6 e h))
    ·have:=qa _ _ _ (JO h);omega
    have h0:=hP.mu;cases jc:IY with
    | none =>
     subst jc
     have:=Pl.mu
     have:=qa _ _ _ (JO rfl);omega
    | some e =>
     subst jc
     have:=Pl.vD;omega
  rintro z V1 ⟨bad,l1,rv,rq,⟨hP,hF,Ir,hN,wD⟩,hk⟩;have hzk:=hk.size;have aGq:=hP.le;have aNq:=hF.lt;push_cast -dsimp;have hR1:=((R8.kept JI (by omega)).kept hk (by omega));have hE1:=((E8.kept JI (by omega)).kept hk (by omega));have de:=kW.trans ((JI.trans hk (λi _ h=>h)).below (B:=w.heap.size) kW.size (λi h=>by omega));obtain⟨ee,hN⟩:=Gt [] (R:=λee=>MF=none/\∃rs,X=Cae.pb ia (λb=>pr ⟨acc,ee,b⟩) l1/\rq=rs.map rQ/\rq.length<=20/\dd (kG (λb=>b<V0.heap.size\/rv.ownBlock=some b) V1) rs ee) (λh=>by
   obtain⟨h0,a,h⟩:=hN h;exact⟨a,h0,h⟩)
  refine mO [109,110,111,112,113,114,115,116,117,118] (λz wx=>∃bad l2 els,RS rb (rb+1) wx l2 bad/\aO wx ob 25 [cv,rv,.bool els]/\(bad=none->X=.ok (⟨acc,ee,els⟩,l2))/\(∀e,bad=some e->X=.error e)/\Kept (λi=>i=rb\/i=ob) V1 wx) ?_ ?_
  ·refine(λh=>h) ?_;push_cast -dsimp;refine aA (fB hP [101,108,115,101]) ?_;rintro _ wa hT;rcases hT with ⟨rfl,GN,rfl,t3,l3,el3,h53,Vm,kt3⟩|⟨GN,rfl,Vm,b3'⟩
   ·obtain⟨ti,rs,EC,_⟩:=hN rfl;have ew:bV l1=.ok ((),l3):=by rw[el3];exact bB h53
    have hX3:X=Cae.pb ep (λb=>Cae.pb (a7 [59]) λ_=>pr ⟨acc,ee,b⟩) l3:=by
     have AG:ia l1=Cae.pb ep (λb=>Cae.pb (a7 [59]) λ_=>pr b) l3:=by
      unfold ia bE;rw[GN,if_pos rfl,aG ew]
     have e2:Cae.pb ia (λb=>pr (⟨acc,ee,b⟩:dQ)) l1=Cae.pb (Cae.pb ep (λb=>Cae.pb (a7 [59]) λ_=>pr b)) (λb=>pr ⟨acc,ee,b⟩) l3:=by
      unfold Cae.pb at AG ⊢
      rw[AG]
     rw[EC,e2,Gs];congr 1;funext b;exact funext λl=>Gs _ _ _ l
    have F3':=hF.kept kt3 (by omega);have N9:Kept (λi=>i=rb\/i=ob) V1 wa:=kt3.weaken (λi _ h=>.inl h);push_cast -dsimp;refine aA (fB Vm [98,114,101,97,107]) ?_;rintro _ wb hT;rcases hT with ⟨_,Hv,rfl,t4,l4,tz,h54,K8,kt4⟩|⟨Hv,rfl,K8,b4'⟩
    ·have TD:bV l3=.ok ((),l4):=by rw[tz];exact bB h54
     have ox:ep l3=.ok (true,l4):=by
      unfold ep bE;rw[Hv,if_pos rfl,aG TD];rfl
     have F4':=F3'.kept kt4 (by omega);push_cast -dsimp;refine aA (qE [59] K8 (λ_=>hX3.trans (aG ox)) (λe h=>by cases h)) ?_;rintro _ wc ⟨rfl,kc,nK,l5,P5,mT,NG⟩;push_cast -dsimp;exact⟨nK,l5,true,P5,F4'.kept kc (by omega),mT,NG,(N9.trans kt4 (λi _ h=>.inl h)).trans kc (λi _ h=>.inl h)⟩
    rw[fT,Bool.true_and]at Hv;have hX4:X=Cae.pb (a7 [107,101,101,112]) (λ_=>Cae.pb (a7 [59]) λ_=>pr ⟨acc,ee,false⟩) l3:=by
     have AN:ep l3=Cae.pb (a7 [107,101,101,112]) (λ_=>pr false) l3:=by
      unfold ep bE;rw[Hv];rfl
     rw[hX3];have e2:Cae.pb ep (λb=>Cae.pb (a7 [59]) λ_=>pr (⟨acc,ee,b⟩:dQ)) l3=Cae.pb (Cae.pb (a7 [107,101,101,112]) (λ_=>pr false)) (λb=>Cae.pb (a7 [59]) λ_=>pr ⟨acc,ee,b⟩) l3:=yY AN;rw[e2,Gs];rfl
    have F4':=F3'.below b4' F3'.lt;have k4':Kept (λi=>i=rb\/i=ob) V1 wb:=N9.trans (Kept.aJ b4' (X:=λi=>i=rb\/i=ob) (λi h1 h2=>by have:=Vm.le;omega)) (λi _ h=>h);push_cast -dsimp;refine aA (qE [107,101,101,112] K8 (λ_=>hX4) (λe h=>by cases h)) ?_;rintro _ wc ⟨rfl,kc,nK,l5,P5,mT,NG⟩;have F5:=F4'.kept kc (by omega);push_cast -dsimp;refine aC F5 (by simp) rfl ?_;intro wd ur;have F6:aO wd ob 25 [cv,rv,.bool false]:=ur.aN;push_cast -dsimp;refine aA (qE [59] (P5.fx ur.kept (λi h=>by omega)) mT NG) ?_;rintro _ we ⟨rfl,ke,IY,l6,P6,JO,he6⟩;push_cast -dsimp;exact⟨IY,l6,false,P6,F6.kept ke (by omega),JO,he6,((k4'.trans kc (λi _ h=>.inl h)).trans ur.kept (λi _ h=>.inr h)).trans ke (λi _ h=>.inl h)⟩
   push_cast -dsimp;refine⟨bad,l1,true,Vm,hF.below b3' hF.lt,λh=>?_,wD,Kept.aJ b3' (λi h1 h2=>by omega)⟩;subst h;rw[fT,Bool.true_and]at GN;obtain⟨ti,rs,EC,_⟩:=hN rfl;have AG:ia l1=.ok (true,l1):=by
    unfold ia bE;rw[GN];rfl
   rw[EC,aG AG];rfl
  rintro z2 V2 ⟨aAE,l2,els,P2,F2,Vt,JF,k2⟩;have hz2:=k2.size;obtain⟨t1,r1,gy⟩:=P2.cons;have P2':=P2;rw[gy]at P2';obtain⟨b,o,c,Cv,hc,dA,c0,c1,c2,c3⟩:=P2'.hd;have cb:V2.cell? ⟨rb,0,none⟩=some (.slice (some ⟨b,o,none⟩) (r1.length+1) c):=Cv.cell rfl;have Kw:isKind 5 l2=decide (t1.kind=5):=by
   rw[gy]
   show (t1.kind == 5)=_
   by_cases h:t1.kind=5<;>simp[h]
  have hpE:∀e,X=.error e->dM s=.error e:=λe h=>by
   unfold dM;rw[uQ];dsimp only;rw[<-hX,h]
  have hpO:X=.ok (⟨acc,ee,els⟩,l2)->dM s=if isKind 5 l2 then .ok ⟨acc,ee,els⟩ else .error (3,(Cae.hd l2).pos):=λh=>by
   unfold dM;rw[uQ];dsimp only;rw[<-hX,h]
  refine mO [119,120,121,122,123,124,125,126,127,128] (λz wx=>∃ET,RS rb (rb+1) wx l2 ET/\Kept (λi=>i=rb) V2 wx/\(ET=none->dM s=.ok ⟨acc,ee,els⟩/\aAE=none)/\∀e,ET=some e->dM s=.error e) ?_ ?_
  ·refine(λh=>h) ?_;push_cast -dsimp[cb,c0];refine⟨by omega,λh5=>?_,λh5=>?_⟩
   ·refine aA (bX P2 3 (by decide)) ?_;rintro _ wa ⟨rfl,Pa,ka⟩;push_cast -dsimp;refine⟨_,Pa,ka,λh=>(by cases h),λe h=>?_⟩;cases h;cases bC:aAE with
    | some e0=>exact hpE _ (JF _ bC)
    | none =>
     rw[hpO (Vt bC),Kw,decide_eq_false (λh=>h5 (by omega))];rfl
   refine⟨aAE,P2,Kept.refl _ _,λh=>⟨?_,h⟩,λe h=>hpE _ (JF _ h)⟩;rw[hpO (Vt h),Kw,decide_eq_true (by omega)];rfl
  rintro z3 V3 ⟨ET,P3,k3,cD,pE⟩;have JU:=k3.size;have kV:Kept (λi=>i=rb\/i=ob) V1 V3:=k2.trans k3 (λi _ h=>.inl h);refine cC ?_;push_cast -dsimp;refine aA (iW P3) ?_;rintro _ V4 ⟨rfl,b4⟩;have P4:=P3.below b4;have xq:=b4.size;have kV4:Kept (λi=>i=rb\/i=ob) V1 V4:=kV.trans (Kept.aJ b4 (X:=λi=>i=rb\/i=ob) (λi h1 h2=>by omega)) (λi _ h=>h);have R4:=hR1.kept kV4 (by omega);have E4:=hE1.kept kV4 (by omega);have F4:=(F2.kept k3 (by omega)).below b4 (F2.kept k3 (by omega)).lt;have fo:=de.trans (kV4.below (B:=w.heap.size) de.size (λi h=>by omega));obtain⟨vP,BP,_⟩:=P4.st;cases ET with
  | some e =>
   obtain⟨en,pos⟩:=e;have gP:∀ar:World,aO ar rb 68 (vP::pN (some (en,pos)))->aB ar ⟨rb,1,none⟩ 0 2=some [.int .i64 (en:Int),.int .i64 (pos:Int)]:=λar h=>Bu (n:=2) h 1 rfl rfl;have dP:=gP _ BP.drew;push_cast -dsimp;refine aX (λar=>aO ar rb 68 (vP::pN (some (en,pos)))) mixed (by kernel_rfl) BP.drew ?_;push_cast -dsimp[dP];refine⟨λar h=>by rw[gP ar h];exact rfl,?_⟩;refine aF (xt:=25) (n:=3) (by kernel_rfl) R4.drew rfl (by decide) (by simp;exact⟨rfl,rfl⟩) ?_;intro w9 mC;have B9:=BP.drew.kept mC.kept (by omega);refine⟨B9,?_⟩;push_cast -dsimp;refine aF (xt:=28) (n:=2) (by kernel_rfl) (E4.drew.kept mC.kept (by omega)) rfl (by decide) (by simp;exact⟨rfl,rfl⟩) ?_;intro wa eL;have R5:aO wa w.heap.size 25 [.slice none 0 0,.slice none 0 0,.bool false]:=aO.kept mC.aN eL.kept (by omega);have E5:aO wa eb 28 [.int .i64 (en:Int),.int .i64 (pos:Int)]:=eL.aN;have dR:aB wa ⟨w.heap.size,0,none⟩ 0 3=some [.slice none 0 0,.slice none 0 0,.bool false]:=R5.aB;have dE:aB wa ⟨eb,0,none⟩ 0 2=some [.int .i64 (en:Int),.int .i64 (pos:Int)]:=E5.aB;have bz:=fo.trans ((((Kept.refl (λi=>w.heap.size<=i) V4).drew.trans mC.kept (λi _ h=>by omega)).trans eL.kept (λi _ h=>by omega)).below (B:=w.heap.size) fo.size (λi h=>h));refine⟨B9.kept eL.kept (by omega),?_⟩;push_cast -dsimp[dR,dE];exact⟨.inr ⟨en,pos,pE _ rfl,P4.ne _ rfl,rfl⟩,bz⟩
  | none =>
   obtain⟨hpo,rfl⟩:=cD rfl;have hXo:=Vt rfl;have ti:MF=none:=by
    cases ti:MF with
    | none=>rfl
    | some e=>rw[hB0 e ti]at hXo;cases hXo
   have DA:bad=none:=by
    cases DA:bad with
    | none=>rfl
    | some e=>rw[wD e DA]at hXo;cases hXo
   obtain⟨cs,_,Hq,_,hVc⟩:=hN0 ti;obtain⟨_,rs,_,hrq,_,hVr⟩:=hN DA;have hgw:=hg.below fo;have gF:=aL hgw;have Zc:aB V4.drew ⟨0,0,none⟩ 0 2=some [.int .i64 0,.int .i64 (-1)]:=gF;obtain⟨ca,cc,JE⟩:=Mw.slice;obtain⟨ra,rc,tj⟩:=Ir.slice;rw[JE,tj]at F4;have gO:∀ar:World,aO ar ob 25 [.slice ca cq.length cc,.slice ra rq.length rc,.bool els]->aB ar ⟨ob,0,none⟩ 0 3=some [.slice ca cq.length cc,.slice ra rq.length rc,.bool els]:=λar h=>h.aB;have dO:=gO _ F4.drew;have hFl:0<w.heap.size:=World.block_lt_of_cell? _ _ hg.f0;push_cast -dsimp;refine aX (λar=>aO ar ob 25 [.slice ca cq.length cc,.slice ra rq.length rc,.bool els]/\aB ar ⟨0,0,none⟩ 0 2=some [.int .i64 0,.int .i64 (-1)]) mixed (by kernel_rfl) ⟨F4.drew,Zc⟩ ?_;push_cast -dsimp[dO,Zc];refine⟨λar h=>by rw[gO ar h.1];exact rfl,λar h=>by rw[h.2];exact rfl,?_⟩;refine aF (xt:=25) (n:=3) (by kernel_rfl) R4.drew rfl (by decide) (by simp;exact⟨rfl,rfl,rfl⟩) ?_;intro w9 mC;have B9:=F4.drew.kept mC.kept (by omega);have b9:=fo.trans (((Kept.refl (λi=>w.heap.size<=i) V4).drew.trans mC.kept (λi _ h=>by omega)).below (B:=w.heap.size) fo.size (λi h=>h));refine⟨⟨B9,aL (hg.below b9)⟩,?_⟩;push_cast -dsimp;refine aF (xt:=28) (n:=2) (by kernel_rfl) (E4.drew.kept mC.kept (by omega)) rfl (by decide) (by simp;exact⟨rfl,rfl⟩) ?_;intro wa eL;have R5:aO wa w.heap.size 25 [.slice ca cq.length cc,.slice ra rq.length rc,.bool els]:=aO.kept mC.aN eL.kept (by omega);have E5:aO wa eb 28 [.int .i64 0,.int .i64 (-1)]:=eL.aN
   have dR:aB wa ⟨w.heap.size,0,none⟩ 0 3=some [.slice ca cq.length cc,.slice ra rq.length rc,.bool els]:=R5.aB;have dE:aB wa ⟨eb,0,none⟩ 0 2=some [.int .i64 0,.int .i64 (-1)]:=E5.aB;have ba:=b9.trans (eL.kept.below (B:=w.heap.size) b9.size (λi h=>by omega));refine⟨⟨B9.kept eL.kept (by omega),aL (hg.below ba)⟩,?_⟩;push_cast -dsimp[dR,dE];have kz1:Kept (λi=>i<ob+1) V1 wa:=((((kV4.weaken (Y:=λi=>i<ob+1) (λi _ h=>by omega))).drew.trans mC.kept (λi _ h=>by omega))).trans eL.kept (λi _ h=>by omega);have kz0:Kept (λi=>i<ob+1) V0 wa:=(hk.weaken (Y:=λi=>i<ob+1) (λi _ h=>by omega)).trans kz1 (λi _ h=>h);have s1:Sl (·<w.heap.size) 3 (En uA) wa (.slice ca cq.length cc) cs:=by
    have hh:=(Mw.ak kz0 (λg hg h=>by have:=(Mw.block g hg).1;omega)).sl;rw[JE,Hq]at hh;rw[Hq];exact(Sl.Z5 (f:=cQ) (λ_=>rfl) hh).weaken (λi h=>by omega)
   have s2:Sl (·<w.heap.size) 4 (En gv) wa (.slice ra rq.length rc) rs:=by
    have hh:=(Ir.ak kz1 (λg hg h=>by have:=(Ir.block g hg).1;omega)).sl;rw[tj,hrq]at hh;rw[hrq];exact(Sl.Z5 (f:=rQ) (λ_=>rfl) hh).weaken (λi h=>by omega)
   exact⟨.inl ⟨_,_,hpo,rfl,_,_,cs,rs,rfl,s1,s2,hVc.imp λa c h=>h.mono kz0 (λi h=>.inl h) (λi h=>.inl (by omega)),hVr.imp λa c h=>h.mono kz1 (λi h=>.inl (by omega)) (λi h=>.inl (by omega))⟩,ba⟩
 push_cast -dsimp;refine aR (z:=[.int .i64 0,.int .i64 0]) (by kernel_rfl) ?_;intro w4 aj;have z4:=aj.size;push_cast -dsimp;refine aF (xt:=28) (n:=2) (by kernel_rfl) aj.aN rfl (by decide) (by simp;exact⟨rfl,rfl⟩) ?_;intro w5 bW;have F5:aO w5 w3.heap.size 28 [.int .i64 en,.int .i64 pos]:=bW.aN;have z5:=bW.size;have Hl:Below w3.heap.size w3 w5:=aj.below.trans (bW.kept.below (B:=w3.heap.size) (by omega) (λi h=>by omega));have kU:=ft.trans (Hl.mono ft.size);have rh:=hg.below kU;have d5:aB w5 ⟨w3.heap.size,0,none⟩ 0 2=some [.int .i64 en,.int .i64 pos]:=F5.aB;have g5:=aL rh;have R5:=R3.below Hl (by omega);have E5:=E3.below Hl (by omega);have hpe:dM s=.error (en,pos):=by unfold dM;rw[uQ]
 push_cast -dsimp;refine aD ?_;push_cast -dsimp[d5,g5];refine⟨λ_=>?_,λh=>(h (λhh=>hh.2)).elim⟩;refine aX (λar=>aB ar ⟨w3.heap.size,0,none⟩ 0 2=some [.int .i64 en,.int .i64 pos]) mixed (by kernel_rfl) d5 ?_;have d5d:aB w5.drew ⟨w3.heap.size,0,none⟩ 0 2=some [.int .i64 en,.int .i64 pos]:=d5;push_cast -dsimp[d5d];refine⟨λar h=>by rw[h];exact rfl,?_⟩;refine aF (xt:=25) (n:=3) (by kernel_rfl) R5.drew rfl (by decide) (by simp;exact⟨rfl,rfl⟩) ?_;intro w9 mC;have F9:=F5.drew.kept mC.kept (by omega);refine⟨F9.aB,?_⟩;push_cast -dsimp;refine aF (xt:=28) (n:=2) (by kernel_rfl) (E5.drew.kept mC.kept (by omega)) rfl (by decide) (by simp;exact⟨rfl,rfl⟩) ?_;intro wa eL;have R6:aO wa w.heap.size 25 [.slice none 0 0,.slice none 0 0,.bool false]:=aO.kept mC.aN eL.kept (by omega);have E6:aO wa eb 28 [.int .i64 (en:Int),.int .i64 (pos:Int)]:=eL.aN;have dR:aB wa ⟨w.heap.size,0,none⟩ 0 3=some [.slice none 0 0,.slice none 0 0,.bool false]:=R6.aB;have dE:aB wa ⟨eb,0,none⟩ 0 2=some [.int .i64 (en:Int),.int .i64 (pos:Int)]:=E6.aB;have bz:=kU.trans ((((Kept.refl (λi=>w.heap.size<=i) w5).drew.trans mC.kept (λi _ h=>by omega)).trans eL.kept (λi _ h=>by omega)).below (B:=w.heap.size) kU.size (λi h=>h));refine⟨(F9.kept eL.kept (by omega)).aB,?_⟩;push_cast -dsimp[dR,dE];exact⟨.inr ⟨en,pos,hpe,dA,rfl⟩,bz⟩
theorem Sl.YP {α:Type}{X:Nat->Prop}{k:Nat}{R:List Value->α->Prop}{w:World}:Sl X k R w (.slice none 0 0) ([]:List α):=by
 unfold Sl;exact⟨none,0,rfl,Nat.le_refl _,λi x h=>by simp at h⟩
def IG (w:World)(v:Value)(n p:Int):Prop:=(v=.nilIface/\n=0/\p = -1)\/nz w v n p
theorem IG.below {w w':World}{v:Value}{n p:Int}(h:IG w v n p)(hk:Below w.heap.size w w'):IG w' v n p:=h.imp id λh=>h.below hk
theorem UX (v:Value)(n p:Int)(w:World)(hE:kX w)(hv:IG w v n p):bD Tryz.prog 34 [v] w λr w'=>r=.tuple #[.int .i64 n,.int .i64 p]/\Below w.heap.size w w':=by
 rcases hv with ⟨rfl,rfl,rfl⟩|hv
 ·exact(UW w).mono λr w' ⟨h,hw⟩=>⟨h,by subst hw;exact Below.refl _ _⟩
 exact Y1 v n p w hE hv
theorem aCi (v:Value)(n p a b:Int)(w:World)(hE:kX w)(hv:IG w v n p):bD Tryz.prog 7 [v,.agg #[.int .i64 a,.int .i64 b]] w λr w'=>r=.bool (decide (n=a/\p=b))/\Below w.heap.size w w':=by
 refine aE Tryz.func7 rfl (by kernel_rfl) [4] rfl ?_;push_cast -dsimp(maxSteps:=4000000) [Tryz.ntmps7];refine ah ?_;intro w1 au;push_cast -dsimp;refine aA (UX v n p w1 ((Kept.new au (X:=λ_=>False)).cell hE id) (hv.below au.below)) ?_;rintro _ w2 ⟨rfl,eW⟩;have c0:w2.cell? ⟨w.heap.size,0,none⟩=some (.int .i64 a):=(eW.cell (by have:=au.size;show w.heap.size<_;omega)).trans (au.cell rfl)
 have c1:w2.cell? ⟨w.heap.size,1,none⟩=some (.int .i64 b):=(eW.cell (by have:=au.size;show w.heap.size<_;omega)).trans (au.cell rfl)
 push_cast -dsimp[c0,c1];have hb:Below w.heap.size w w2:=au.below.trans (eW.mono (by have:=au.size;omega));constructor
 ·intro h;subst h;exact⟨by simp,hb⟩
 intro h;exact⟨by simp[h],hb⟩
theorem DJ {w w':World}(h:Below w.heap.size w w')(hE:kX w):kX w':=(Kept.aJ h (X:=λ_=>False) (λk hk hl=>by omega)).cell hE id
end Go.Proofs.YtodeeahdhnjpkaaGreatDoor
end
section
namespace Cae
def fileOf (s:List UInt8):dQ:=match dM s with
 | .ok f=>f
 | .error _=>⟨[],[],false⟩
def fr (s:List UInt8):Int×Int:=match dM s with
 | .ok _=>(0,-1)
 | .error (e,p)=>((e:Int),(p:Int))
theorem Gu {f:dQ}{r:cW}(hr:r∈f.rules):pn r.before<=(lu f).length+5/\pn r.after<=(lu f).length+5:=by
 have h1:=Mp fz hr;have h2:=aDc r;have h3:(f.rules.flatMap fz).length<=(lu f).length:=by simp only[lu,List.length_append];omega
 have h4:=LZ r.before;have h5:=LZ r.after;have NO:pn r.before=(al r.before 2).length+3:=rfl;have NP:pn r.after=(al r.after 2).length+3:=rfl;omega
end Cae
namespace Go.Proofs.YtodeeahdhnjpkaaGreatDoor
open Go.Vc Go.Proofs Go.RowKit Cae
attribute [local irreducible] cw ag aq a8 runK bD Sl Vc.Own vc aW cN ai
theorem Mo (s:List UInt8)(hs:s.length<=1000000):rV (fileOf s)/\(fileOf s).bJ.length<=20/\(fileOf s).rules.length<=20/\∀r∈(fileOf s).rules,pn r.before<=100000000/\pn r.after<=100000000:=by
 unfold fileOf;cases h:dM s with
 | error e =>
  dsimp only;exact⟨⟨λc hc=>(by cases hc),λr hr=>(by cases hr)⟩,Nat.zero_le _,Nat.zero_le _,λr hr=>by cases hr⟩
 | ok f =>
  dsimp only;have h1:=UR hs h;have h2:=HY h;exact⟨h1.1,h1.2.1,h1.2.2,λr hr=>by have:=Gu hr;omega⟩
def QG (w w':World)(s:List UInt8)(v:Value):Prop:=∃cv rv,(∃a k c,cv=.slice a k c)/\(∃a k c,rv=.slice a k c)/\v=.agg #[cv,rv,.bool (fileOf s).els]/\gn (·<w.heap.size) w' v (fileOf s)
theorem tT {w w':World}{s:List UInt8}{v:Value}(h:gn (·<w.heap.size) w' v (fileOf s)):QG w w' s v:=by
 obtain⟨cv,rv,cs,rs,rfl,S1,S2,A1,A2⟩:=h;obtain⟨ca,cc,hc,_⟩:=S1.shape;obtain⟨ra,rc,hr,_⟩:=S2.shape;exact⟨cv,rv,⟨_,_,_,hc⟩,⟨_,_,_,hr⟩,rfl,cv,rv,cs,rs,rfl,S1,S2,A1,A2⟩
theorem xQ (X:Nat->Prop)(w:World):gn X w (.agg #[.slice none 0 0,.slice none 0 0,.bool false]) ⟨[],[],false⟩:=⟨_,_,[],[],rfl,Sl.YP,Sl.YP,.nil,.nil⟩
theorem Ya {w w':World}{s:List UInt8}{r:Value}(h:QF w s r w'):∃v,r=.tuple #[v,.agg #[.int .i64 (fr s).1,.int .i64 (fr s).2]]/\QG w w' s v:=by
 rcases h with ⟨f,v,hp,rfl,hv⟩|⟨e,p,hp,_,rfl⟩
 ·have hf:fileOf s=f:=by unfold fileOf;rw[hp]
  have hq:fr s=(0,-1):=by unfold fr;rw[hp]
  rw[hq];exact⟨v,rfl,tT (by rw[hf];exact hv)⟩
 have hf:fileOf s=⟨[],[],false⟩:=by unfold fileOf;rw[hp]
 have hq:fr s=((e:Int),(p:Int)):=by unfold fr;rw[hp]
 rw[hq];exact⟨_,rfl,tT (by rw[hf];exact xQ _ _)⟩
end Go.Proofs.YtodeeahdhnjpkaaGreatDoor
end
section
set_option linter.unusedSectionVars false
namespace Go.Vc
open Go.RowKit
section
variable {P:Program} {α:Type} [DecidableEq α] {key:α->Value}
theorem UJ (d x ty pos af g){t:Fr}{w:World}{K:VK}{Q:EP}(p):cN P ⟨d,.next x false,ty,pos,af,g⟩ t w K Q p=aq P (Instr.next (ev t x) false ty) t w K Q .mk:=(rfl)
theorem Ny (d x ty pos af g){t:Fr}{w:World}{K:VK}{Q:EP}(p):cN P ⟨d,.entry x,ty,pos,af,g⟩ t w K Q p=aq P (Instr.entry (ev t x)) t w K Q .mk:=(rfl)
attribute [push_cast] UJ Ny
end
end Go.Vc
end
section
namespace Go.Vc
open Go.RowKit
section
variable {P:Program}
def rS (P:Program)(o:Oper)(t:Fr)(w:World)(C:World->Prop)(K:VK)(_:Ph (o,C,K)):Prop :=
 match o.op with
 | .call { callee:=.builtin .len,args:=_,argTypes:=_ }=>∃n,(∀w',C w'->(execOp (ev t) o).run P w'=.ok (.value n) w')/\K n w
 | _=>dT P o t w C K .mk
def oe (P:Program)(ops:List Oper)(C:World->Prop)(R:Fr->World->Prop):(l:List Oper)->Fr->World->Ph (ops,C,R,l)->Prop
 | [],t,w,_=>R t w
 | o::r,t,w,_=>match o.guard with
  | none=>rS P o t w C (λv w'=>oe P ops C R r (put t o.dst v) w' .mk) .mk
  | some (j,want)=>gJ (iE ops j) want t (λt'=>rS P o t' w C (λv w'=>oe P ops C R r (put t' o.dst v) w' .mk) .mk) (λt'=>oe P ops C R r (put t' o.dst undef) w .mk) .mk
variable {t:Fr} {w:World} {C:World->Prop} {K:VK} {R:Fr->World->Prop}
theorem KX (ops)(p):oe P ops C R [] t w p=R t w:=(rfl)
theorem Ds (ops)(d op ty pos af r)(p):oe P ops C R (⟨d,op,ty,pos,af,none⟩::r) t w p=rS P ⟨d,op,ty,pos,af,none⟩ t w C (λv w'=>oe P ops C R r (put t d v) w' .mk) .mk:=(rfl)
theorem Dr (ops)(d op ty pos af j want r)(p):oe P ops C R (⟨d,op,ty,pos,af,some (j,want)⟩::r) t w p =
  gJ (iE ops j) want t (λt'=>rS P ⟨d,op,ty,pos,af,some (j,want)⟩ t' w C (λv w'=>oe P ops C R r (put t' d v) w' .mk) .mk) (λt'=>oe P ops C R r (put t' d undef) w .mk) .mk:=rfl
theorem J9 (d x ty pos af g)(p):rS P ⟨d,.move x,ty,pos,af,g⟩ t w C K p=dT P ⟨d,.move x,ty,pos,af,g⟩ t w C K .mk:=(rfl)
theorem Ja (d c a b ty pos af g)(p):rS P ⟨d,.pick c a b,ty,pos,af,g⟩ t w C K p=dT P ⟨d,.pick c a b,ty,pos,af,g⟩ t w C K .mk:=(rfl)
theorem Nl (d op xt x y yt ty pos af g)(p):rS P ⟨d,.binOp op xt x y yt,ty,pos,af,g⟩ t w C K p=dT P ⟨d,.binOp op xt x y yt,ty,pos,af,g⟩ t w C K .mk:=(rfl)
theorem Tq (d op xt x ty pos af g)(p):rS P ⟨d,.unOp op xt x,ty,pos,af,g⟩ t w C K p=dT P ⟨d,.unOp op xt x,ty,pos,af,g⟩ t w C K .mk:=(rfl)
theorem J8 (d xt x ty pos af g)(p):rS P ⟨d,.load xt x,ty,pos,af,g⟩ t w C K p=dT P ⟨d,.load xt x,ty,pos,af,g⟩ t w C K .mk:=(rfl)
theorem J7 (d f args tys ty pos af g)(p):rS P ⟨d,.call { callee:=.value f,args:=args,argTypes:=tys },ty,pos,af,g⟩ t w C K p=dT P ⟨d,.call { callee:=.value f,args:=args,argTypes:=tys },ty,pos,af,g⟩ t w C K .mk:=(rfl)
attribute [push_cast] KX Ds Dr J9 Ja Nl Tq J8 J7
end
end Go.Vc
end
