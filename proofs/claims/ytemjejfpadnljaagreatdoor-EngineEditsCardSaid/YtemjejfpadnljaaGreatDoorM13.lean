/- Texts of this claim, merged: Vb, En1, En2, En3, Img1, Img2, Cby, Img3, Img4, Img5, Img6. -/
import Derived.Test.YtemjejfpadnljaaGreatDoorM12
set_option maxRecDepth 100000
set_option linter.unusedSimpArgs false
set_option linter.unusedVariables false
set_option maxHeartbeats 8000000
namespace Go.Proofs.YtemjejfpadnljaaGreatDoor
open Go.Vc Go.Proofs Go.RowKit Cae
attribute [local irreducible] cZ ab ai aX runK ar Sl Vc.Own vc aS bu aZ
attribute [local irreducible] bZ ee nJ fO aV eo
theorem N6 (p:bN)(ps:List Int)(hl:jL p)(tC:ps.length<1000000)(X Xp:Nat->Prop)(v pv:Value)(w:World)(hv:gd X w v p)(Z7:Sl Xp 1 (En pq) w pv ps)(sj:Arg pv) :
  ar Tryz.prog 29 [v,pv] w λr w'=>(if az p then ∃u,r=.tuple #[u,.nilIface]/\Vc.Own w.heap.size 3 1 bH w' u (fH p ps) else r=.tuple #[.slice none 0 0,.iface 74 (.int .i64 1)])/\Below w.heap.size w w':=by
 obtain⟨rv,rfl,hr⟩:=hv;obtain⟨a,c,rfl,hc⟩:=hr.shape;obtain⟨a3,c3,rfl,hc3⟩:=Z7.shape;refine aE Tryz.func29 rfl (by kernel_rfl) [4,5] rfl ?_;push_cast -dsimp(maxSteps:=9^7) [Tryz.ntmps29];refine aR ?_;intro w1 aU;have aU:mj w w1 71 [.slice a p.rules.length c,.bool p.dG]:=aU;have pY:=aU.size;have d1:aB w1 ⟨w.heap.size,0,none⟩ 0 2=some [.slice a p.rules.length c,.bool p.dG]:=aU.aL.aB;push_cast -dsimp[d1];refine aA (j1 p hl X _ w1 ⟨_,rfl,oe.below hr aU.below⟩) ?_;rintro _ w2 ⟨rfl,dh⟩;have Bn:=dh.size;have hL2:=aU.below.trans (dh.mono (by omega));cases hR:az p with
 | false =>
  push_cast -dsimp[Bool.false_eq_true,if_false];exact hL2
 | true =>
  have XC:=eD hR;obtain⟨hlen,dD⟩:=XC;push_cast -dsimp;refine aK [4,5,6,7,8,9,11,12,13,14,15,16,17,22,23,24,25,26,27,28,29,30,31,32,33,34,35,36,37,38,39,40,41,42,43,44,45,46,47,48,49,50,51,52,53,54,55,56,57,58,59,60,61,62,63,64,65,66,67,68,69,70,71,72,73,74,75,76,77,78,79,80,81,82,83,84,85,86,87,88,89,90,91,92,93] (λz wx=>∃(i:Nat) (u:Value),z 7=.int .i64 i/\z 6=u/\i<=ps.length+1/\(ps=[]->i=0)/\Vc.Own w1.heap.size 3 1 bH wx u (bZ p ps i)/\Below w1.heap.size w1 wx) (λz _=>ps.length+1-(intOf (z 7)).toNat) ?_ ?_
  ·refine⟨0,_,rfl,rfl,by omega,λ_=>rfl,?_,dh⟩;rw[sB];exact Vc.Own.nil (enc:=bH) _ _ (λ_=>rfl) _
  intro z wx hI;obtain⟨i,u,h7,h6,hi,AW,ho,eV⟩:=hI;have pD:=ho.slice;obtain⟨ua,uc,rfl⟩:=pD;have ZU:Below w.heap.size w wx:=aU.below.trans (eV.mono (by omega));have ya:=eV.size;have Z0:=tx p ps i;push_cast -dsimp[h7,h6];have jc:(ps=[]\/ps.length<i)->bZ p ps i=fH p ps:=λh=>by
   unfold fH;by_cases h0:ps=[]
   ·rw[if_pos h0,AW h0];exact sB p ps
   rw[if_neg h0];have:i=ps.length+1:=by
    rcases h with h|h
    ·exact absurd h h0
    omega
   rw[this]
  refine⟨λhle=>⟨λyX=>?_,λhzero=>?_⟩,λH3=>?_⟩
  ·have yT:i<=ps.length:=by omega
   have hpx:=Z7.below ZU;refine Ys hpx yT ?_;intro fx;push_cast -dsimp;refine aA (aAe (ps.take i) (by rw[List.length_take];omega) Xp _ wx fx (λn c h=>by
    have:=sj ps.length c3 (by cases h;rfl);cases h;omega)) ?_
   rintro v1 w3 ⟨uU,gV⟩;have LF:=gV.size;push_cast -dsimp;refine aA (Su (ps.take i) wx.heap.size v1 w3 (by rw[List.length_take];omega) uU (by omega)) ?_;rintro _ w4 ⟨lF,nn⟩;have KZ:=nn.size;have aE9:Below wx.heap.size wx w4:=gV.trans nn;have aOR:=lF.sl;have aFa:Below w1.heap.size w1 w4:=eV.trans (aE9.mono (by omega));have hP4:aM w4 w.heap.size 71 [.slice a p.rules.length c,.bool p.dG]:=aU.aL.below aFa (by omega);have e0:w4.cell? ⟨w.heap.size,0,none⟩=some (.slice a p.rules.length c):=hP4.cell rfl;have e1:w4.cell? ⟨w.heap.size,1,none⟩=some (.bool p.dG):=hP4.cell rfl;have hL4:=ZU.trans (aE9.mono (by omega));have mP:=ho.below (aE9.mono (Nat.le_refl _));have uW:∃sb,ee p ps i 0=sb:=⟨_,rfl⟩;obtain⟨sb,uW⟩:=uW;have yY:(sb=true\/i=0\/i=ps.length)->bZ p ps (i+1)=bZ p ps i++[i]:=λh=>by
    rw[sA,if_pos];unfold nJ;rw[uW];rcases h with h|h|h
    ·rw[h];rfl
    ·rw[decide_eq_true h,Bool.or_true,Bool.true_or]
    rw[decide_eq_true h,Bool.or_true]
   have gH:sb=false->i≠0->i≠ps.length->bZ p ps (i+1)=bZ p ps i:=λh1 h2 h3=>by
    rw[sA,if_neg];unfold nJ;rw[uW,h1,decide_eq_false h2,decide_eq_false h3];simp
   have xS:ps=[]->i+1=0:=λh=>by subst h;simp at yX
   push_cast -dsimp[e0,e1];refine aK [4,5,9,11,12,13,14,15,16,17,44,45,46,47,48,49,50,51,52,53,54,55,56,57,58,59,60,61,62,63,64,65,66,67,68,69,70,71,72,73,74,75,76,77,78] (λz' wy=>∃(k:Nat),z' 44=.int .i64 k/\z' 9=.bool p.dG/\k<=p.rules.length/\ee p ps i 0=ee p ps i k/\Below w4.heap.size w4 wy) (λz' _=>p.rules.length-(intOf (z' 44)).toNat) ?_ ?_
   ·exact⟨0,rfl,rfl,Nat.zero_le _,rfl,Below.refl _ _⟩
   intro z' wy hI;obtain⟨k,h44,h9,hk,JN,vV⟩:=hI;have szy:=vV.size;have hLy:Below w.heap.size w wy:=hL4.trans (vV.mono (by omega));have aNj:Below w1.heap.size w1 wy:=aFa.trans (vV.mono (by omega));rcases Nat.lt_or_ge k p.rules.length with ao|eY
   ·have hg:=ae (l:=p.rules) (i:=k) ao;obtain⟨r,hrk,DF,_⟩:=hg;have hg:=Sl.yL (oe.below hr hLy) hrk;obtain⟨b,o,cs,rfl,hX,CT,aP,hRr⟩:=hg;obtain⟨s1,i1,s2,i2,rfl,h1,h2⟩:=hRr;have ce:aB wy ⟨b,o+k*5,none⟩ 0 5=some [.bool r.brk,s1,i1,s2,i2]:=aj [.bool r.brk,s1,i1,s2,i2] 0 (λj u hu=>by simpa using aP j u hu);push_cast -dsimp[h44,h9,ce];refine⟨λ_=>⟨⟨by omega,by omega⟩,?_⟩,λh=>absurd h (by omega)⟩;have H0:=dD r DF;have hlr:=hl.2 r DF;refine aq (z:=[.bool false,.slice none 0 0,.slice none 0 0,.slice none 0 0,.slice none 0 0]) (by kernel_rfl) ?_;intro wa fy;push_cast -dsimp;refine aH (n:=5) (by kernel_rfl) fy.aL rfl (by simp) (by
     obtain⟨_,_,e1,g1,g2⟩:=h1;cases e1;obtain⟨_,_,rfl,_⟩:=g1.shape;obtain⟨_,_,rfl,_⟩:=g2.shape;obtain⟨_,_,e2,g3,g4⟩:=h2;cases e2;obtain⟨_,_,rfl,_⟩:=g3.shape;obtain⟨_,_,rfl,_⟩:=g4.shape;simp[Value.oneCell']) ?_
    intro wb dH;have Ty:=fy.size;have NR:=dH.size;have aAZ:Below wy.heap.size wy wb:=fy.below.trans (dH.kept.below (by omega) (λ_ h=>by omega));have hBb:aM wb wy.heap.size 129 [.bool r.brk,s1,i1,s2,i2]:=dH.aL;have f1:aB wb ⟨wy.heap.size,1,none⟩ 0 2=some [s1,i1]:=ju (n:=2) (xs:=[s1,i1]) hBb 1 rfl rfl;have hLb:=hLy.trans (aAZ.mono (by omega));have W7:Below w4.heap.size w4 wb:=vV.trans (aAZ.mono szy);have yQ:=O8 r.before (ps.take i).reverse hlr.1.1 hlr.1.2.1 hlr.1.2.2 (by rw[List.length_reverse,List.length_take];omega) X _ _ v1 wb (h1.below aAZ) (aOR.below W7);unfold sT at yQ;rw[if_pos H0.1]at yQ;have e1:(eo r.before (ps.take i).reverse).1=decide ((eo r.before (ps.take i).reverse).1=true):=by simp
    rw[e1]at yQ;push_cast -dsimp[f1];refine aA yQ ?_;rintro _ wc ⟨rfl,vy⟩;have Za:=vy.size;have hBc:=hBb.below vy (by omega);have aFb:Below w4.heap.size w4 wc:=W7.trans (vy.mono (by omega));have cJ:=DV (ps:=ps) (i:=i) hrk;have aKC:(eo r.before (ps.take i).reverse).1=true->(eo r.after (ps.drop i)).1=true->r.brk=sb:=λh1 h2=>by
     rw[<-uW,JN,cJ,if_pos];unfold fO;rw[h1,h2];rfl
    have aJ4:((eo r.before (ps.take i).reverse).1≠true\/(eo r.after (ps.drop i)).1≠true)->ee p ps i 0=ee p ps i (k+1):=λh=>by
     rw[JN,cJ,if_neg];unfold fO;rw[Bool.and_eq_true];rintro⟨h1,h2⟩;rcases h with h|h
     ·exact h h1
     exact h h2
    push_cast -dsimp;refine⟨λsJ=>⟨⟨by omega,by omega⟩,⟨k+1,rfl,by omega,aJ4 (.inl sJ),aFb⟩,by rw[h44];simp only[intOf];omega⟩,λsJ=>?_⟩;have sJ:(eo r.before (ps.take i).reverse).1=true:=Classical.byContradiction sJ;refine b8 (λw'=>aM w' wy.heap.size 129 [.bool r.brk,s1,i1,s2,i2]) mixed (by kernel_rfl) hBc.drew ?_;have f2:∀w':World,aM w' wy.heap.size 129 [.bool r.brk,s1,i1,s2,i2]->aB w' ⟨wy.heap.size,3,none⟩ 0 2=some [s2,i2]:=λw' h=>ju (n:=2) (xs:=[s2,i2]) h 3 rfl rfl;have f2d:=f2 wc.drew hBc.drew;have hLc:Below w.heap.size w wc.drew:=(hL4.trans (aFb.mono (by omega))).drew;push_cast -dsimp[f2d];refine⟨λbB hC=>by rw[f2 bB hC];exact rfl,?_⟩;refine Yt (Z7.below hLc) yT ?_;intro a' c' gZ;push_cast -dsimp;have yQ:=O8 r.after (ps.drop i) hlr.2.1 hlr.2.2.1 hlr.2.2.2 (by rw[List.length_drop];omega) X _ _ _ wc.drew (h2.below (aAZ.trans ((vy.mono (by omega)).drew))) gZ;unfold sT at yQ;rw[if_pos H0.2]at yQ;have e2:(eo r.after (ps.drop i)).1=decide ((eo r.after (ps.drop i)).1=true):=by simp
    rw[e2]at yQ;refine aA yQ ?_;rintro _ we ⟨rfl,aNn⟩;have aFe:Below wc.heap.size wc we:=(Below.refl _ _).drew.trans aNn;have aVn:=aFe.size;have hBe:=hBc.below aFe (by omega);refine⟨hBe,?_⟩;have Qx:Below w4.heap.size w4 we:=aFb.trans (aFe.mono (by omega));push_cast -dsimp;refine⟨λeE=>?_,λeE=>⟨⟨by omega,by omega⟩,⟨k+1,rfl,by omega,aJ4 (.inr eE),Qx⟩,by rw[h44];simp only[intOf];omega⟩⟩;have hc0:we.cell? ⟨wy.heap.size,0,none⟩=some (.bool r.brk):=hBe.cell rfl;rw[aKC sJ eE]at hc0;have kU:=mP.below (Qx.mono (Nat.le_refl _));have so:Below w1.heap.size w1 we:=aFa.trans (Qx.mono (by omega));have LG:=so.size;cases sb with
    | true =>
     push_cast -dsimp[hc0];have hy:=yY (.inl rfl);refine cH bo rfl rfl (by omega) ?_;intro w6 bQ;have K0:=bQ.size;push_cast -dsimp;refine aW (base:=w1.heap.size) [i] (enc:=bH) bo (kU.new bQ) (by rfl) (λj u hu=>by simpa[bH] using bQ.cell hu) (by simp[bH,Value.oneCell']) (by simp only[List.length_cons,List.length_nil];omega) (by omega) ?_;intro v' w7 mQ wF hn7;have qC:Kept (λj=>(Value.slice ua (bZ p ps i).length uc).ownBlock=some j) w6 w7:=Kept.grown wF (λ_ h=>h);have lq:Below w1.heap.size w1 w7:=so.trans ((bQ.below.mono LG).trans (qC.below (by omega) (λg h=>(kU.block g h).1)));push_cast -dsimp;rw[<-hy]at mQ;exact⟨⟨by omega,by omega⟩,⟨i+1,_,rfl,rfl,by omega,xS,mQ,lq⟩,by rw[h7];simp only[intOf];omega⟩
    | false =>
     push_cast -dsimp[hc0];refine⟨λZ4=>⟨λIz=>?_,λIz=>?_⟩,λZ4=>?_⟩
     ·have hy:=yY (.inr (.inr (by omega)));refine cH bo rfl rfl (by omega) ?_;intro w6 bQ;have K0:=bQ.size;push_cast -dsimp;refine aW (base:=w1.heap.size) [i] (enc:=bH) bo (kU.new bQ) (by rfl) (λj u hu=>by simpa[bH] using bQ.cell hu) (by simp[bH,Value.oneCell']) (by simp only[List.length_cons,List.length_nil];omega) (by omega) ?_;intro v' w7 mQ wF hn7;have qC:Kept (λj=>(Value.slice ua (bZ p ps i).length uc).ownBlock=some j) w6 w7:=Kept.grown wF (λ_ h=>h);have lq:Below w1.heap.size w1 w7:=so.trans ((bQ.below.mono LG).trans (qC.below (by omega) (λg h=>(kU.block g h).1)));push_cast -dsimp;rw[<-hy]at mQ;exact⟨⟨by omega,by omega⟩,⟨i+1,_,rfl,rfl,by omega,xS,mQ,lq⟩,by rw[h7];simp only[intOf];omega⟩
     ·have hy:=gH rfl (by omega) (by omega);have CW:Vc.Own w1.heap.size 3 1 bH we (.slice ua (bZ p ps i).length uc) (bZ p ps (i+1)):=by rw[hy];exact kU
      exact⟨⟨by omega,by omega⟩,⟨i+1,_,rfl,rfl,by omega,xS,CW,so⟩,by rw[h7];simp only[intOf];omega⟩
     have hy:=yY (.inr (.inl (by omega)));refine cH bo rfl rfl (by omega) ?_;intro w6 bQ;have K0:=bQ.size;push_cast -dsimp;refine aW (base:=w1.heap.size) [i] (enc:=bH) bo (kU.new bQ) (by rfl) (λj u hu=>by simpa[bH] using bQ.cell hu) (by simp[bH,Value.oneCell']) (by simp only[List.length_cons,List.length_nil];omega) (by omega) ?_;intro v' w7 mQ wF hn7;have qC:Kept (λj=>(Value.slice ua (bZ p ps i).length uc).ownBlock=some j) w6 w7:=Kept.grown wF (λ_ h=>h);have lq:Below w1.heap.size w1 w7:=so.trans ((bQ.below.mono LG).trans (qC.below (by omega) (λg h=>(kU.block g h).1)));push_cast -dsimp;rw[<-hy]at mQ;exact⟨⟨by omega,by omega⟩,⟨i+1,_,rfl,rfl,by omega,xS,mQ,lq⟩,by rw[h7];simp only[intOf];omega⟩
   have eR:p.dG=sb:=by rw[<-uW,JN,HG p ps i k eY]
   rw[eR]at h9;push_cast -dsimp[h44,h9];refine⟨λh=>absurd h (by omega),λ_=>?_⟩;have kU:=mP.below (vV.mono (Nat.le_refl _));have so:=aNj;have LG:=so.size;cases sb with
   | true =>
    push_cast -dsimp[h44];have hy:=yY (.inl rfl);refine cH bo rfl rfl (by omega) ?_;intro w6 bQ;have K0:=bQ.size;push_cast -dsimp;refine aW (base:=w1.heap.size) [i] (enc:=bH) bo (kU.new bQ) (by rfl) (λj u hu=>by simpa[bH] using bQ.cell hu) (by simp[bH,Value.oneCell']) (by simp only[List.length_cons,List.length_nil];omega) (by omega) ?_;intro v' w7 mQ wF hn7;have qC:Kept (λj=>(Value.slice ua (bZ p ps i).length uc).ownBlock=some j) w6 w7:=Kept.grown wF (λ_ h=>h);have lq:Below w1.heap.size w1 w7:=so.trans ((bQ.below.mono LG).trans (qC.below (by omega) (λg h=>(kU.block g h).1)));push_cast -dsimp;rw[<-hy]at mQ;exact⟨⟨by omega,by omega⟩,⟨i+1,_,rfl,rfl,by omega,xS,mQ,lq⟩,by rw[h7];simp only[intOf];omega⟩
   | false =>
    push_cast -dsimp[h44];refine⟨λZ4=>⟨λIz=>?_,λIz=>?_⟩,λZ4=>?_⟩
    ·have hy:=yY (.inr (.inr (by omega)));refine cH bo rfl rfl (by omega) ?_;intro w6 bQ;have K0:=bQ.size;push_cast -dsimp;refine aW (base:=w1.heap.size) [i] (enc:=bH) bo (kU.new bQ) (by rfl) (λj u hu=>by simpa[bH] using bQ.cell hu) (by simp[bH,Value.oneCell']) (by simp only[List.length_cons,List.length_nil];omega) (by omega) ?_;intro v' w7 mQ wF hn7;have qC:Kept (λj=>(Value.slice ua (bZ p ps i).length uc).ownBlock=some j) w6 w7:=Kept.grown wF (λ_ h=>h);have lq:Below w1.heap.size w1 w7:=so.trans ((bQ.below.mono LG).trans (qC.below (by omega) (λg h=>(kU.block g h).1)));push_cast -dsimp;rw[<-hy]at mQ;exact⟨⟨by omega,by omega⟩,⟨i+1,_,rfl,rfl,by omega,xS,mQ,lq⟩,by rw[h7];simp only[intOf];omega⟩
    ·have hy:=gH rfl (by omega) (by omega);have CW:Vc.Own w1.heap.size 3 1 bH wy (.slice ua (bZ p ps i).length uc) (bZ p ps (i+1)):=by rw[hy];exact kU
     exact⟨⟨by omega,by omega⟩,⟨i+1,_,rfl,rfl,by omega,xS,CW,so⟩,by rw[h7];simp only[intOf];omega⟩
    have hy:=yY (.inr (.inl (by omega)));refine cH bo rfl rfl (by omega) ?_;intro w6 bQ;have K0:=bQ.size;push_cast -dsimp;refine aW (base:=w1.heap.size) [i] (enc:=bH) bo (kU.new bQ) (by rfl) (λj u hu=>by simpa[bH] using bQ.cell hu) (by simp[bH,Value.oneCell']) (by simp only[List.length_cons,List.length_nil];omega) (by omega) ?_;intro v' w7 mQ wF hn7;have qC:Kept (λj=>(Value.slice ua (bZ p ps i).length uc).ownBlock=some j) w6 w7:=Kept.grown wF (λ_ h=>h);have lq:Below w1.heap.size w1 w7:=so.trans ((bQ.below.mono LG).trans (qC.below (by omega) (λg h=>(kU.block g h).1)));push_cast -dsimp;rw[<-hy]at mQ;exact⟨⟨by omega,by omega⟩,⟨i+1,_,rfl,rfl,by omega,xS,mQ,lq⟩,by rw[h7];simp only[intOf];omega⟩
  ·have h0:ps=[]:=List.eq_nil_of_length_eq_zero (by omega);rw[<-jc (.inl h0)];exact⟨⟨_,rfl,ho.mono (by omega)⟩,ZU⟩
  rw[<-jc (.inr (by omega))];exact⟨⟨_,rfl,ho.mono (by omega)⟩,ZU⟩
end Go.Proofs.YtemjejfpadnljaaGreatDoor
namespace Go.Proofs.YtemjejfpadnljaaGreatDoor
open Go.Vc Go.Proofs Go.RowKit Cae
attribute [local irreducible] cZ ab ai aX runK ar Sl Vc.Own vc aS bu aZ
def fr (s:List UInt8)(k:Nat):Nat:=if k=(j9 0 s).length then s.length else ((j9 0 s).getD k ⟨0,0,0⟩).at_
def bV (s:List UInt8):List Int:=(j9 0 s).map λu=>(u.p:Int)
def dB (p:bN)(s:List UInt8):List Nat:=(fH p (bV s)).map (fr s)
structure kL (X:Nat->Prop)(w:World)(eb:Nat)(p:bN)(t:List UInt8)(at_:List Nat):Prop where
 st:∃rv av,aM w eb 73 [rv,.bool p.dG,str t,av]/\gd X w (.agg #[rv,.bool p.dG]) p/\Sl X 1 (En bH) w av at_/\Arg av
theorem vj (p:bN)(ps:List Int):(fH p ps).length<=ps.length+1/\∀k∈fH p ps,k<=ps.length:=by
 unfold fH;split
 ·exact⟨Nat.zero_le _,λk h=>by cases h⟩
 refine⟨tx _ _ _,λk h=>?_⟩;unfold bZ at h
 have:=List.mem_range.1 (List.mem_filter.1 h).1;omega
theorem nw (p:bN)(hr:az p=true)(hl:jL p)(s:List UInt8)(hs:s.length<1000000)(eb:Nat)(X:Nat->Prop)(t:List UInt8)(at_:List Nat)(w:World)(hg:p6 w)(he:kL X w eb p t at_) :
  ar Tryz.prog 13 [.pointer (some ⟨eb,0,none⟩),str s] w λr w'=>Vc.Own w.heap.size 3 1 bH w' r (dB p s)/\Below w.heap.size w w':=by
 obtain⟨rv,av,hB,hP,hA,hAa⟩:=he.st;refine aE Tryz.func13 rfl (by kernel_rfl) [4] rfl ?_;push_cast -dsimp(maxSteps:=9^7) [Tryz.ntmps13];refine aA (VZ s hs w hg) ?_;rintro v w1 ⟨ho,hb⟩;have pY:=hb.size;have hlen:=xw s.length s 0 rfl;have pD:=ho.sl;have eN:=pD.shape;obtain⟨a,c,rfl,hc⟩:=eN;have hgU:∃us,j9 0 s=us:=⟨_,rfl⟩;obtain⟨us,hU⟩:=hgU;rw[hU]at pD hc hlen;push_cast -dsimp[hU];refine aK [6,8,18,19,20,21,22,23,24,25,26,27] (λz wx=>∃(i:Nat) (ov:Value),z 18=.int .i64 i/\z 6=ov/\i<=us.length/\Vc.Own w1.heap.size 3 1 pq wx ov ((us.take i).map λu=>(u.p:Int))/\Below w1.heap.size w1 wx) (λz _=>us.length-(intOf (z 18)).toNat) ?_ ?_
 ·exact⟨0,_,rfl,rfl,Nat.zero_le _,Vc.Own.nil (enc:=pq) _ _ (λ_=>rfl) _,Below.refl _ _⟩
 intro z wx hI;obtain⟨i,ov,h18,h6,hi,eG,eV⟩:=hI;have ya:=eV.size;push_cast -dsimp[h18,h6];refine⟨λao=>?_,λeY=>?_⟩
 ·have il:=ae (l:=us) (i:=i) (by omega);obtain⟨x,hx,mR,hd,ht⟩:=il;have il:=(pD.below eV).get hx;obtain⟨b,o,rfl,hX,aP⟩:=il;have c0:aB wx ⟨b,o+i*3,none⟩ 0 3=some [.int .i64 x.p,.int .i64 x.at_,.int .i64 x.n]:=aj (FQ x) 0 (λj u hu=>by simpa using aP j u hu);have eN:=eG.slice;obtain⟨oa,oc,rfl⟩:=eN;push_cast -dsimp[c0];refine⟨⟨by omega,by omega⟩,?_⟩;refine aq (z:=[.int .i64 0,.int .i64 0,.int .i64 0]) (by kernel_rfl) ?_;intro w2 bJ;have Bn:=bJ.size;push_cast -dsimp;refine aH (n:=3) (by kernel_rfl) bJ.aL rfl (by simp) (by simp[Value.oneCell']) ?_;intro w3 cN;have LF:=cN.size;have d0:w3.cell? ⟨wx.heap.size,0,none⟩=some (.int .i64 x.p):=cN.aL.cell rfl;have k3:Kept (λj=>j=wx.heap.size) wx w3:=(Kept.new bJ).trans cN.kept (λ_ _ h=>h);have mP:=eG.aJ k3 (λg hg h=>by have:=eG.block g hg;omega);have gV:Below w1.heap.size w1 w3:=eV.trans (k3.below ya (λ_ h=>by omega));push_cast -dsimp[d0];refine cH bo rfl rfl (by omega) ?_;intro w4 ah;have KZ:=ah.size;have kU:=mP.new ah;push_cast -dsimp;refine aW (base:=w1.heap.size) [(x.p:Int)] (enc:=pq) bo kU (by rfl) (λj u hu=>by simpa[pq] using ah.cell hu) (by simp[pq,Value.oneCell']) (by simp only[List.length_map,List.length_take,List.length_cons,List.length_nil];omega) (by omega) ?_;intro v5 w5 CW yR _;have mn:Below w1.heap.size w1 w5:=(gV.trans (ah.below.mono (by omega))).trans ((Kept.grown yR (λ_ h=>h)).below (by omega) (λj h=>(kU.block j h).1))
  have e5:((us.take i).map λu=>(u.p:Int))++[(x.p:Int)]=(us.take (i+1)).map λu=>(u.p:Int):=by rw[ht,List.map_append];rfl
  rw[e5]at CW;push_cast -dsimp;exact⟨⟨by omega,by omega⟩,⟨i+1,_,rfl,rfl,by omega,CW,mn⟩,by rw[h18];simp only[intOf];omega⟩
 rw[List.take_of_length_le (by omega)]at eG;have hpE:us.map (λu=>(u.p:Int))=bV s:=by unfold bV;rw[hU]
 rw[hpE]at eG;have Ha:(bV s).length=us.length:=by rw[<-hpE,List.length_map]
 have MI:=hb.trans (eV.mono pY);have fL:=hB.below MI hB.lt;have ZW:=hP.below MI;have b0:aB wx ⟨eb,0,none⟩ 0 2=some [rv,.bool p.dG]:=aj [rv,.bool p.dG] 0 (λj u hu=>by
  rw[Nat.zero_add,Nat.zero_add];refine fL.cell ?_;match j,hu with
  | 0,hu=>exact hu
  | 1,hu=>exact hu
  | j+2,hu=>cases hu)
 push_cast -dsimp[b0];refine aA (N6 p (bV s) hl (by omega) X _ _ _ wx ZW eG.sl eG.kW) ?_;rintro _ w2 ⟨aKi,dh⟩;rw[if_pos hr]at aKi;obtain⟨u,rfl,hou⟩:=aKi;have Bn:=dh.size;have iP:=MI.trans (dh.mono MI.size);have hgk:∃ks,fH p (bV s)=ks:=⟨_,rfl⟩;obtain⟨ks,hk⟩:=hgk;have Wq:=vj p (bV s);rw[hk]at hou Wq;have eN:=hou.slice;obtain⟨ka,kc,rfl⟩:=eN;have hks:=hou.sl;have qE:=(pD.below eV).below dh;push_cast -dsimp;refine aK [11,13,41,42,43,44,45,46,47,48,49,50,51,52,53,54,55,56,57,58,59,60,61,62] (λz wy=>∃(i:Nat) (ov:Value),z 41=.int .i64 i/\z 11=ov/\i<=ks.length/\Vc.Own w2.heap.size 3 1 bH wy ov ((ks.take i).map (fr s))/\Below w2.heap.size w2 wy) (λz _=>ks.length-(intOf (z 41)).toNat) ?_ ?_
 ·exact⟨0,_,rfl,rfl,Nat.zero_le _,Vc.Own.nil (enc:=bH) _ _ (λ_=>rfl) _,Below.refl _ _⟩
 intro y wy hJ;obtain⟨i,ov,h41,Qn,hi,tA,vV⟩:=hJ;have szy:=vV.size;push_cast -dsimp[h41,Qn];refine⟨λao=>?_,λeY=>?_⟩
 ·have il:=ae (l:=ks) (i:=i) (by omega);obtain⟨k,CU,vW,hkd,hkt⟩:=il;have aT8:=Wq.2 k vW;have il:=(hks.below vV).get CU;obtain⟨b,o,rfl,hX,aP⟩:=il;have c0:wy.cell? ⟨b,o+i,none⟩=some (.int .i64 k):=by simpa[bH] using aP 0 _ rfl
  have eN:=tA.slice;obtain⟨oa,oc,rfl⟩:=eN;have e5:(ks.take i).map (fr s)++[fr s k]=(ks.take (i+1)).map (fr s):=by rw[hkt,List.map_append];rfl
  have Iz:((ks.take i).map (fr s)).length=i:=by rw[List.length_map,List.length_take];omega
  rw[Iz];push_cast -dsimp[c0];refine⟨⟨by omega,by omega⟩,λAU=>?_,λgH=>?_⟩
  ·have Ha:fr s k=s.length:=by unfold fr;rw[hU,if_pos (by omega)]
   rw[Ha]at e5;refine cH bo rfl rfl (by omega) ?_;intro w4 ah;have KZ:=ah.size;have kU:=(tA).new ah;push_cast -dsimp;rw[Iz]at kU;refine aW (base:=w2.heap.size) [(s.length:Nat)] (enc:=bH) bo kU (by rfl) (λj u hu=>by simpa[bH] using ah.cell hu) (by simp[bH,Value.oneCell']) (by simp only[List.length_map,List.length_take,List.length_cons,List.length_nil];omega) (by omega) ?_;intro v5 w5 CW yR _;have mn:Below w2.heap.size w2 w5:=(vV.trans (ah.below.mono (by omega))).trans ((Kept.grown yR (λ_ h=>h)).below (by omega) (λj h=>(kU.block j h).1));rw[e5]at CW;push_cast -dsimp;exact⟨⟨by omega,by omega⟩,⟨i+1,_,rfl,rfl,by omega,CW,mn⟩,by rw[h41];simp only[intOf];omega⟩
  have il:=ae (l:=us) (i:=k) (by omega);obtain⟨x,hx,_⟩:=il;have Ha:fr s k=x.at_:=by unfold fr;rw[hU,if_neg (by omega),List.getD_eq_getElem?_getD,hx];rfl
  rw[Ha]at e5;have il:=(qE.below vV).get hx;obtain⟨b',o',rfl,_,hcu⟩:=il;have cu:wy.cell? ⟨b',o'+k*3+1,none⟩=some (.int .i64 x.at_):=hcu 1 _ rfl;push_cast -dsimp[cu];refine⟨⟨by omega,by omega⟩,?_⟩;refine cH bo rfl rfl (by omega) ?_;intro w4 ah;have KZ:=ah.size;have kU:=(tA).new ah;push_cast -dsimp;rw[Iz]at kU;refine aW (base:=w2.heap.size) [(x.at_:Nat)] (enc:=bH) bo kU (by rfl) (λj u hu=>by simpa[bH] using ah.cell hu) (by simp[bH,Value.oneCell']) (by simp only[List.length_map,List.length_take,List.length_cons,List.length_nil];omega) (by omega) ?_;intro v5 w5 CW yR _;have mn:Below w2.heap.size w2 w5:=(vV.trans (ah.below.mono (by omega))).trans ((Kept.grown yR (λ_ h=>h)).below (by omega) (λj h=>(kU.block j h).1));rw[e5]at CW;push_cast -dsimp;exact⟨⟨by omega,by omega⟩,⟨i+1,_,rfl,rfl,by omega,CW,mn⟩,by rw[h41];simp only[intOf];omega⟩
 rw[List.take_of_length_le (by omega)]at tA;have hE:dB p s=ks.map (fr s):=by unfold dB;rw[hk]
 rw[hE];exact⟨tA.mono (by omega),iP.trans (vV.mono iP.size)⟩
def lR (t:List UInt8)(a o:Int):Prop:=a<0\/o<0\/(t.length:Int)<a\/(t.length:Int)-a<o
def AA (t:List UInt8)(a o:Int)(i:List UInt8):List UInt8:=t.take a.toNat++i++t.drop (a+o).toNat
section
variable (p:bN) (i:List UInt8) (hi:i.length<100000) (a o:Int) (eb:Nat) (X:Nat->Prop) (t:List UInt8) (ht:t.length<=400) (bs:List Nat) (w:World) (he:kL X w eb p t bs)
include hi ht he
theorem QR (h:lR t a o):ar Tryz.prog 10 [.pointer (some ⟨eb,0,none⟩),.int .i64 a,.int .i64 o,str i] w λr w'=>r=.iface 74 (.int .i64 2)/\Below w.heap.size w w':=by
 obtain⟨rv,av,hB,hP,hA,hAa⟩:=he.st;unfold lR at h;have d2:w.cell? ⟨eb,2,none⟩=some (str t):=hB.cell rfl;refine aE Tryz.func10 rfl (by kernel_rfl) [8] rfl ?_;push_cast -dsimp(maxSteps:=9^7) [Tryz.ntmps10];push_cast -dsimp[d2];exact⟨λn1=>⟨λn2=>⟨λn3=>⟨⟨by omega,by omega⟩,λ_=>Below.refl _ _,λn4=>by omega⟩,λ_=>Below.refl _ _⟩,λ_=>Below.refl _ _⟩,λ_=>Below.refl _ _⟩
theorem Lj (h:¬lR t a o)(h2:(400:Int)<(t.length:Int)-o+i.length):ar Tryz.prog 10 [.pointer (some ⟨eb,0,none⟩),.int .i64 a,.int .i64 o,str i] w λr w'=>r=.iface 74 (.int .i64 4)/\Below w.heap.size w w':=by
 obtain⟨rv,av,hB,hP,hA,hAa⟩:=he.st;unfold lR at h;have d2:w.cell? ⟨eb,2,none⟩=some (str t):=hB.cell rfl;refine aE Tryz.func10 rfl (by kernel_rfl) [8] rfl ?_;push_cast -dsimp(maxSteps:=9^7) [Tryz.ntmps10];push_cast -dsimp[d2];exact⟨λn1=>⟨λn2=>⟨λn3=>⟨⟨by omega,by omega⟩,λ_=>by omega,λn4=>⟨⟨by omega,by omega⟩,⟨by omega,by omega⟩,λ_=>Below.refl _ _,λ_=>by omega⟩⟩,λ_=>by omega⟩,λ_=>by omega⟩,λ_=>by omega⟩
theorem aEs (hr:az p=true)(hl:jL p)(hg:p6 w)(hX:X eb)(GK:∀b,X b->b<w.heap.size)(OG:0≠eb)(h:¬lR t a o)(h2:¬(400:Int)<(t.length:Int)-o+i.length) :
  ar Tryz.prog 10 [.pointer (some ⟨eb,0,none⟩),.int .i64 a,.int .i64 o,str i] w λr w'=>r=.nilIface/\kL X w' eb p (AA t a o i) (dB p (AA t a o i))/\Kept (·=eb) w w':=by
 obtain⟨rv,av,hB,hP,hA,hAa⟩:=he.st;unfold lR at h;have d2:w.cell? ⟨eb,2,none⟩=some (str t):=hB.cell rfl;refine aE Tryz.func10 rfl (by kernel_rfl) [8] rfl ?_;push_cast -dsimp(maxSteps:=9^7) [Tryz.ntmps10];push_cast -dsimp[d2];refine⟨λn1=>⟨λn2=>⟨λn3=>⟨⟨by omega,by omega⟩,λ_=>by omega,λn4=>⟨⟨by omega,by omega⟩,⟨by omega,by omega⟩,λ_=>by omega,λ_=>?_⟩⟩,λ_=>by omega⟩,λ_=>by omega⟩,λ_=>by omega⟩;have d2':w.drew.cell? ⟨eb,2,none⟩=some (str t):=d2;refine dV (λw'=>aM w' eb 73 [rv,.bool p.dG,str t,av]) mixed (by kernel_rfl) (List.cons_ne_nil _ _) hB.drew ?_;have L:∀bB:World,aM bB eb 73 [rv,.bool p.dG,str t,av]->kI (bB.cell? ⟨eb,2,none⟩) (λx=>x=str t) .mk:=λbB h=>fZ h rfl;push_cast -dsimp[d2'];have H3:∃t',t.take a.toNat++i++t.drop (a+o).toNat=t':=⟨_,rfl⟩;obtain⟨t',OR⟩:=H3;have hl':t'.length<=400:=by
  rw[<-OR,List.length_append,List.length_append,List.length_take,List.length_drop];omega
 refine⟨L,⟨by omega,by omega⟩,by rw[List.length_take];omega,L,⟨by omega,by omega⟩,⟨by omega,by omega⟩,by rw[List.length_append,List.length_take,List.length_drop];omega,?_⟩;rw[OR];refine aC hB.drew (by simp) rfl ?_;intro w2 bJ;have Bn:w2.heap.size=w.heap.size:=bJ.size;have lV:Kept (·=eb) w w2:=((Kept.refl (λj=>j=eb) w).drew).trans bJ.kept (λ_ _ h=>h);have B2:aM w2 eb 73 [rv,.bool p.dG,str t',av]:=bJ.aL;have P2:gd X w2 (.agg #[rv,.bool p.dG]) p:=hP.mono (λb hb ao=>lV.block b ao (λh=>hb (h▸hX))) (λ_ h=>h);have A2:Sl X 1 (En bH) w2 av bs:=hA.kept lV (λb h=>h▸hX);have E2:kL X w2 eb p t' bs:=⟨⟨rv,av,B2,P2,A2,hAa⟩⟩;have g2:p6 w2:=λk hk=>lV.cell (hg k hk) OG;have e2:w2.cell? ⟨eb,2,none⟩=some (str t'):=B2.cell rfl;refine⟨trivial,?_⟩;push_cast -dsimp[e2];refine aA (nw p hr hl t' (by omega) eb X t' bs w2 g2 E2) ?_;rintro r w3 ⟨o3,gV⟩;have LF:=gV.size;have lt2:=hB.lt;have B3:=B2.below gV (by omega);have eN:=o3.slice;obtain⟨ra,rc,rfl⟩:=eN;push_cast -dsimp;refine aC B3 (by simp) rfl ?_;intro w4 ah;have KZ:w4.heap.size=w3.heap.size:=ah.size;have Tn:Kept (·=eb) w w4:=(lV.trans (Kept.aN gV (X:=λ_=>False) (λk h1 h2=>by omega)) (λ_ _ h=>h.elim)).trans ah.kept (λ_ _ h=>h);have B4:aM w4 eb 73 [rv,.bool p.dG,str t',.slice ra (dB p t').length rc]:=ah.aL;have P4:gd X w4 (.agg #[rv,.bool p.dG]) p:=hP.mono (λb hb ao=>Tn.block b ao (λh=>hb (h▸hX))) (λ_ h=>h);have o4:=o3.aJ ah.kept (λg hg h=>by have:=(o3.block g hg).1;omega);have hed:AA t a o i=t':=OR;push_cast -dsimp;rw[hed]
 exact⟨⟨⟨rv,_,B4,P4,o4.sl.weaken (λb h=>by have:=GK b h;omega),o4.kW⟩⟩,Tn⟩
end
theorem FN (p:bN)(eb:Nat)(X:Nat->Prop)(t:List UInt8)(bs:List Nat)(Z0:bs.length<1000000)(w:World)(he:kL X w eb p t bs) :
  ar Tryz.prog 11 [.pointer (some ⟨eb,0,none⟩)] w λr w'=>(∃v,r=.tuple #[str t,v]/\Vc.Own w.heap.size 3 1 bH w' v bs)/\Below w.heap.size w w':=by
 obtain⟨rv,av,hB,hP,hA,hAa⟩:=he.st;refine aE Tryz.func11 rfl (by kernel_rfl) [2,3] rfl ?_;push_cast -dsimp(maxSteps:=9^7) [Tryz.ntmps11];have d2:w.drew.cell? ⟨eb,2,none⟩=some (str t):=hB.cell rfl;refine b8 (λw'=>Below w.heap.size w w') mixed (by kernel_rfl) (Below.refl _ _).drew ?_;have L2:∀bB:World,Below w.heap.size w bB->kI (bB.cell? ⟨eb,2,none⟩) (λx=>x=str t) .mk:=λbB h=>fZ (hB.below h hB.lt) rfl;have L3:∀bB:World,Below w.heap.size w bB->kI (bB.cell? ⟨eb,3,none⟩) (λx=>x=av) .mk:=λbB h=>fZ (hB.below h hB.lt) rfl;push_cast -dsimp[d2];refine⟨L2,?_⟩;refine cH bo rfl rfl (by omega) ?_;intro w1 aU;have fe:Below w.heap.size w w1:=(Below.refl _ _).drew.trans aU.below;have d3:w1.cell? ⟨eb,3,none⟩=some av:=(hB.below fe hB.lt).cell rfl;have o1:=aU.own (base:=w.heap.size) (k:=1) (n:=0) (enc:=bH) (l:=[]) rfl rfl (λ_=>rfl) (Nat.le_refl _) (by omega);refine⟨fe,?_⟩;push_cast -dsimp[d3];refine⟨L3,?_⟩;refine lp (base:=w.heap.size) (enc:=bH) (ys:=bs) bo o1 (hA.below fe) hAa (by simp[bH,Value.oneCell']) (by simp only[List.length_nil];omega) fe.size ?_;intro v2 w2 o2 _ dh;rw[List.nil_append]at o2;have fL:=fe.trans dh;refine⟨fL,?_⟩;push_cast -dsimp;exact⟨⟨_,rfl,o2⟩,fL⟩
theorem WE {g:Nat->Bool}{l:List Nat}{i x:Nat}(hx:l[i]?=some x)(bO:∀y∈l.take i,g y=false)(hg:g x=true):l.findIdx g=i:=by
 obtain⟨ao,he⟩:=List.getElem?_eq_some_iff.1 hx;rw[List.findIdx_eq ao];refine⟨by rw[he];exact hg,λj hj=>?_⟩;exact bO _ (List.mem_take_iff_getElem.2 ⟨j,by omega,rfl⟩)
theorem Lx {g:Nat->Bool}{l:List Nat}(bO:∀y∈l,g y=false):l.findIdx g=l.length:=by
 rw[List.findIdx_eq_length];exact bO
def firstIdx (g:Nat->Bool)(l:List Nat):Int:=if l.findIdx g<l.length then (l.findIdx g:Int) else -1
theorem A6 (f:FuncId)(cap:List Value)(g:Nat->Bool)(l:List Nat)(hl:l.length<1000000000)(X:Nat->Prop)(v:Value)(w:World)(hv:Sl X 1 (En bH) w v l)
  (hF:∀(x:Nat) (w':World),Below w.heap.size w w'->ar Tryz.prog f (.int .i64 x::cap) w' λr bB=>r=.bool (g x)/\Below w'.heap.size w' bB) :
  ar Tryz.prog 15 [v,.func (.func f) #[] cap.toArray] w λr w'=>r=.int .i64 (firstIdx g l)/\Below w.heap.size w w':=by
 obtain⟨a,c,rfl,hc⟩:=hv.shape;refine aE Tryz.func15 rfl (by kernel_rfl) [4] rfl ?_;push_cast -dsimp(maxSteps:=9^7) [Tryz.ntmps15];refine aK [4,5,8,9,10,11,12,13,14,15,16,17,18] (λz wx=>∃(i:Nat),z 8=.int .i64 i/\i<=l.length/\(∀x∈l.take i,g x=false)/\Below w.heap.size w wx) (λz _=>l.length-(intOf (z 8)).toNat) ?_ ?_
 ·exact⟨0,rfl,Nat.zero_le _,by simp,Below.refl _ _⟩
 intro z wx hI;obtain⟨i,h8,hi,bO,hb⟩:=hI;push_cast -dsimp[h8];refine⟨λao=>?_,λeY=>?_⟩
 ·have il:=ae (l:=l) (i:=i) (by omega);obtain⟨x,hx,mR,hd,ht⟩:=il;have il:=(hv.below hb).get hx;obtain⟨b,o,rfl,hX,aP⟩:=il;have c0:wx.cell? ⟨b,o+i,none⟩=some (.int .i64 x):=by simpa[bH] using aP 0 _ rfl
  push_cast -dsimp[c0];refine⟨⟨by omega,by omega⟩,?_⟩;refine aA (hF x wx hb) ?_;rintro _ w1 ⟨rfl,fe⟩;have n0:=hb.trans (fe.mono hb.size);cases hg:g x with
  | true =>
   push_cast -dsimp;refine⟨?_,n0⟩;unfold firstIdx;rw[WE hx bO hg,if_pos (by omega)]
  | false =>
   push_cast -dsimp;refine⟨⟨by omega,by omega⟩,⟨i+1,rfl,by omega,?_,n0⟩,by rw[h8];simp only[intOf];omega⟩;intro y hy;rw[ht,List.mem_append,List.mem_singleton]at hy;rcases hy with hy|rfl
   ·exact bO y hy
   exact hg
 rw[List.take_of_length_le (by omega)]at bO;refine⟨?_,hb⟩;unfold firstIdx;rw[Lx bO,if_neg (by omega)]
theorem aCb (x:Nat)(at_:Int)(pc:Nat)(w:World)(hc:w.cell? ⟨pc,0,none⟩=some (.int .i64 at_)):ar Tryz.prog 30 [.int .i64 x,.pointer (some ⟨pc,0,none⟩)] w λr w'=>r=.bool (decide (at_<(x:Int)))/\Below w.heap.size w w':=by
 refine aE Tryz.func30 rfl (by kernel_rfl) [3] rfl ?_;push_cast -dsimp(maxSteps:=9^7) [Tryz.ntmps30];push_cast -dsimp[hc];exact Below.refl _ _
theorem Zh (x:Nat)(at_:Int)(pc:Nat)(w:World)(hc:w.cell? ⟨pc,0,none⟩=some (.int .i64 at_)):ar Tryz.prog 31 [.int .i64 x,.pointer (some ⟨pc,0,none⟩)] w λr w'=>r=.bool (decide (at_<=(x:Int)))/\Below w.heap.size w w':=by
 refine aE Tryz.func31 rfl (by kernel_rfl) [3] rfl ?_;push_cast -dsimp(maxSteps:=9^7) [Tryz.ntmps31];push_cast -dsimp[hc];exact Below.refl _ _
def Ko (a:Int)(x:Nat):Bool:=decide (a<(x:Int))
def AJ (a:Int)(x:Nat):Bool:=decide (a<=(x:Int))
def nL (l:List Nat)(a:Int):Value:=if firstIdx (Ko a) l<0 then .tuple #[.int .i64 0,.bool false] else .tuple #[.int .i64 (l.getD (firstIdx (Ko a) l).toNat 0:Nat),.bool true]
def Ng (l:List Nat)(a:Int):Value :=
 if l.findIdx (AJ a)=0 then .tuple #[.int .i64 0,.bool false] else .tuple #[.int .i64 (l.getD (l.findIdx (AJ a)-1) 0:Nat),.bool true]
theorem xM {g:Nat->Bool}{l:List Nat}(h:¬firstIdx g l<0):firstIdx g l<l.length/\firstIdx g l=(l.findIdx g:Int):=by
 unfold firstIdx at h ⊢
 split at h
 ·rename_i h';rw[if_pos h'];exact⟨by omega,rfl⟩
 exact absurd (by omega) h
theorem aAo (p:bN)(eb:Nat)(X:Nat->Prop)(t:List UInt8)(bs:List Nat)(Z0:bs.length<1000000)(a:Int)(w:World)(he:kL X w eb p t bs) :
  ar Tryz.prog 14 [.pointer (some ⟨eb,0,none⟩),.int .i64 a] w λr w'=>r=nL bs a/\Below w.heap.size w w':=by
 obtain⟨rv,av,hB,hP,hA,hAa⟩:=he.st;refine aE Tryz.func14 rfl (by kernel_rfl) [4,5] rfl ?_;push_cast -dsimp(maxSteps:=9^7) [Tryz.ntmps14];refine aR ?_;intro w1 aU;have fe:=aU.below;have pY:=aU.size;have d3:w1.cell? ⟨eb,3,none⟩=some av:=(hB.below fe hB.lt).cell rfl;have ca:w1.cell? ⟨w.heap.size,0,none⟩=some (.int .i64 a):=aU.cell rfl;push_cast -dsimp[d3];refine aA (A6 _ [.pointer (some ⟨w.heap.size,0,none⟩)] (Ko a) bs (by omega) X av w1 (hA.below fe) (λx w' h=>aCb x a _ w' ((h.cell (by show w.heap.size<_;omega)).trans ca))) ?_
 rintro _ w2 ⟨rfl,dh⟩;have fL:=fe.trans (dh.mono (by omega));have e3:w2.cell? ⟨eb,3,none⟩=some av:=(hB.below fL hB.lt).cell rfl;unfold nL;have eN:=hA.shape;obtain⟨aa,ac,rfl,ZZ⟩:=eN;by_cases hn:firstIdx (Ko a) bs<0
 ·rw[if_pos hn];push_cast -dsimp;exact⟨λ_=>fL,λh=>absurd hn h⟩
 rw[if_neg hn];have hf:=xM hn;obtain⟨hf1,hf2⟩:=hf;rw[hf2]at hn hf1 ⊢
 have il:=ae (l:=bs) (i:=bs.findIdx (Ko a)) (by omega);obtain⟨x,hx,_⟩:=il;have il:=(hA.below fL).get hx;obtain⟨b,o,rfl,_,aP⟩:=il;have c0:w2.cell? ⟨b,o+bs.findIdx (Ko a),none⟩=some (.int .i64 x):=by simpa[bH] using aP 0 _ rfl
 have H2:bs.getD ((bs.findIdx (Ko a):Nat):Int).toNat 0=x:=by rw[Int.toNat_natCast,List.getD_eq_getElem?_getD,hx];rfl
 rw[H2];generalize bs.findIdx (Ko a)=k at *
 push_cast -dsimp[e3,c0];exact⟨λh=>absurd h hn,λ_=>⟨⟨by omega,by omega⟩,fL⟩⟩
theorem aAn (p:bN)(eb:Nat)(X:Nat->Prop)(t:List UInt8)(bs:List Nat)(Z0:bs.length<1000000)(a:Int)(w:World)(he:kL X w eb p t bs) :
  ar Tryz.prog 17 [.pointer (some ⟨eb,0,none⟩),.int .i64 a] w λr w'=>r=Ng bs a/\Below w.heap.size w w':=by
 obtain⟨rv,av,hB,hP,hA,hAa⟩:=he.st;refine aE Tryz.func17 rfl (by kernel_rfl) [4,5] rfl ?_;push_cast -dsimp(maxSteps:=9^7) [Tryz.ntmps17];refine aR ?_;intro w1 aU;have fe:=aU.below;have pY:=aU.size;have d3:w1.cell? ⟨eb,3,none⟩=some av:=(hB.below fe hB.lt).cell rfl;have ca:w1.cell? ⟨w.heap.size,0,none⟩=some (.int .i64 a):=aU.cell rfl;push_cast -dsimp[d3];refine aA (A6 _ [.pointer (some ⟨w.heap.size,0,none⟩)] (AJ a) bs (by omega) X av w1 (hA.below fe) (λx w' h=>Zh x a _ w' ((h.cell (by show w.heap.size<_;omega)).trans ca))) ?_
 rintro _ w2 ⟨rfl,dh⟩;have fL:=fe.trans (dh.mono (by omega));have e3:w2.cell? ⟨eb,3,none⟩=some av:=(hB.below fL hB.lt).cell rfl;have eN:=hA.shape;obtain⟨aa,ac,rfl,ZZ⟩:=eN;have hle:bs.findIdx (AJ a)<=bs.length:=List.findIdx_le_length;have hfi:firstIdx (AJ a) bs=if bs.findIdx (AJ a)<bs.length then (bs.findIdx (AJ a):Int) else -1:=rfl
 rw[hfi];unfold Ng;have hA2:=hA.below fL;generalize bs.findIdx (AJ a)=k at *
 cases k with
 | zero =>
  by_cases hk:0<bs.length
  ·rw[if_pos hk];push_cast -dsimp;exact fL
  rw[if_neg hk];have Dk:bs.length=0:=by omega
  rw[Dk]at e3 ⊢
  push_cast -dsimp[e3];exact fL
 | succ n =>
  have il:=ae (l:=bs) (i:=n) (by omega);obtain⟨x,hx,_⟩:=il;have il:=hA2.get hx;obtain⟨b,o,rfl,_,aP⟩:=il;have c0:w2.cell? ⟨b,o+n,none⟩=some (.int .i64 x):=by simpa[bH] using aP 0 _ rfl
  have e1:((n:Nat):Int)+1-1=((n:Nat):Int):=by omega
  have H2:bs.getD (n+1-1) 0=x:=by rw[Nat.add_sub_cancel,List.getD_eq_getElem?_getD,hx];rfl
  rw[if_neg (Nat.succ_ne_zero n),H2];by_cases hk:n+1<bs.length
  ·rw[if_pos hk];push_cast -dsimp[e3,c0,e1];exact⟨λh=>by omega,λ_=>⟨λh=>by omega,λ_=>⟨⟨by omega,by omega⟩,⟨by omega,by omega⟩,fL⟩⟩⟩
  rw[if_neg hk];have Dk:bs.length=n+1:=by omega
  rw[Dk]at e3 ⊢
  push_cast -dsimp[e3,c0,e1];exact⟨λh=>by omega,λ_=>⟨⟨by omega,by omega⟩,⟨by omega,by omega⟩,fL⟩⟩
theorem aD4 (a b:Nat):((a:Int).tmod (b:Int))=((a % b:Nat):Int):=by
 rw[Int.tmod_eq_emod_of_nonneg (Int.natCast_nonneg _)];rfl
theorem my {x y:Nat}(hx:x<4294967296)(hy:y<4294967296):cE .or .u32 x y=((x ||| y:Nat):Int):=by
 simp only[cE,lx,BitVec.toNat_or,BitVec.toNat_ofNat];rw[Nat.mod_eq_of_lt (show x<2 ^ IntKind.u32.bits by show x<2 ^ 32;omega),Nat.mod_eq_of_lt (show y<2 ^ IntKind.u32.bits by show y<2 ^ 32;omega),eU,Nat.mod_eq_of_lt (Nat.or_lt_two_pow (n:=32) hx hy)]
theorem aD2 (s:List UInt8)(hs:s.length<9223372036854775807)(w:World):ar Tryz.prog 78 [str s] w λr w'=>r=.int .u32 (xA s)/\w'=w:=by
 refine aE Tryz.func78 rfl (by kernel_rfl) [2] rfl ?_;push_cast -dsimp(maxSteps:=9^7) [Tryz.ntmps78];refine aK [3,4,5,8,9,10,11,12,13,14,15,16,17,18,19,20,21,22] (λz wx=>∃(i a b:Nat),z 8=.int .i64 i/\z 3=.int .u32 a/\z 4=.int .u32 b/\i<=s.length/\a<65521/\b<65521/\pg a b (s.drop i)=pg 1 0 s/\wx=w) (λz _=>s.length-(intOf (z 8)).toNat) ?_ ?_
 ·exact⟨0,1,0,rfl,rfl,rfl,Nat.zero_le _,by omega,by omega,rfl,rfl⟩
 intro z wx hI;obtain⟨i,a,b,h8,h3,h4,hi,ha,hb,hg,hw⟩:=hI;push_cast -dsimp[h8,h3,h4];refine⟨λao=>?_,λeY=>?_⟩
 ·obtain⟨c,hc,_,hd,_⟩:=ae (l:=s) (i:=i) (by omega);rw[hd,pg]at hg;have iQ:=c.toNat_lt;have H2:s.getD i 0=c:=by rw[List.getD_eq_getElem?_getD,hc];rfl
  rw[H2,eU,Nat.mod_eq_of_lt (by omega),show (a:Int)+(c.toNat:Int)=((a+c.toNat:Nat):Int) by omega,eU,Nat.mod_eq_of_lt (show a+c.toNat<4294967296 by omega)]
  rw[show (65521:Int)=((65521:Nat):Int) from rfl,aD4]
  have hm:=Nat.mod_lt (a+c.toNat) (show 0<65521 by omega)
  generalize (a+c.toNat) % 65521=m at hm hg ⊢
  rw[show (b:Int)+(m:Int)=((b+m:Nat):Int) by omega,eU,Nat.mod_eq_of_lt (show b+m<4294967296 by omega),aD4]
  have eE:=Nat.mod_lt (b+m) (show 0<65521 by omega)
  generalize (b+m) % 65521=m2 at eE hg ⊢
  exact⟨⟨by omega,by omega⟩,⟨by omega,by omega⟩,⟨i+1,m,m2,rfl,rfl,rfl,by omega,hm,eE,hg,hw⟩,by simp only[intOf];omega⟩
 rw[List.drop_eq_nil_of_le (by omega),pg]at hg;have hp:xA s=b*65536+a:=by unfold xA;rw[<-hg]
 refine⟨?_,hw⟩;congr 1;rw[hp,show min 16 IntKind.u32.bits=16 from rfl,show ((b:Int)*2 ^ 16)=((b*2 ^ 16:Nat):Int) by simp,eU,Nat.mod_eq_of_lt (by omega),my (by omega) (by omega),pP (k:=16) (by omega)]
def Grow (w w':World)(v v':Value):Prop:=Kept (λj=>v.ownBlock=some j) w w'/\∀g,v'.ownBlock=some g->v.ownBlock=some g\/w.heap.size<=g
theorem Grow.refl (w:World)(v:Value):Grow w w v v:=⟨Kept.refl _ _,λ_ h=>.inl h⟩
theorem Grow.trans {a b c:World}{u v x:Value}(h:Grow a b u v)(k:Grow b c v x):Grow a c u x:=by
 have hs:=h.1.size;refine⟨h.1.trans k.1 (λi hi hv=>?_),λg hg=>?_⟩
 ·rcases h.2 i hv with h'|h'
  ·exact h'
  omega
 rcases k.2 g hg with h'|h'
 ·exact h.2 g h'
 exact .inr (by omega)
theorem Grow.still {a b:World}(v:Value)(h:Kept (λ_=>False) a b):Grow a b v v:=⟨h.weaken (λ_ _ h=>h.elim),λ_ h=>.inl h⟩
theorem Grow.put {a b c:World}{u v:Value}{e:TypeId}{p:Nat}{cs:List Value}(h:Grow a b u v)(hn:yd b c p e cs)(hp:a.heap.size<=p):Grow a c u v :=
 ⟨h.1.trans hn.kept (λi hi hh=>by omega),h.2⟩
theorem Grow.below {a b:World}{u v:Value}{base:Nat}{e:TypeId}{k:Nat}{α:Type}{enc:α->List Value}{l:List α}(h:Grow a b u v)(ho:Vc.Own base e k enc a u l)(hb:base<=a.heap.size):Below base a b :=
 h.1.below hb λi hi=>(ho.block i hi).1
theorem Grow.apart {a b:World}{u v:Value}(h:Grow a b u v){p:Nat}(hp:p<a.heap.size)(hu:u.ownBlock≠some p):v.ownBlock≠some p:=λhv=>by
 rcases h.2 p hv with h'|h'
 ·exact hu h'
 omega
theorem vC {α:Type}{a b:World}{u:Value}{base:Nat}{e:TypeId}{k:Nat}{enc:α->List Value}{l:List α}(ho:Vc.Own base e k enc a u l)(h:Kept (λ_=>False) a b):Vc.Own base e k enc b u l:=ho.aJ h (λ_ _ hh=>hh)
theorem tp {P:Program}{t:Fr}{w:World}{K:VK}{Q:EP}{bt ty e:TypeId}{base n c:Nat}{v:Value}{l:List UInt8}{w0:World}(ys:List UInt8){p}(hE:CI P bt=some (e,1,1))(ho:Vc.Own base e 1 jI w0 v l)(hw:mj w0 w e (ys.flatMap jI))
  (hn:ys.length=n) (hlen:l.length+ys.length<100000000000000) (hb:base<=w0.heap.size) (kk:∀v' w',Vc.Own base e 1 jI w' v' (l++ys)->Grow w0 w' v v'->K v' w') :
  ai P (Builtin.append_ #[bt,bt] ty [v,.slice (some ⟨w0.heap.size,0,none⟩) n c].toArray) t w K Q p :=
 aW (base:=base) ys hE (ho.new hw) hn (λj u hu=>by simpa using hw.cell hu) (by simp[jI,Value.oneCell']) (by omega) (by have:=hw.size;omega) λv' w2 lF Cz Z6 =>
  kk v' w2 lF ⟨(Kept.new hw (X:=λj=>v.ownBlock=some j)).trans (Kept.grown Cz λ_ h=>h) (λ_ _ h=>h),λg hg=>by
   rcases Z6 g hg with h|h
   ·exact .inl h
   exact .inr (by have:=hw.size;omega)⟩
theorem Jl {n:Nat}(h:n<4294967296):cE .or .u8 (IntKind.u8.wrap (cE .and .i64 (n:Int) 127)) 128=(((bt (n % 128+128)).toNat:Nat):Int):=by
 have hm:=Nat.mod_lt n (show 0<128 by omega)
 rw[show (127:Int)=((2 ^ 7-1:Nat):Int) from rfl,lO (by omega) (by omega),mF,fT,show n % 2 ^ 7=n % 128 from rfl,Nat.mod_eq_of_lt (by omega),show (128:Int)=((128:Nat):Int) from rfl,LZ (by omega) (by omega),iK (by omega)]
 have:=pP (p:=1) (x:=n % 128) (k:=7) (by omega);rw[Nat.or_comm];rw[show 1*2 ^ 7=128 from rfl]at this
 rw[this,Nat.add_comm]
theorem qn (base n:Nat)(l:List UInt8)(hn:n<2147483648)(Ws:l.length+(dw n).length<10000000000000)(v:Value)(w:World)(ho:Vc.Own base 5 1 jI w v l)(hb:base<=w.heap.size) :
  ar Tryz.prog 75 [v,.int .i64 n] w λv' w'=>Vc.Own base 5 1 jI w' v' (l++dw n)/\Grow w w' v v':=by
 refine aE Tryz.func75 rfl (by kernel_rfl) [4] rfl ?_;push_cast -dsimp(maxSteps:=9^7) [Tryz.ntmps75];refine aK [0,1,5,6,7,8,9,10,11,12,13,14,15] (λz wx=>∃(m:Nat) (l':List UInt8),z 1=.int .i64 m/\m<=n/\l'++dw m=l++dw n/\Vc.Own base 5 1 jI wx (z 0) l'/\Grow w wx v (z 0)) (λz _=>(intOf (z 1)).toNat) ?_ ?_
 ·exact⟨n,l,rfl,Nat.le_refl _,rfl,ho,Grow.refl _ _⟩
 intro z wx hI;obtain⟨m,l',h1,hm,hl',eG,il⟩:=hI;have hlen:=congrArg List.length hl';have hml:=qm m;simp only[List.length_append]at hlen;have oI:=il.1.size;push_cast -dsimp[h1];refine⟨λeY=>?_,λao=>?_⟩
 ·refine cH nY rfl rfl (by omega) ?_;intro w1 aU;rw[Jl (by omega)]at aU;push_cast -dsimp;refine tp (base:=base) [bt (m % 128+128)] nY eG aU rfl (by simp only[List.length_cons,List.length_nil];omega) (by omega) ?_;intro v' w2 lF Cz;push_cast -dsimp;have es:((m:Int).fdiv (2 ^ min 7 IntKind.i64.bits))=((m / 2 ^ 7:Nat):Int):=yw (b:=7) rfl (by show 7<=64;omega)
  rw[es,show m / 2 ^ 7=m / 128 from rfl]
  refine⟨⟨m / 128,_,rfl,by omega,?_,lF,il.trans Cz⟩,by rw[h1];simp only[intOf];omega⟩;rw[<-hl',Gl (n:=m) (by omega),List.append_assoc];rfl
 refine cH nY rfl rfl (by omega) ?_;intro w1 aU;rw[fT,Nat.mod_eq_of_lt (by omega)]at aU;have e1:((m:Nat):Int)=(((bt m).toNat:Nat):Int):=by rw[iK (by omega)]
 rw[e1]at aU;push_cast -dsimp;refine tp (base:=base) [bt m] nY eG aU rfl (by simp only[List.length_cons,List.length_nil];omega) (by omega) ?_;intro v' w2 lF Cz;push_cast -dsimp;rw[<-hl',rT (by omega)];exact⟨lF,il.trans Cz⟩
theorem aC9 (base:Nat)(b:Bool)(l:List UInt8)(Ws:l.length<10000000000000)(v:Value)(w:World)(ho:Vc.Own base 5 1 jI w v l)(hb:base<=w.heap.size) :
  ar Tryz.prog 76 [v,.bool b] w λv' w'=>Vc.Own base 5 1 jI w' v' (l++ri b)/\Grow w w' v v':=by
 refine aE Tryz.func76 rfl (by kernel_rfl) [4] rfl ?_;push_cast -dsimp(maxSteps:=9^7) [Tryz.ntmps76];cases b with
 | true =>
  push_cast -dsimp;refine cH nY rfl rfl (by omega) ?_;intro w1 aU;push_cast -dsimp;refine tp (base:=base) [1] nY ho aU rfl (by simp only[List.length_cons,List.length_nil];omega) (by omega) ?_;intro v' w2 lF Cz;push_cast -dsimp;exact⟨lF,Cz⟩
 | false =>
  push_cast -dsimp;refine cH nY rfl rfl (by omega) ?_;intro w1 aU;push_cast -dsimp;refine tp (base:=base) [0] nY ho aU rfl (by simp only[List.length_cons,List.length_nil];omega) (by omega) ?_;intro v' w2 lF Cz;push_cast -dsimp;exact⟨lF,Cz⟩
theorem qS {α:Type}{f:α->List UInt8}:∀{l:List α} {i:Nat} {x:α},l[i]?=some x->((l.take i).flatMap f).length+(f x).length<=(l.flatMap f).length
 | [],i,x,h=>by simp at h
 | y::l,0,x,h=>by simp at h;subst h;simp
 | y::l,i+1,x,h=>by
  have:=qS (f:=f) (l:=l) (i:=i) (x:=x) (by simpa using h);simp only[List.take_succ_cons,List.flatMap_cons,List.length_append];omega
theorem rN {α:Type}{f:α->List UInt8}{l:List α}{i:Nat}{x:α}(h:l.take (i+1)=l.take i++[x]):(l.take (i+1)).flatMap f=(l.take i).flatMap f++f x:=by
 rw[h,List.flatMap_append];simp
theorem oO (base:Nat)(z:Int)(l:List UInt8)(h0:0<=z)(hz:z<2147483648)(Ws:l.length+(dw z.toNat).length<10000000000000)(v:Value)(w:World)(ho:Vc.Own base 5 1 jI w v l)(hb:base<=w.heap.size) :
  ar Tryz.prog 75 [v,.int .i64 z] w λv' w'=>Vc.Own base 5 1 jI w' v' (l++dw z.toNat)/\Grow w w' v v':=by
 have e:z=((z.toNat:Nat):Int):=by omega
 have:=qn base z.toNat l (by omega) Ws v w ho hb;rwa [<-e]at this
theorem Dq {c:aD}(h:aV c=true){x:I3}(hx:x∈c.ins):(0<=x.op/\x.op<2147483648)/\(0<=x.a/\x.a<2147483648)/\(0<=x.b/\x.b<2147483648):=by
 have hc:=CR.of h;obtain⟨i,hi⟩:=List.getElem?_of_mem hx;have hr:=cK (hc.ins i x hi)
 have:=hc.sets
 have:=hc.many;omega
theorem xj {c:aD}(h:aV c=true){s:List Rg}(hs:s∈c.sets){r:Rg}(hr:r∈s):(0<=r.1/\r.1<2147483648)/\(0<=r.2/\r.2<2147483648):=by
 have hc:=CR.of h;obtain⟨i,hi⟩:=List.getElem?_of_mem hr;obtain⟨h1,h2,h3,_⟩:=bz s (-2) (hc.set s hs) i r hi;omega
theorem PY (base:Nat)(c:aD)(hc:aV c=true)(l:List UInt8)(Ws:l.length+(lC c).length<10000000000000)(v cv:Value)(w:World)(ho:Vc.Own base 5 1 jI w v l)(hb:base<=w.heap.size)
  (Tl:cM (λj=>base<=j) w cv c):ar Tryz.prog 77 [v,cv] w λv' w'=>Vc.Own base 5 1 jI w' v' (l++lC c)/\Grow w w' v v':=by
 obtain⟨sv,iv,rfl,tE,td⟩:=Tl;obtain⟨a1,c1,rfl,GS⟩:=tE.shape;obtain⟨a2,c2,rfl,uP⟩:=td.shape;have H0:=CR.of hc;have iS:=H0.sets;have tc:=H0.many;have MU:∀i,v.ownBlock=some i->base<=i:=λi hi=>(ho.block i hi).1;have G1:v.ownBlock≠some w.heap.size:=λh=>by have:=(ho.block _ h).2;omega
 have iQ:(lC c).length=(dw c.sets.length).length+(c.sets.flatMap pV).length+(dw c.ins.length).length+(c.ins.flatMap rp).length:=by simp only[lC,List.length_append]
 refine aE Tryz.func77 rfl (by kernel_rfl) [4] rfl ?_;push_cast -dsimp(maxSteps:=9^7) [Tryz.ntmps77];refine aR ?_;intro w1 aU;have d0:w1.cell? ⟨w.heap.size,0,none⟩=some (.slice a1 c.sets.length c1):=aU.cell rfl;have s1:=aU.size;push_cast -dsimp[d0];refine aA (qn base c.sets.length l (by have:=H0.sets;omega) (by omega) v w1 (ho.new aU) (by omega)) ?_;rintro v1 w2 ⟨lF,Cz⟩;have hG2:Grow w w2 v v1:=(Grow.still v (Kept.new aU)).trans Cz;have e0:w2.cell? ⟨w.heap.size,0,none⟩=some (.slice a1 c.sets.length c1):=Cz.1.cell d0 G1;have e1:w2.cell? ⟨w.heap.size,1,none⟩=some (.slice a2 c.ins.length c2):=Cz.1.cell (aU.cell rfl) G1;have aKp:v1.ownBlock≠some w.heap.size:=Cz.apart (by omega) G1;push_cast -dsimp[e0];refine aK [0,6,8,19,20,21,22,23,24,25,26,27,28,29,30,31,32,33,34,35,36,37,38,39,40,41] (λz wx=>∃(i:Nat),z 19=.int .i64 i/\i<=c.sets.length/\Vc.Own base 5 1 jI wx (z 0) (l++dw c.sets.length++(c.sets.take i).flatMap pV)/\Grow w2 wx v1 (z 0)) (λz _=>c.sets.length-(intOf (z 19)).toNat) ?_ ?_
 ·exact⟨0,rfl,Nat.zero_le _,(by simpa using lF:Vc.Own base 5 1 jI w2 v1 (l++dw c.sets.length++(c.sets.take 0).flatMap pV)),Grow.refl _ _⟩
 intro z wx hI;obtain⟨i,h19,hi,eG,il⟩:=hI;have hGx:=hG2.trans il;have sx:=hGx.1.size;push_cast -dsimp[h19];refine⟨λao=>?_,λeY=>?_⟩
 ·obtain⟨s,hs,RW,hd,ht⟩:=ae (l:=c.sets) (i:=i) (by omega);have CO:=qS (f:=pV) hs;obtain⟨b,o,cs,rfl,hX,hk,aP,u,rfl,hu⟩:=Sl.yL (dq.kept tE hGx.1 MU) hs;have cu:wx.cell? ⟨b,o+i,none⟩=some u:=by simpa using aP 0 u rfl
  obtain⟨a3,c3,rfl,hc3⟩:=hu.shape;push_cast -dsimp[cu];have pD:(pV s).length=(dw s.length).length+(s.flatMap ix).length:=by simp only[pV,List.length_append]
  have aRf:=qm s.length;refine⟨⟨by omega,by omega⟩,?_⟩;have hsn:s.length<10000000000000:=by have:=qQ BJ s;omega
  have hsq:=eI ((CR.of hc).set s RW);refine aA (qn base s.length _ (by omega) (by simp only[List.length_append];omega) (z 0) wx eG (by omega)) ?_;rintro v3 w3 ⟨mP,OF⟩;have hG3:=hGx.trans OF;have s3:=hG3.1.size;have hu3:=Sl.kept hu OF.1 (λj hj=>(eG.block j hj).1);push_cast -dsimp;refine aK [0,8,29,30,31,32,33,34,35,36,37,38,39,40] (λz' wy=>∃(j:Nat),z' 29=.int .i64 j/\j<=s.length/\Vc.Own base 5 1 jI wy (z' 0) (l++dw c.sets.length++(c.sets.take i).flatMap pV++dw s.length++(s.take j).flatMap ix)/\Grow w3 wy v3 (z' 0)) (λz' _=>s.length-(intOf (z' 29)).toNat) ?_ ?_
  ·exact⟨0,rfl,Nat.zero_le _,(by simpa using mP:Vc.Own base 5 1 jI w3 v3 (l++dw c.sets.length++(c.sets.take i).flatMap pV++dw s.length++(s.take 0).flatMap ix)),Grow.refl _ _⟩
  intro z' wy hI;obtain⟨j,h29,hj,tA,DA⟩:=hI;have hGy:=hG3.trans DA;have sy:=hGy.1.size;push_cast -dsimp[h29];refine⟨λJG=>?_,λMM=>?_⟩
  ·have hex:=ae (l:=s) (i:=j) (by omega);obtain⟨r,hx⟩:=hex;have hr:=hx.1;have DF:=hx.2.1;have Kz:=hx.2.2.2;have aKf:=xj hc RW DF;have vZ:=aKf.1;have uV:=aKf.2;have aJN:=qS (f:=ix) hr;have yS:=(Sl.kept hu3 DA.1 (λj hj=>(mP.block j hj).1)).get hr;obtain⟨b3,o3,rfl,hX3,MJ⟩:=yS;have ce:aB wy ⟨b3,o3+j*2,none⟩ 0 2=some [.int .i64 r.1,.int .i64 r.2]:=aj (bA r) 0 (λk u hu=>by simpa using MJ k u hu);push_cast -dsimp[ce];have Ky:(ix r).length=(dw r.1.toNat).length+(dw r.2.toNat).length:=by simp only[ix,List.length_append]
   refine⟨⟨by omega,by omega⟩,?_⟩;refine aq (z:=[.int .i64 0,.int .i64 0]) (by kernel_rfl) ?_;intro w4 ah;push_cast -dsimp;refine aH (n:=2) (by kernel_rfl) ah.aL rfl (by simp) (by simp[Value.oneCell']) ?_;intro w5 cI;have s4:=ah.size;have GG:aM w5 wy.heap.size 208 [.int .i64 r.1,.int .i64 r.2]:=cI.aL;have hG5:Grow wy w5 (z' 0) (z' 0):=(Grow.still _ (Kept.new ah)).put cI (Nat.le_refl _);have CW:Vc.Own base 5 1 jI w5 (z' 0) _:=(tA.new ah).aJ cI.kept (λg hg hh=>by have:=(tA.block g hg).2;omega);have sj:(z' 0).ownBlock≠some wy.heap.size:=λh=>by have:=(tA.block _ h).2;omega
   push_cast -dsimp;have s5:=hG5.1.size;have s6:=cI.size;refine b8 (λw'=>aM w' wy.heap.size 208 [.int .i64 r.1,.int .i64 r.2]) mixed (by kernel_rfl) GG.drew ?_;have f0:w5.drew.cell? ⟨wy.heap.size,0,none⟩=some (.int .i64 r.1):=GG.drew.cell rfl;push_cast -dsimp[f0];refine⟨λbB hC=>by rw[hC.cell (o:=0) rfl];exact rfl,?_⟩;refine aA (oO base r.1 _ vZ.1 vZ.2 (by simp only[List.length_append];omega) (z' 0) w5.drew (vC CW (Kept.refl _ _).drew) (by show base<=w5.heap.size;omega)) ?_
   rintro v6 w6 ⟨qD,Wl⟩;have rO:=GG.drew.kept Wl.1 sj;refine⟨rO,?_⟩;have f1:w6.cell? ⟨wy.heap.size,1,none⟩=some (.int .i64 r.2):=rO.cell rfl;push_cast -dsimp[f1];refine⟨λbB hC=>by rw[hC.cell (o:=1) rfl];exact rfl,?_⟩;have s7:=Wl.1.size;refine aA (oO base r.2 _ uV.1 uV.2 (by simp only[List.length_append];omega) v6 w6 qD (by have:w5.heap.size<=w6.heap.size:=s7;omega)) ?_;rintro v7 w7 ⟨mQ,wF⟩;have Ib:=rO.kept wF.1 (Wl.apart (by show wy.heap.size<w5.heap.size;omega) sj)
   refine⟨Ib,?_⟩;push_cast -dsimp;refine⟨⟨by omega,by omega⟩,⟨j+1,rfl,by omega,?_,DA.trans (hG5.trans ((Grow.still _ (Kept.refl _ _).drew).trans (Wl.trans wF)))⟩,by rw[h29];simp only[intOf];omega⟩;rw[rN Kz];simpa only[ix,List.append_assoc] using mQ
  have hj2:s.take j=s:=List.take_of_length_le (by omega);rw[hj2]at tA;refine⟨⟨by omega,by omega⟩,⟨i+1,rfl,by omega,?_,il.trans (OF.trans DA)⟩,by rw[h19];simp only[intOf];omega⟩;rw[rN ht];simpa only[pV,List.append_assoc] using tA
 have OI:c.sets.take i=c.sets:=List.take_of_length_le (by omega);rw[OI]at eG;have f1:=il.1.cell e1 aKp;have aNe:=il.apart (by have:=hG2.1.size;have:=Cz.1.size;omega) aKp;have tc:=H0.many;push_cast -dsimp[f1];refine aA (qn base c.ins.length _ (by omega) (by simp only[List.length_append];omega) (z 0) wx eG (by omega)) ?_;rintro v3 w3 ⟨mP,OF⟩;have hG3:=hGx.trans OF;have f3:=OF.1.cell f1 aNe;push_cast -dsimp[f3];refine aK [0,10,50,51,52,53,54,55,56,57,58,59,60,61,62,63,64] (λz' wy=>∃(j:Nat),z' 50=.int .i64 j/\j<=c.ins.length/\Vc.Own base 5 1 jI wy (z' 0) (l++dw c.sets.length++c.sets.flatMap pV++dw c.ins.length++(c.ins.take j).flatMap rp)/\Grow w3 wy v3 (z' 0)) (λz' _=>c.ins.length-(intOf (z' 50)).toNat) ?_ ?_
 ·exact⟨0,rfl,Nat.zero_le _,(by simpa using mP:Vc.Own base 5 1 jI w3 v3 (l++dw c.sets.length++c.sets.flatMap pV++dw c.ins.length++(c.ins.take 0).flatMap rp)),Grow.refl _ _⟩
 intro z' wy hI;obtain⟨j,h50,hj,tA,DA⟩:=hI;have hGy:=hG3.trans DA;have sy:=hGy.1.size;push_cast -dsimp[h50];refine⟨λJG=>?_,λMM=>?_⟩
 ·have hex:=ae (l:=c.ins) (i:=j) (by omega);obtain⟨x,hxx⟩:=hex;have hx:=hxx.1;have mR:=hxx.2.1;have hxt:=hxx.2.2.2;have XI:=Dq hc mR;have LD:=XI.1;have yi:=XI.2.1;have hx3:=XI.2.2;have aJN:=qS (f:=rp) hx;have yS:=(Sl.kept td hGy.1 MU).get hx;obtain⟨b3,o3,rfl,hX3,MJ⟩:=yS;have ce:aB wy ⟨b3,o3+j*3,none⟩ 0 3=some [.int .i64 x.op,.int .i64 x.a,.int .i64 x.b]:=aj (bR x) 0 (λk u hu=>by simpa using MJ k u hu);push_cast -dsimp[ce];have hxl:(rp x).length=(dw x.op.toNat).length+(dw x.a.toNat).length+(dw x.b.toNat).length:=by simp only[rp,List.length_append]
  refine⟨⟨by omega,by omega⟩,?_⟩;refine aq (z:=[.int .i64 0,.int .i64 0,.int .i64 0]) (by kernel_rfl) ?_;intro w4 ah;push_cast -dsimp;refine aH (n:=3) (by kernel_rfl) ah.aL rfl (by simp) (by simp[Value.oneCell']) ?_;intro w5 cI;have s4:=ah.size;have GG:aM w5 wy.heap.size 164 [.int .i64 x.op,.int .i64 x.a,.int .i64 x.b]:=cI.aL;have hG5:Grow wy w5 (z' 0) (z' 0):=(Grow.still _ (Kept.new ah)).put cI (Nat.le_refl _);have CW:Vc.Own base 5 1 jI w5 (z' 0) _:=(tA.new ah).aJ cI.kept (λg hg hh=>by have:=(tA.block g hg).2;omega);have sj:(z' 0).ownBlock≠some wy.heap.size:=λh=>by have:=(tA.block _ h).2;omega
  push_cast -dsimp;have s5:=hG5.1.size;have s6:=cI.size;refine b8 (λw'=>aM w' wy.heap.size 164 [.int .i64 x.op,.int .i64 x.a,.int .i64 x.b]) mixed (by kernel_rfl) GG.drew ?_;have f0:w5.drew.cell? ⟨wy.heap.size,0,none⟩=some (.int .i64 x.op):=GG.drew.cell rfl;push_cast -dsimp[f0];refine⟨λbB hC=>by rw[hC.cell (o:=0) rfl];exact rfl,?_⟩;refine aA (oO base x.op _ LD.1 LD.2 (by simp only[List.length_append];omega) (z' 0) w5.drew (vC CW (Kept.refl _ _).drew) (by show base<=w5.heap.size;omega)) ?_
  rintro v6 w6 ⟨qD,Wl⟩;have rO:=GG.drew.kept Wl.1 sj;have aJc:=Wl.apart (by show wy.heap.size<w5.heap.size;omega) sj
  refine⟨rO,?_⟩;have f1:w6.cell? ⟨wy.heap.size,1,none⟩=some (.int .i64 x.a):=rO.cell rfl;push_cast -dsimp[f1];refine⟨λbB hC=>by rw[hC.cell (o:=1) rfl];exact rfl,?_⟩;have s7:w5.heap.size<=w6.heap.size:=Wl.1.size;refine aA (oO base x.a _ yi.1 yi.2 (by simp only[List.length_append];omega) v6 w6 qD (by omega)) ?_;rintro v7 w7 ⟨mQ,wF⟩;have Ib:=rO.kept wF.1 aJc;have aAT:=wF.apart (by omega) aJc;refine⟨Ib,?_⟩;have f2:w7.cell? ⟨wy.heap.size,2,none⟩=some (.int .i64 x.b):=Ib.cell rfl;push_cast -dsimp[f2];refine⟨λbB hC=>by rw[hC.cell (o:=2) rfl];exact rfl,?_⟩;have s8:=wF.1.size;refine aA (oO base x.b _ hx3.1 hx3.2 (by simp only[List.length_append];omega) v7 w7 mQ (by omega)) ?_;rintro v8 w8 ⟨rQ,Dg⟩;refine⟨Ib.kept Dg.1 aAT,?_⟩;push_cast -dsimp;refine⟨⟨by omega,by omega⟩,⟨j+1,rfl,by omega,?_,DA.trans (hG5.trans ((Grow.still _ (Kept.refl _ _).drew).trans (Wl.trans (wF.trans Dg))))⟩,by rw[h50];simp only[intOf];omega⟩;rw[rN hxt];simpa only[rp,List.append_assoc] using rQ
 have hj2:c.ins.take j=c.ins:=List.take_of_length_le (by omega);rw[hj2]at tA;refine⟨?_,hGy⟩;simpa only[lC,List.append_assoc] using tA
theorem uy {n:Nat}(h:n<2147483648):(dw n).length<=5:=Jk 5 n (by omega) (by omega)
theorem I8 {α:Type}{f:α->List UInt8}{k:Nat}:∀(l:List α),(∀x∈l,(f x).length<=k)->(l.flatMap f).length<=l.length*k
 | [],_=>by simp
 | x::l,h=>by
  have h1:=h x (by simp);have h2:=I8 l (λy hy=>h y (by simp[hy]));simp only[List.flatMap_cons,List.length_append,List.length_cons,Nat.add_mul];omega
theorem xm {c:aD}(hr:aV c=true):(lC c).length<=83886126000:=by
 have hc:=CR.of hr;have h1:=hc.sets;have h2:=hc.many;have e1:(c.sets.flatMap pV).length<=c.sets.length*41943045:=I8 _ λs hs=>by
  have:=I8 (f:=ix) (k:=10) s (λr DF=>by
   obtain⟨g1,g2⟩:=xj hr hs DF
   have:=uy (n:=r.1.toNat) (by omega)
   have:=uy (n:=r.2.toNat) (by omega);simp only[ix,List.length_append];omega)
  have:=eI (hc.set s hs)
  have:=uy (n:=s.length) (by omega);simp only[pV,List.length_append];omega
 have e2:(c.ins.flatMap rp).length<=c.ins.length*15:=I8 _ λx hx=>by
  obtain⟨g1,g2,g3⟩:=Dq hr hx
  have:=uy (n:=x.op.toNat) (by omega)
  have:=uy (n:=x.a.toNat) (by omega)
  have:=uy (n:=x.b.toNat) (by omega);simp only[rp,List.length_append];omega
 have:=uy (n:=c.sets.length) (by omega)
 have:=uy (n:=c.ins.length) (by omega);simp only[lC,List.length_append];omega
theorem BH {p:bN}(hr:az p=true):(iE p).length<9000000000000:=by
 obtain⟨h1,h3⟩:=eD hr;have e1:(p.rules.flatMap lJ).length<=p.rules.length*167772252001:=I8 _ λr DF=>by
  obtain⟨k1,k2⟩:=h3 r DF
  have:=xm k1
  have:=xm k2;simp only[lJ,ri,List.length_append,List.length_cons,List.length_nil];omega
 have:=uy (n:=p.rules.length) (by omega);simp only[iE,ri,List.length_append,List.length_cons,List.length_nil];omega
theorem Hu {c:aD}(hr:aV c=true):mr c:=by
 have hc:=CR.of hr;have h1:=hc.sets;have h2:=hc.many;exact⟨λs hs=>by have:=eI (hc.set s hs);omega,by omega,by omega⟩
theorem vD {p:bN}(hr:az p=true):jL p:=by
 obtain⟨h1,h3⟩:=eD hr;exact⟨by omega,λr DF=>⟨Hu (h3 r DF).1,Hu (h3 r DF).2⟩⟩
theorem YT {p:bN}(hr:az p=true):Gv p:=by
 obtain⟨h1,h3⟩:=eD hr;have hc:∀c,aV c=true->rJ c:=λc h s hs=>by have:=eI ((CR.of h).set s hs);omega
 exact λr DF=>⟨hc _ (h3 r DF).1,hc _ (h3 r DF).2⟩
theorem Bm {u k:Nat}(hu:u<4294967296)(hb:k<=32):IntKind.u8.wrap ((u:Int).fdiv (2 ^ min k IntKind.u32.bits))=(((bt (u / 2 ^ k % 256)).toNat:Nat):Int):=by
 have e:=yw (p:=u) (k:=k) (b:=(k:Int)) (kd:=.u32) (by omega) hb;rw[Int.toNat_natCast]at e;rw[e,fT,iK (by omega)]
theorem aC2 (p:bN)(hl:jL p)(Dn:az p=true->(iE p).length<9000000000000)(v:Value)(w:World)(hv:gd (λ_=>False) w v p) :
  ar Tryz.prog 48 [v] w λr w'=>r=(if az p=true then .tuple #[str (jA p),.nilIface] else .tuple #[str [],.iface 74 (.int .i64 1)])/\Below w.heap.size w w':=by
 have qF:gd (λj=>w.heap.size<=j) w v p:=hv.narrow λb hb hh=>by omega
 obtain⟨rv,rfl,hr⟩:=qF;obtain⟨a,c,rfl,hc⟩:=hr.shape;have Ha:(iE p).length=1+(dw p.rules.length).length+(p.rules.flatMap lJ).length:=by simp only[iE,ri,List.length_append,List.length_cons,List.length_nil]
 refine aE Tryz.func48 rfl (by kernel_rfl) [2,3] rfl ?_;push_cast -dsimp(maxSteps:=9^7) [Tryz.ntmps48];refine aR ?_;intro w1 aU;have iS:dC (.agg #[.slice a p.rules.length c,.bool p.dG])=[.slice a p.rules.length c,.bool p.dG]:=rfl;rw[iS]at aU;have pY:=aU.size;have d1:aB w1 ⟨w.heap.size,0,none⟩ 0 2=some [.slice a p.rules.length c,.bool p.dG]:=aU.aL.aB;push_cast -dsimp[d1];refine aA (j1 p hl (λ_=>False) _ w1 (hv.below aU.below)) ?_;rintro _ w2 ⟨rfl,dh⟩;have Bn:=dh.size;have fL:=aU.below.trans (dh.mono (by omega));have ZW:aM w2 w.heap.size 71 [.slice a p.rules.length c,.bool p.dG]:=aU.aL.below dh (by omega);cases hpr:az p with
 | false =>
  push_cast -dsimp;exact fL
 | true =>
  have Dn:=Dn hpr;push_cast -dsimp;obtain⟨aUA,aKe⟩:=eD hpr;refine b8 (λw'=>aM w' w.heap.size 71 [.slice a p.rules.length c,.bool p.dG]) mixed (by kernel_rfl) ZW.drew ?_;have f1:w2.drew.cell? ⟨w.heap.size,1,none⟩=some (.bool p.dG):=ZW.drew.cell rfl;push_cast -dsimp[f1];refine⟨λbB hC=>by rw[hC.cell (o:=1) rfl];exact rfl,?_⟩;refine aA (aC9 w.heap.size p.dG [] (by simp) _ w2.drew (Vc.Own.nil (enc:=jI) _ _ (λ_=>rfl) _) fL.size) ?_;rintro v3 w3 ⟨mP,OF⟩;have hP3:=ZW.drew.kept OF.1 (by simp[Value.ownBlock]);have aJb:v3.ownBlock≠some w.heap.size:=OF.apart (by show w.heap.size<w2.heap.size;omega) (by simp[Value.ownBlock])
  have LF:w2.heap.size<=w3.heap.size:=OF.1.size;have Ly:Below w.heap.size w w3:=fL.drew.trans (OF.below (Vc.Own.nil (enc:=jI) w.heap.size 5 (k:=1) (λ_=>rfl) w2.drew) fL.size);refine⟨hP3,?_⟩;have f3:w3.cell? ⟨w.heap.size,0,none⟩=some (.slice a p.rules.length c):=hP3.cell rfl;push_cast -dsimp[f3];refine⟨λbB hC=>by rw[hC.cell (o:=0) rfl];exact rfl,?_⟩;refine aA (qn w.heap.size p.rules.length _ (by omega) (by simp only[ri,List.nil_append,List.length_cons,List.length_nil];omega) v3 w3 mP (by omega)) ?_;rintro v4 w4 ⟨kU,hg4⟩;have hP4:=hP3.kept hg4.1 aJb;have aTG:v4.ownBlock≠some w.heap.size:=hg4.apart (by omega) aJb;have KZ:=hg4.1.size;have Cq:Below w.heap.size w w4:=Ly.trans (hg4.below mP (by omega));refine⟨hP4,?_⟩;have f4:w4.cell? ⟨w.heap.size,0,none⟩=some (.slice a p.rules.length c):=hP4.cell rfl;rw[List.nil_append]at kU;push_cast -dsimp[f4];refine aK [4,6,22,23,24,25,26,27,28,29,30,31,32,33,34,35,36] (λz wx=>∃(i:Nat),z 22=.int .i64 i/\i<=p.rules.length/\Vc.Own w.heap.size 5 1 jI wx (z 4) (ri p.dG++dw p.rules.length++(p.rules.take i).flatMap lJ)/\Grow w4 wx v4 (z 4)) (λz _=>p.rules.length-(intOf (z 22)).toNat) ?_ ?_
  ·exact⟨0,rfl,Nat.zero_le _,(by simpa using kU:Vc.Own w.heap.size 5 1 jI w4 v4 (ri p.dG++dw p.rules.length++(p.rules.take 0).flatMap lJ)),Grow.refl _ _⟩
  intro z wx hI;obtain⟨i,h22,hi,eG,il⟩:=hI;have ya:=il.1.size;have oE:Below w.heap.size w wx:=Cq.trans (il.below kU (by omega));push_cast -dsimp[h22];refine⟨λao=>?_,λeY=>?_⟩
  ·have hex:=ae (l:=p.rules) (i:=i) (by omega);obtain⟨r,hex⟩:=hex;have XA:=hex.1;have DF:=hex.2.1;have Kz:=hex.2.2.2;have CO:=qS (f:=lJ) XA;have yS:=Sl.yL (oe.below hr oE) XA;obtain⟨b,o,cs,rfl,hX,hk,aP,s1,i1,s2,i2,rfl,GS,uP⟩:=yS;have ce:aB wx ⟨b,o+i*5,none⟩ 0 5=some [.bool r.brk,s1,i1,s2,i2]:=aj [.bool r.brk,s1,i1,s2,i2] 0 (λj u hu=>by simpa using aP j u hu);push_cast -dsimp[ce];have Ky:(lJ r).length=1+(lC r.before).length+(lC r.after).length:=by simp only[lJ,ri,List.length_append,List.length_cons,List.length_nil]
   have Z0:(ri p.dG).length=1:=by simp only[ri,List.length_cons,List.length_nil]
   have aTI:(ri r.brk).length=1:=by simp only[ri,List.length_cons,List.length_nil]
   refine⟨⟨by omega,by omega⟩,?_⟩;refine aq (z:=[.bool false,.slice none 0 0,.slice none 0 0,.slice none 0 0,.slice none 0 0]) (by kernel_rfl) ?_;intro w5 cI;push_cast -dsimp;refine aH (n:=5) (by kernel_rfl) cI.aL rfl (by simp) (by
    obtain⟨_,_,e1,g1,g2⟩:=GS;cases e1;obtain⟨_,_,rfl,_⟩:=g1.shape;obtain⟨_,_,rfl,_⟩:=g2.shape;obtain⟨_,_,e2,g3,g4⟩:=uP;cases e2;obtain⟨_,_,rfl,_⟩:=g3.shape;obtain⟨_,_,rfl,_⟩:=g4.shape;simp[Value.oneCell']) ?_
   intro w6 bQ;have NQ:=cI.size;have rO:aM w6 wx.heap.size 129 [.bool r.brk,s1,i1,s2,i2]:=bQ.aL;have hG6:Grow wx w6 (z 4) (z 4):=(Grow.still _ (Kept.new cI)).put bQ (Nat.le_refl _);have qD:Vc.Own w.heap.size 5 1 jI w6 (z 4) _:=(eG.new cI).aJ bQ.kept (λg hg hh=>by have:=(eG.block g hg).2;omega);have sj:(z 4).ownBlock≠some wx.heap.size:=λh=>by have:=(eG.block _ h).2;omega
   have hbX:∀g,(z 4).ownBlock=some g->w.heap.size<=g:=λg hg=>(eG.block g hg).1;push_cast -dsimp;have K0:=bQ.size;have aMu:Below w.heap.size wx w6:=hG6.below eG (by omega);refine b8 (λw'=>aM w' wx.heap.size 129 [.bool r.brk,s1,i1,s2,i2]) mixed (by kernel_rfl) rO.drew ?_;have f0:w6.drew.cell? ⟨wx.heap.size,0,none⟩=some (.bool r.brk):=rO.drew.cell rfl;push_cast -dsimp[f0];refine⟨λbB hC=>by rw[hC.cell (o:=0) rfl];exact rfl,?_⟩;refine aA (aC9 w.heap.size r.brk _ (by simp only[List.length_append];omega) (z 4) w6.drew (vC qD (Kept.refl _ _).drew) (by show w.heap.size<=w6.heap.size;omega)) ?_
   rintro v7 w7 ⟨mQ,wF⟩;have Ib:=rO.drew.kept wF.1 sj;have aAT:=wF.apart (by show wx.heap.size<w6.heap.size;omega) sj
   have K1:w6.heap.size<=w7.heap.size:=wF.1.size;have aIB:Below w.heap.size wx w7:=aMu.drew.trans (wF.below (vC qD (Kept.refl _ _).drew) (by show w.heap.size<=w6.heap.size;omega))
   refine⟨Ib,?_⟩;have f1:aB w7 ⟨wx.heap.size,1,none⟩ 0 2=some [s1,i1]:=ju (n:=2) (xs:=[s1,i1]) Ib 1 rfl rfl;push_cast -dsimp[f1];refine⟨λbB hC=>by rw[ju (n:=2) (xs:=[s1,i1]) hC 1 rfl rfl];exact rfl,?_⟩;refine aA (PY w.heap.size r.before (aKe r DF).1 _ (by simp only[List.length_append];omega) v7 _ w7 mQ (by omega) (GS.mono (λb hb ao=>aIB.block b (Classical.byContradiction λhh=>hb (by omega))) (λ_ h=>h))) ?_;rintro v8 w8 ⟨rQ,Dg⟩;have ZQ:=Ib.kept Dg.1 aAT;have aNf:=Dg.apart (by omega) aAT;have sz8:=Dg.1.size;have aMv:Below w.heap.size wx w8:=aIB.trans (Dg.below mQ (by omega));refine⟨ZQ,?_⟩;have f3:aB w8 ⟨wx.heap.size,3,none⟩ 0 2=some [s2,i2]:=ju (n:=2) (xs:=[s2,i2]) ZQ 3 rfl rfl;push_cast -dsimp[f3];refine⟨λbB hC=>by rw[ju (n:=2) (xs:=[s2,i2]) hC 3 rfl rfl];exact rfl,?_⟩;refine aA (PY w.heap.size r.after (aKe r DF).2 _ (by simp only[List.length_append];omega) v8 _ w8 rQ (by omega) (uP.mono (λb hb ao=>aMv.block b (Classical.byContradiction λhh=>hb (by omega))) (λ_ h=>h))) ?_;rintro v9 w9 ⟨yV,Z3⟩;refine⟨ZQ.kept Z3.1 aNf,?_⟩;push_cast -dsimp;refine⟨⟨by omega,by omega⟩,⟨i+1,rfl,by omega,?_,il.trans (hG6.trans ((Grow.still _ (Kept.refl _ _).drew).trans (wF.trans (Dg.trans Z3))))⟩,by rw[h22];simp only[intOf];omega⟩;rw[rN Kz];simpa only[lJ,List.append_assoc] using yV
  have OI:p.rules.take i=p.rules:=List.take_of_length_le (by omega);rw[OI]at eG;have eG:Vc.Own w.heap.size 5 1 jI wx (z 4) (iE p):=eG;obtain⟨a9,c9,h4⟩:=eG.slice;rw[h4]at eG;push_cast -dsimp[h4];refine aGN (e:=5) (by kernel_rfl) (by kernel_rfl) (by kernel_rfl) eG.sl ?_;push_cast -dsimp;refine aA (aD2 (iE p) (by omega) wx) ?_;rintro _ w5 ⟨rfl,rfl⟩;push_cast -dsimp;have hu:=PQ (iE p);rw[<-h4]at eG;refine cH nY rfl rfl (by omega) ?_;intro w6 bQ;have JM:mj w5 w6 5 ((HM (xA (iE p))).flatMap jI):=by
   have e0:IntKind.u8.wrap ((xA (iE p):Nat):Int)=(((bt (xA (iE p) % 256)).toNat:Nat):Int):=by rw[fT,iK (by omega)]
   rw[Bm (k:=8) hu (by omega),Bm (k:=16) hu (by omega),Bm (k:=24) hu (by omega),e0]at bQ;exact bQ
  push_cast -dsimp;refine tp (base:=w.heap.size) (HM (xA (iE p))) nY eG JM rfl (by rw[Yy];omega) (by omega) ?_;intro v7 w7 mQ wF;obtain⟨a8,c8,rfl⟩:=mQ.slice;push_cast -dsimp;refine aGN (e:=5) (by kernel_rfl) (by kernel_rfl) (by kernel_rfl) mQ.sl ?_;push_cast -dsimp;exact⟨rfl,oE.trans (wF.below eG (by omega))⟩
theorem ES (bad:Bool):∀(s:List UInt8) (i n:Nat),i<=4->n<128 ^ i->(kJ bad i n s).1<268435456
 | [],_,_,_,_=>by rw[kJ];omega
 | c::r,i,n,hi,hn=>by
  rw[kJ];split
  ·omega
  rename_i h4;have h5:i=0\/i=1\/i=2\/i=3:=by omega
  split
  ·rename_i hc;rcases h5 with rfl|rfl|rfl|rfl<;>simp only[Nat.reducePow]at hn ⊢<;>omega
  refine ES bad r (i+1) _ (by omega) ?_;have hm:=Nat.mod_lt c.toNat (show 0<128 by omega)
  rcases h5 with rfl|rfl|rfl|rfl<;>simp only[Nat.reducePow,Nat.reduceAdd]at hn ⊢<;>omega
theorem ER (bad:Bool):∀(s:List UInt8) (i n:Nat),(kJ bad i n s).2.1.length<=s.length
 | [],_,_=>by rw[kJ];simp
 | c::r,i,n=>by
  rw[kJ];split
  ·simp
  split
  ·simp
  have:=ER bad r (i+1) (n+c.toNat % 128*128 ^ i);simp only[List.length_cons];omega
theorem vG (x:St):(dE x).1<268435456:=ES x.bad x.s 0 0 (by omega) (by omega)
theorem j3 (x:St):(dE x).2.s.length<=x.s.length:=ER x.bad x.s 0 0
theorem rZ (x:St):(cF x).1<=(cF x).2.s.length:=by
 unfold cF;split
 ·exact Nat.zero_le _
 omega
theorem rY (x:St):(cF x).1<268435456:=by
 have:=vG x;unfold cF;split
 ·show 0<_;omega
 omega
theorem oU (x:St):(cF x).2.s.length<=x.s.length:=by
 have:=j3 x;unfold cF;split<;>exact this
theorem BK (x:St):(eF x).2.s.length<=x.s.length:=j3 x
theorem yo {n c i:Nat}(hi:i<4)(hn:n<128 ^ i)(hc:c<256) :
  cE .or .i64 (n:Int) (IntKind.i64.wrap (IntKind.i64.wrap (cE .and .u8 (c:Int) 127)*2 ^ min (7*(i:Int)).toNat IntKind.i64.bits))=((n+c % 128*128 ^ i:Nat):Int):=by
 have hm:=Nat.mod_lt c (show 0<128 by omega)
 have e1:cE .and .u8 (c:Int) 127=((c % 128:Nat):Int):=by
  rw[show (127:Int)=((2 ^ 7-1:Nat):Int) from rfl,qH (by omega) (by omega),mF]
 rw[e1,cX (by omega)];have h5:i=0\/i=1\/i=2\/i=3:=by omega
 rcases h5 with rfl|rfl|rfl|rfl
 ·rw[show min (7*((0:Nat):Int)).toNat IntKind.i64.bits=0 from rfl,show (((c % 128:Nat):Int)*2 ^ 0)=((c % 128:Nat):Int) by simp,cX (by omega),kB (by omega) (by omega)]
  have:n=0:=by simpa using hn
  subst this;simp
 all_goals
  simp only[Nat.reducePow]at hn ⊢
  first
  | (rw[show min (7*((1:Nat):Int)).toNat IntKind.i64.bits=7 from rfl,show (((c % 128:Nat):Int)*2 ^ 7)=((c % 128*2 ^ 7:Nat):Int) by simp,cX (by omega),kB (by omega) (by omega),Nat.or_comm,pP (by omega)];congr 1;omega)
  | (rw[show min (7*((2:Nat):Int)).toNat IntKind.i64.bits=14 from rfl,show (((c % 128:Nat):Int)*2 ^ 14)=((c % 128*2 ^ 14:Nat):Int) by simp,cX (by omega),kB (by omega) (by omega),Nat.or_comm,pP (by omega)];congr 1;omega)
  | (rw[show min (7*((3:Nat):Int)).toNat IntKind.i64.bits=21 from rfl,show (((c % 128:Nat):Int)*2 ^ 21)=((c % 128*2 ^ 21:Nat):Int) by simp,cX (by omega),kB (by omega) (by omega),Nat.or_comm,pP (by omega)];congr 1;omega)
theorem vE {a b c:World}{p:Nat}{e:TypeId}{xs ys:List Value}(h:yd a b p e xs)(k:yd b c p e ys):yd a c p e ys:=⟨k.aL,h.kept.trans k.kept (λ_ _ h=>h),k.size.trans h.size⟩
def Gz (w:World)(p:Nat)(x:St):Prop:=aM w p 172 [str x.s,.bool x.bad]
theorem tQ (x:St)(p:Nat)(w:World)(hs:x.s.length<10000000000000)(hB:Gz w p x) :
  ar Tryz.prog 118 [.pointer (some ⟨p,0,none⟩)] w λr w'=>r=.int .i64 (dE x).1/\yd w w' p 172 [str (dE x).2.s,.bool (dE x).2.bad]:=by
 have o8:aM w p 172 [str x.s,.bool x.bad]:=hB;have c0:w.cell? ⟨p,0,none⟩=some (str x.s):=o8.cell rfl;have c1:w.cell? ⟨p,1,none⟩=some (.bool x.bad):=o8.cell rfl;refine aE Tryz.func118 rfl (by kernel_rfl) [2] rfl ?_;push_cast -dsimp(maxSteps:=9^7) [Tryz.ntmps118];push_cast -dsimp[c0];refine aK [2,3,4,5,12,13,14,15,16,17,18,19,20,21,22,23,24,25,26,27,28,29,30,31,32,33,34,35,36,37,38,39,40,41,42,43,44,45,46,47,48,49,50,51,52,53,54,55,56,57] (λz wx=>∃(i n:Nat),z 12=.int .i64 i/\z 3=.int .i64 n/\i<=x.s.length/\i<=4/\n<128 ^ i/\kJ x.bad i n (x.s.drop i)=kJ x.bad 0 0 x.s/\wx=w) (λz _=>x.s.length-(intOf (z 12)).toNat) ?_ ?_
 ·exact⟨0,0,rfl,rfl,Nat.zero_le _,by omega,by omega,rfl,rfl⟩
 intro z wx hI;obtain⟨i,n,vu,h3,hi,hi4,hn,hg,hw⟩:=hI;subst hw;push_cast -dsimp[vu,h3,c0];refine⟨λao=>?_,λeY=>?_⟩
 ·have qX:i<x.s.length/\i<4:=by split at ao<;>omega
  obtain⟨c,hc,_,hd,_⟩:=ae (l:=x.s) (i:=i) qX.1;have H2:x.s.getD i 0=c:=by rw[List.getD_eq_getElem?_getD,hc];rfl
  have iQ:c.toNat<256:=c.toNat_lt;rw[H2];rw[hd,kJ,if_neg (by omega)]at hg;refine⟨⟨by omega,by omega⟩,⟨by omega,by omega⟩,by omega,λGS=>?_,λGS=>?_⟩
  ·rw[if_pos (by omega)]at hg;have kF:∀w1,yd wx w1 p 172 [str x.s,.bool (x.bad || (decide (0<i) && decide (c.toNat=0)))]->∀w2,yd w1 w2 p 172 [str (x.s.drop (i+1)),.bool (x.bad || (decide (0<i) && decide (c.toNat=0)))] ->
     Value.int IntKind.i64 ((n+c.toNat % 128*128 ^ i:Nat):Int)=Value.int IntKind.i64 ((dE x).1:Int)/\yd wx w2 p 172 [str (dE x).2.s,.bool (dE x).2.bad]:=λw1 aU w2 bJ=>by
    have e:dE x=(n+c.toNat % 128*128 ^ i,⟨x.s.drop (i+1),x.bad || (decide (0<i) && decide (c.toNat=0))⟩):=by
     rw[Nat.mod_eq_of_lt (show c.toNat<128 by omega)]
     unfold dE;rw[<-hg]
    rw[e];exact⟨rfl,vE aU bJ⟩
   have Wk:∀(bd:Bool),bd=(x.bad || (decide (0<i) && decide (c.toNat=0)))->∀w1,yd wx w1 p 172 [str x.s,.bool bd]->∀w2,yd w1 w2 p 172 [str (x.s.drop (i+1)),.bool bd] ->
     Value.int IntKind.i64 ((n+c.toNat % 128*128 ^ i:Nat):Int)=Value.int IntKind.i64 ((dE x).1:Int)/\yd wx w2 p 172 [str (dE x).2.s,.bool (dE x).2.bad]:=λbd pz=>by subst pz;exact kF
   cases uN:x.bad with
   | true =>
    rw[uN]at c1 o8;push_cast -dsimp[c1];refine aC o8 (by simp) rfl ?_;intro w1 aU;have d0:w1.cell? ⟨p,0,none⟩=some (str x.s):=aU.aL.cell rfl;push_cast -dsimp[d0];refine⟨⟨by omega,by omega⟩,⟨by omega,by omega⟩,?_⟩;refine aC aU.aL (by simp) rfl ?_;intro w2 bJ;push_cast -dsimp;rw[yo qX.2 hn iQ];refine Wk true (by rw[uN];rfl) w1 aU w2 ?_;have e:((i:Int)+1).toNat=i+1:=by omega
    rw[e]at bJ;exact bJ
   | false =>
    rw[uN]at c1 o8;push_cast -dsimp[c1];have e:((i:Int)+1).toNat=i+1:=by omega
    refine⟨λZ4=>?_,λZ4=>?_⟩
    ·refine aC o8 (by simp) rfl ?_;intro w1 aU;have d0:w1.cell? ⟨p,0,none⟩=some (str x.s):=aU.aL.cell rfl;push_cast -dsimp[d0];refine⟨⟨by omega,by omega⟩,⟨by omega,by omega⟩,?_⟩;refine aC aU.aL (by simp) rfl ?_;intro w2 bJ;push_cast -dsimp;rw[yo qX.2 hn iQ];refine Wk _ ?_ w1 aU w2 (by rw[e]at bJ;exact bJ);rw[uN,decide_eq_true (show 0<i by omega),Bool.true_and,Bool.false_or,decide_eq_decide]
     omega
    refine aC o8 (by simp) rfl ?_;intro w1 aU;have d0:w1.cell? ⟨p,0,none⟩=some (str x.s):=aU.aL.cell rfl;push_cast -dsimp[d0];refine⟨⟨by omega,by omega⟩,⟨by omega,by omega⟩,?_⟩;refine aC aU.aL (by simp) rfl ?_;intro w2 bJ;push_cast -dsimp;rw[yo qX.2 hn iQ];refine Wk _ ?_ w1 aU w2 (by rw[e]at bJ;exact bJ);rw[uN,decide_eq_false (show ¬0<i by omega),Bool.false_and,Bool.false_or]
  refine⟨⟨by omega,by omega⟩,⟨i+1,_,rfl,congrArg _ (yo qX.2 hn iQ),by omega,by omega,?_,?_⟩,by simp only[intOf];omega⟩
  ·have hm:=Nat.mod_lt c.toNat (show 0<128 by omega)
   have h5:i=0\/i=1\/i=2\/i=3:=by omega
   clear hg H2 hd hc vu;rcases h5 with rfl|rfl|rfl|rfl<;>simp only[Nat.reducePow,Nat.reduceAdd]at hn ⊢<;>omega
  rw[if_neg (by omega)]at hg;exact hg
 refine aC o8 (by simp) rfl ?_;intro w1 aU;push_cast -dsimp;refine aC aU.aL (by simp) rfl ?_;intro w2 bJ;push_cast -dsimp;have e:dE x=(0,⟨[],true⟩):=by
  unfold dE;rw[<-hg];cases Z2:x.s.drop i with
  | nil=>rfl
  | cons c r =>
   have hle:i=4:=by
    have hl:=congrArg List.length Z2;simp only[List.length_drop,List.length_cons]at hl;split at eY<;>omega
   rw[kJ,if_pos (by omega)]
 rw[e];exact⟨rfl,vE aU bJ⟩
theorem yp (x:St)(p:Nat)(w:World)(hs:x.s.length<10000000000000)(hB:Gz w p x) :
  ar Tryz.prog 80 [.pointer (some ⟨p,0,none⟩)] w λr w'=>r=.int .i64 (cF x).1/\yd w w' p 172 [str (cF x).2.s,.bool (cF x).2.bad]:=by
 have hv:=vG x;have hl:=j3 x;refine aE Tryz.func80 rfl (by kernel_rfl) [2] rfl ?_;push_cast -dsimp(maxSteps:=9^7) [Tryz.ntmps80];refine aA (tQ x p w hs hB) ?_;rintro _ w1 ⟨rfl,aU⟩;have c0:w1.cell? ⟨p,0,none⟩=some (str (dE x).2.s):=aU.aL.cell rfl;push_cast -dsimp[c0];refine⟨λh=>?_,λh=>?_⟩
 ·refine aC aU.aL (by simp) rfl ?_;intro w2 bJ;push_cast -dsimp;unfold cF;rw[if_pos (by omega)];exact⟨rfl,vE aU bJ⟩
 unfold cF;rw[if_neg (by omega)];exact⟨rfl,aU⟩
theorem YZ (x:St)(p:Nat)(w:World)(hs:x.s.length<10000000000000)(hB:Gz w p x) :
  ar Tryz.prog 79 [.pointer (some ⟨p,0,none⟩)] w λr w'=>r=.bool (eF x).1/\yd w w' p 172 [str (eF x).2.s,.bool (eF x).2.bad]:=by
 have hv:=vG x;refine aE Tryz.func79 rfl (by kernel_rfl) [2] rfl ?_;push_cast -dsimp(maxSteps:=9^7) [Tryz.ntmps79];refine aA (tQ x p w hs hB) ?_;rintro _ w1 ⟨rfl,aU⟩;have c1:w1.cell? ⟨p,1,none⟩=some (.bool (dE x).2.bad):=aU.aL.cell rfl;have e:decide (((dE x).1:Int)=1)=(eF x).1:=by
  show _=decide ((dE x).1=1)
  rw[decide_eq_decide];omega
 have kF:∀bd w2,bd=(eF x).2.bad->yd w1 w2 p 172 [str (dE x).2.s,.bool bd]->Value.bool (decide (((dE x).1:Int)=1))=Value.bool (eF x).1/\yd w w2 p 172 [str (eF x).2.s,.bool (eF x).2.bad]:=λbd w2 pz bJ=>by
  subst pz;exact⟨congrArg _ e,vE aU bJ⟩
 have eb:(eF x).2.bad=((dE x).2.bad || decide (1<(dE x).1)):=rfl;cases uN:(dE x).2.bad with
 | true =>
  rw[uN]at c1;push_cast -dsimp[c1];refine aC aU.aL (by simp) rfl ?_;intro w2 bJ;push_cast -dsimp;exact kF _ w2 (by rw[eb,uN,Bool.true_or]) bJ
 | false =>
  rw[uN]at c1;push_cast -dsimp[c1];refine aC aU.aL (by simp) rfl ?_;intro w2 bJ;push_cast -dsimp;refine kF _ w2 ?_ bJ;rw[eb,uN,Bool.false_or,decide_eq_decide];omega
def Pn {α:Type}(f:St->α×St):Prop:=∀x,(f x).2.s.length<=x.s.length
theorem vO:Pn dE:=j3
theorem Bk:Pn cF:=oU
theorem vN {α:Type}{f:St->α×St}(hf:Pn f):∀n,Pn (eX f n)
 | 0,x=>Nat.le_refl _
 | n+1,x=>Nat.le_trans (vN hf n _) (hf x)
theorem Ec:Pn jm:=λx=>Nat.le_trans (vO _) (vO x)
theorem HK:Pn nh:=λx=>Nat.le_trans (vN Ec _ _) (Bk x)
theorem Yq:Pn jF:=λx=>Nat.le_trans (vN HK _ _) (Bk x)
theorem PL:Pn tP:=λx=>Nat.le_trans (vO _) (Nat.le_trans (vO _) (vO x))
theorem Yp:Pn EN:=λx=>Nat.le_trans (vN PL _ _) (Bk x)
theorem vM:Pn gq:=λx=>Nat.le_trans (Yp _) (Yq x)
theorem pU {α:Type}{f:St->α×St}{n i:Nat}{y:St}{acc all:List α}{z:St}(hi:i<n)(h1:acc++(eX f (n-i) y).1=all)(h2:(eX f (n-i) y).2=z) :
  (acc++[(f y).1])++(eX f (n-(i+1)) (f y).2).1=all/\(eX f (n-(i+1)) (f y).2).2=z:=by
 rw[show n-i=(n-(i+1))+1 by omega]at h1 h2
 simp only[eX]at h1 h2;exact⟨by rw[<-h1];simp,h2⟩
theorem pT {α:Type}{f:St->α×St}{n i:Nat}{y:St}{acc all:List α}{z:St}(hi:n<=i)(h1:acc++(eX f (n-i) y).1=all)(h2:(eX f (n-i) y).2=z):acc=all/\y=z:=by
 rw[show n-i=0 by omega]at h1 h2
 simp only[eX,List.append_nil]at h1 h2;exact⟨h1,h2⟩
theorem Ox (x:St)(p:Nat)(w:World)(hs:x.s.length<10000000000000)(hB:Gz w p x) :
  ar Tryz.prog 81 [.pointer (some ⟨p,0,none⟩)] w λr w'=>cM (λj=>j<w.heap.size) w' r (gq x).1/\Gz w' p (gq x).2/\Kept (·=p) w w':=by
 have Ha:p<w.heap.size:=aM.lt (e:=172) (cs:=[str x.s,.bool x.bad]) hB;refine gi Tryz.func81 rfl (by kernel_rfl) [.cell 2 127] rfl ?_;push_cast -dsimp(maxSteps:=9^7) [Tryz.ntmps81];refine aq (z:=[.slice none 0 0,.slice none 0 0]) (by kernel_rfl) ?_;intro w1 aU;have n0:Gz w1 p x:=aM.kept (e:=172) hB (Kept.new aU (X:=λ_=>False)) id;push_cast -dsimp;refine aA (yp x p w1 hs n0) ?_;rintro _ w2 ⟨rfl,bJ⟩;have pY:=aU.size;have Bn:=bJ.size;have uP:aM w2 w.heap.size 127 [.slice none 0 0,.slice none 0 0]:=aU.aL.kept bJ.kept (by show ¬w.heap.size=p;omega)
 have lV:Kept (·=p) w w2:=(Kept.new aU).trans bJ.kept (λ_ _ h=>h);have hmv:=rZ x;have hmf:=rY x;have hml:=oU x;push_cast -dsimp;refine aK [3,6,7,8,9,10,11,12,13,14,15,16,17,18,19,20,21,22,23,24,25,26,27] (λz wx=>∃(i:Nat) (y:St) (sets:List (List Rg)) (Yz:List SV) (sv:SV),
  z 6=.int .i64 i/\i<=(cF x).1/\y.s.length<=x.s.length/\sets++(eX nh ((cF x).1-i) y).1=(jF x).1/\(eX nh ((cF x).1-i) y).2=(jF x).2 /\
  Gz wx p y/\aM wx w.heap.size 127 [sv.v,.slice none 0 0]/\Vc.Own w1.heap.size 139 1 jb wx sv.v Yz/\Yz.length=sets.length/\sets.length=i /\
  (∀(j:Nat) (s:List Rg),sets[j]?=some s->∃u,Yz[j]?=some u/\Sl (λj=>j<w1.heap.size\/sv.v.ownBlock=some j) 2 (En bA) wx u.v s)/\Kept (·=p) w wx/\w1.heap.size<=wx.heap.size) (λz _=>(cF x).1-(intOf (z 6)).toNat) ?_ ?_
 ·exact⟨0,(cF x).2,[],[],⟨none,0,0⟩,rfl,Nat.zero_le _,hml,rfl,rfl,bJ.aL,uP,Vc.Own.nil (enc:=jb) _ _ (λ_=>rfl) _,rfl,rfl,by simp,lV,by omega⟩
 intro z wx hI;obtain⟨i,y,sets,Yz,sv,h6,hi,hy,vZ,uV,oE,hcx,eG,hlen,pD,xQ,hkx,aO1⟩:=hI;push_cast -dsimp[h6];refine⟨λao=>?_,λeY=>?_⟩
 ·refine aA (yp y p wx (by omega) oE) ?_;rintro _ wa ⟨rfl,fy⟩;have Ty:=fy.size;have hya:=oU y;have hyv:=rZ y;have hyf:=rY y;push_cast -dsimp;refine aK [3,10,11,12,13,14,15,16,17,18,19,20] (λz' wy=>∃(j:Nat) (y2:St) (rs:List Rg),z' 10=.int .i64 j/\j<=(cF y).1/\y2.s.length<=x.s.length/\rs++(eX jm ((cF y).1-j) y2).1=(nh y).1/\(eX jm ((cF y).1-j) y2).2=(nh y).2 /\
   Gz wy p y2/\Vc.Own wa.heap.size 208 2 bA wy (z' 3) rs/\rs.length=j/\Kept (·=p) wa wy) (λz' _=>(cF y).1-(intOf (z' 10)).toNat) ?_ ?_
  ·exact⟨0,(cF y).2,[],rfl,Nat.zero_le _,by omega,rfl,rfl,fy.aL,Vc.Own.nil (enc:=bA) _ _ (λ_=>rfl) _,rfl,Kept.refl _ _⟩
  intro z' wy hI;obtain⟨j,y2,rs,Kq,hj,hy2,MQ,hq2,ZR,tA,Ky,hky⟩:=hI;have szy:=hky.size;push_cast -dsimp[Kq];refine⟨λJG=>?_,λMM=>?_⟩
  ·refine aA (tQ y2 p wy (by omega) ZR) ?_;rintro _ wb ⟨rfl,dH⟩;have NR:=dH.size;have hlb:=j3 y2;push_cast -dsimp;refine aA (tQ (dE y2).2 p wb (by omega) dH.aL) ?_;rintro _ wc ⟨rfl,jW⟩;have Za:=jW.size;have ON:=j3 (dE y2).2;push_cast -dsimp;refine cH fK rfl rfl (by omega) ?_;intro wd iU;have Zb:=iU.size;push_cast -dsimp;have RU:∀g,(z' 3).ownBlock=some g->¬g=p:=λg hg h=>by have:=(tA.block g hg).1;omega
   have hod:=((tA.aJ dH.kept RU).aJ jW.kept RU).new iU;refine aW (base:=wa.heap.size) [((dE y2).1,(dE (dE y2).2).1)] (enc:=bA) fK hod rfl (λj u hu=>by simpa using iU.cell hu) iM (by simp only[List.length_cons,List.length_nil];omega) (by omega) ?_;intro v' we yW eY cY;have eR:Kept (λk=>(z' 3).ownBlock=some k) wd we:=Kept.grown eY (λ_ h=>h);have hBe:Gz we p (jm y2).2:=(jW.aL.kept (Kept.new iU (X:=λ_=>False)) id).kept eR (λh=>RU p h rfl);push_cast -dsimp;have cJ:=pU (f:=jm) (i:=j) (by omega) MQ hq2;refine⟨⟨by omega,by omega⟩,⟨j+1,(jm y2).2,rs++[(jm y2).1],rfl,by omega,?_,cJ.1,cJ.2,hBe,yW,by simp[Ky],?_⟩,by rw[Kq];simp only[intOf];omega⟩
   ·have:=Ec y2;omega
   refine(hky.trans (dH.kept.trans jW.kept (λ_ _ h=>h)) (λ_ _ h=>h)).trans ((Kept.new iU (X:=λk=>(z' 3).ownBlock=some k)).trans eR (λ_ _ h=>h)) (λk hk h=>?_)
   have:=(tA.block k h).1;omega
  have jc:=pT (f:=jm) (i:=j) (by omega) MQ hq2;have jV:=jc.1;have aPi:=jc.2;subst jV;subst aPi;have eN:=tA.slice;obtain⟨sa,sc,JP⟩:=eN;rw[JP]at tA;have aA6:Kept (·=p) wx wy:=fy.kept.trans hky (λ_ _ h=>h);have OC:aM wy w.heap.size 127 [sv.v,.slice none 0 0]:=hcx.kept aA6 (by show ¬w.heap.size=p;omega)
  have cy0:wy.cell? ⟨w.heap.size,0,none⟩=some sv.v:=OC.cell rfl;have RU:∀g,sv.v.ownBlock=some g->¬g=p:=λg hg h=>by have:=(eG.block g hg).1;omega
  have aOG:=eG.aJ aA6 RU;push_cast -dsimp[JP,cy0];refine cH nD rfl rfl (by omega) ?_;intro wd iU;have Zb:=iU.size;have szy:=hky.size;push_cast -dsimp;have aNM:∀(j:Nat) (s:List Rg),sets[j]?=some s->∃u,Yz[j]?=some u/\Sl (λj=>j<w1.heap.size\/sv.v.ownBlock=some j) 2 (En bA) wy u.v s:=λj s hj=>by
   obtain⟨u,h1,h2⟩:=xQ j s hj;exact⟨u,h1,Sl.kept h2 aA6 (λk hk=>.inl (by subst hk;omega))⟩
  have RQ:Sl (λj=>j<w1.heap.size\/sv.v.ownBlock=some j) 2 (En bA) wy (SV.v ⟨sa,(nh y).1.length,sc⟩) (nh y).1:=Sl.narrow tA.sl (by omega) (λ_ _ h=>h) (λb _ hb=>by
   rcases hb with hb|hb
   ·omega
   have:=(eG.block b hb).2;omega)
  have aFp:=sX (Pr:=λ_ (u:SV) s=>Sl (λj=>j<w1.heap.size\/sv.v.ownBlock=some j) 2 (En bA) wy u.v s) hlen aNM RQ;refine aW (base:=w1.heap.size) [(⟨sa,(nh y).1.length,sc⟩:SV)] (enc:=jb) nD (aOG.new iU) rfl (λj u hu=>by simpa using iU.cell hu) vr (by simp only[List.length_cons,List.length_nil];omega) (by omega) ?_;intro v' we yW Iw cY;have eR:Kept (λk=>sv.v.ownBlock=some k) wd we:=Kept.grown Iw (λ_ h=>h);have MR:=yW.slice;obtain⟨a',c',rfl⟩:=MR;have hBe:Gz we p (nh y).2:=(aM.kept (e:=172) ZR (Kept.new iU (X:=λ_=>False)) id).kept eR (λh=>RU p h rfl);have rm:∀g,sv.v.ownBlock=some g->¬g=w.heap.size:=λg hg h=>by have:=(eG.block g hg).1;omega
  have hce:aM we w.heap.size 127 [sv.v,.slice none 0 0]:=(OC.kept (Kept.new iU (X:=λ_=>False)) id).kept eR (λh=>rm _ h rfl);push_cast -dsimp;refine aC hce (by simp) rfl ?_;intro wf iH;have hnt:∀g,(Value.slice a' (Yz++[(⟨sa,(nh y).1.length,sc⟩:SV)]).length c').ownBlock=some g->¬g=w.heap.size:=λg hg h=>by
   rcases cY g hg with h'|h'
   ·exact rm g h' h
   omega
  push_cast -dsimp;have cJ:=pU (f:=nh) (i:=i) (by omega) vZ uV;have szf:=iH.size;have LG:=eR.size;refine⟨⟨by omega,by omega⟩,⟨i+1,(nh y).2,sets++[(nh y).1],Yz++[(⟨sa,(nh y).1.length,sc⟩:SV)],⟨a',(Yz++[(⟨sa,(nh y).1.length,sc⟩:SV)]).length,c'⟩,rfl,by omega,?_,cJ.1,cJ.2,aM.kept (e:=172) hBe iH.kept (by omega),iH.aL,yW.aJ iH.kept hnt,by simp[hlen],by simp[pD],?_,?_,by omega⟩,by rw[h6];simp only[intOf];omega⟩
  ·have:=HK y;omega
  ·intro j s hj;obtain⟨u,h1,h2⟩:=aFp j s hj;refine⟨u,h1,?_⟩;have h3:Sl (λj=>(j<w1.heap.size\/sv.v.ownBlock=some j)\/(Value.slice a' (Yz++[(⟨sa,(nh y).1.length,sc⟩:SV)]).length c').ownBlock=some j) 2 (En bA) wd u.v s :=
    Sl.narrow (Sl.kept h2 (Kept.new iU (X:=λ_=>False)) (λ_ h=>h.elim)) (by omega) (λ_ _ h=>h) (λb hb hh=>by
     rcases hh with hh|hh
     ·exact hh
     rcases cY b hh with h'|h'
     ·exact .inr h'
     omega)
   have h4:=Sl.kept h3 eR (λk hk=>.inl (.inr hk));have h5:=Sl.kept h4 iH.kept (λk hk=>.inl (.inl (by omega)));exact h5.weaken (λb hb=>by
    rcases hb with hb|hb
    ·exact .inl (.inl hb)
    exact .inr hb)
  have h1:Kept (λk=>w.heap.size<=k) wy wd:=Kept.new iU;have h2:Kept (λk=>w.heap.size<=k) wd we:=eR.weaken (λk _ h=>by have:=(eG.block k h).1;omega);have h3:Kept (λk=>w.heap.size<=k) we wf:=iH.kept.weaken (λk _ h=>by omega);exact(hkx.trans aA6 (λ_ _ h=>h)).trans ((h1.trans h2 (λ_ _ h=>h)).trans h3 (λ_ _ h=>h)) (λk hk h=>by omega)
 have jc:=pT (f:=nh) (i:=i) (by omega) vZ uV;have jV:=jc.1;have hye:=jc.2;subst jV;subst hye;refine aA (yp (jF x).2 p wx (by omega) oE) ?_;rintro _ wb ⟨rfl,dH⟩;have NR:=dH.size;have aUo:=rZ (jF x).2;have aUm:=oU (jF x).2;have aUl:=rY (jF x).2;have hcb:aM wb w.heap.size 127 [sv.v,.slice none 0 0]:=hcx.kept dH.kept (by show ¬w.heap.size=p;omega)
 have RU:∀g,sv.v.ownBlock=some g->¬g=p:=λg hg h=>by have:=(eG.block g hg).1;omega
 have fU:=eG.aJ dH.kept RU;have aNK:∀(j:Nat) (s:List Rg),(jF x).1[j]?=some s->∃u,Yz[j]?=some u/\Sl (λj=>j<w1.heap.size\/sv.v.ownBlock=some j) 2 (En bA) wb u.v s:=λj s hj=>by
  obtain⟨u,h1,h2⟩:=xQ j s hj;exact⟨u,h1,Sl.kept h2 dH.kept (λk hk=>.inl (by subst hk;omega))⟩
 push_cast -dsimp;refine aK [30,31,32,33,34,35,36,37,38,39,40,41,42,43,44] (λz' wy=>∃(i:Nat) (y2:St) (ins:List I3) (iv:SV),z' 30=.int .i64 i/\i<=(cF (jF x).2).1/\y2.s.length<=x.s.length/\ins++(eX tP ((cF (jF x).2).1-i) y2).1=(EN (jF x).2).1/\(eX tP ((cF (jF x).2).1-i) y2).2=(EN (jF x).2).2 /\
  Gz wy p y2/\aM wy w.heap.size 127 [sv.v,iv.v]/\Vc.Own wb.heap.size 164 3 bR wy iv.v ins/\ins.length=i/\Kept (λj=>j=p\/j=w.heap.size) wb wy) (λz' _=>(cF (jF x).2).1-(intOf (z' 30)).toNat) ?_ ?_
 ·exact⟨0,(cF (jF x).2).2,[],⟨none,0,0⟩,rfl,Nat.zero_le _,by omega,rfl,rfl,dH.aL,hcb,Vc.Own.nil (enc:=bR) _ _ (λ_=>rfl) _,rfl,Kept.refl _ _⟩
 intro z' wy hI;obtain⟨i,y2,ins,iv,h30,OI,hy2,MQ,hq2,ZR,OC,tA,Iz,hky⟩:=hI;have szy:=hky.size;push_cast -dsimp[h30];refine⟨λJG=>?_,λMM=>?_⟩
 ·refine dV (λw'=>aM w' w.heap.size 127 [sv.v,iv.v]) mixed (by kernel_rfl) (List.cons_ne_nil _ _) OC.drew ?_;have f1:wy.drew.cell? ⟨w.heap.size,1,none⟩=some iv.v:=OC.drew.cell rfl;push_cast -dsimp[f1];refine⟨λbB hC=>by rw[hC.cell (o:=1) rfl];exact rfl,?_⟩;refine aA (tQ y2 p wy.drew (by omega) ZR) ?_;rintro _ w3 ⟨rfl,cN⟩;have LF:w3.heap.size=wy.heap.size:=cN.size;have OM:=j3 y2;have hc3:=OC.drew.kept cN.kept (by show ¬w.heap.size=p;omega)
  refine⟨hc3,?_⟩;push_cast -dsimp;refine aA (tQ (dE y2).2 p w3 (by omega) cN.aL) ?_;rintro _ w4 ⟨rfl,ah⟩;have KZ:=ah.size;have CV:=j3 (dE y2).2;have RD:=hc3.kept ah.kept (by show ¬w.heap.size=p;omega)
  refine⟨RD,?_⟩;push_cast -dsimp;refine aA (tQ (dE (dE y2).2).2 p w4 (by omega) ah.aL) ?_;rintro _ w5 ⟨rfl,cI⟩;have NQ:=cI.size;have hl5:=j3 (dE (dE y2).2).2;have RF:=RD.kept cI.kept (by show ¬w.heap.size=p;omega)
  refine⟨RF,?_⟩;push_cast -dsimp;refine cH ep rfl rfl (by omega) ?_;intro w6 bQ;have K0:=bQ.size;have hc6:=RF.kept (Kept.new bQ (X:=λ_=>False)) id;refine⟨hc6,?_⟩;push_cast -dsimp;have hip:∀g,iv.v.ownBlock=some g->¬g=p:=λg hg h=>by have:=(tA.block g hg).1;omega
  have hit:∀g,iv.v.ownBlock=some g->¬g=w.heap.size:=λg hg h=>by have:=(tA.block g hg).1;omega
  have kd:Kept (·=p) wy wy.drew:=(Kept.refl _ _).drew;have qD:=((((tA.aJ kd hip).aJ cN.kept hip).aJ ah.kept hip).aJ cI.kept hip).new bQ;refine aW (base:=wb.heap.size) [(tP y2).1] (enc:=bR) ep qD rfl (λj u hu=>by simpa using bQ.cell hu) jB (by simp only[List.length_cons,List.length_nil];omega) (by omega) ?_;intro v' w7 mQ Iw cY;have qC:Kept (λk=>iv.v.ownBlock=some k) w6 w7:=Kept.grown Iw (λ_ h=>h);have MR:=mQ.slice;obtain⟨a',c',rfl⟩:=MR;have Ib:Gz w7 p (tP y2).2:=(cI.aL.kept (Kept.new bQ (X:=λ_=>False)) id).kept qC (λh=>hip p h rfl);have hc7:=hc6.kept qC (λh=>hit _ h rfl);refine⟨hc7,?_⟩;push_cast -dsimp;refine aC hc7 (by simp) rfl ?_;intro w8 np;refine⟨trivial,?_⟩;push_cast -dsimp;have K1:=qC.size;have sz8:=np.size;have cJ:=pU (f:=tP) (i:=i) (by omega) MQ hq2;refine⟨⟨by omega,by omega⟩,⟨i+1,(tP y2).2,ins++[(tP y2).1],⟨a',(ins++[(tP y2).1]).length,c'⟩,rfl,by omega,?_,cJ.1,cJ.2,aM.kept (e:=172) Ib np.kept (by omega),np.aL,mQ.aJ np.kept (λg hg h=>?_),by simp[Iz],?_⟩,by rw[h30];simp only[intOf];omega⟩
  ·have:=PL y2;omega
  ·rcases cY g hg with h'|h'
   ·exact hit g h' h
   omega
  have k1:Kept (λj=>j=p\/j=w.heap.size\/wb.heap.size<=j) wy w5:=(kd.trans (cN.kept.trans (ah.kept.trans cI.kept (λ_ _ h=>h)) (λ_ _ h=>h)) (λ_ _ h=>h)).weaken (λ_ _ h=>.inl h);have k2:Kept (λj=>j=p\/j=w.heap.size\/wb.heap.size<=j) w5 w6:=Kept.new bQ;have k3:Kept (λj=>j=p\/j=w.heap.size\/wb.heap.size<=j) w6 w7:=qC.weaken (λk _ h=>.inr (.inr (tA.block k h).1));have k4:Kept (λj=>j=p\/j=w.heap.size\/wb.heap.size<=j) w7 w8:=np.kept.weaken (λk _ h=>.inr (.inl h));exact hky.trans ((k1.trans k2 (λ_ _ h=>h)).trans (k3.trans k4 (λ_ _ h=>h)) (λ_ _ h=>h)) (λk hk h=>by omega)
 have jc:=pT (f:=tP) (i:=i) (by omega) MQ hq2;have jV:=jc.1;have hye:=jc.2;subst jV;subst hye;have cc:aB wy ⟨w.heap.size,0,none⟩ 0 2=some [sv.v,iv.v]:=OC.aB;push_cast -dsimp[cc];refine aH (n:=2) (by kernel_rfl) OC rfl (by simp) (by simp[SV.v,Value.oneCell']) ?_;intro w9 DH;have c9:aB w9 ⟨w.heap.size,0,none⟩ 0 2=some [sv.v,iv.v]:=DH.aL.aB;push_cast -dsimp[c9];have sz9:=DH.size;have kb:Kept (λj=>j=p\/j=w.heap.size) wb w9:=hky.trans DH.kept (λ_ _ h=>.inr h);have hXk:∀j,(j=p\/j=w.heap.size)->j<w1.heap.size\/sv.v.ownBlock=some j:=λj h=>.inl (by omega);refine⟨⟨sv.v,iv.v,rfl,?_,?_⟩,aM.kept (e:=172) ZR DH.kept (by omega),?_⟩
 ·have hos:Vc.Own w1.heap.size 139 1 jb w9 sv.v Yz:=fU.aJ kb (λg hg h=>by
   have:=(eG.block g hg).1;omega)
  refine Sl.narrow (vB (R:=LO (λj=>j<w1.heap.size) w9) hos hlen (λj s hj=>?_)) (by omega) (λcs s h=>?_) (λb _ hb=>by omega)
  ·obtain⟨u,h1,h2⟩:=aNK j s hj;exact⟨u,h1,u.v,rfl,(Sl.kept h2 kb hXk).weaken (λb hb=>.inl hb)⟩
  obtain⟨u,rfl,h⟩:=h;exact⟨u,rfl,h.weaken (λb hb=>by omega)⟩
 ·have hoi:=tA.aJ DH.kept (λg hg h=>by have:=(tA.block g hg).1;omega);exact hoi.sl.weaken (λb hb=>by omega)
 exact(hkx.trans dH.kept (λ_ _ h=>h)).trans kb (λk hk h=>by omega)
theorem wU {α:Type}{f:St->α×St}(hf:Pn f):∀(n:Nat) (x:St) (v:α),v∈(eX f n x).1->∃y:St,y.s.length<=x.s.length/\v=(f y).1
 | 0,x,v,h=>by simp[eX]at h
 | n+1,x,v,h=>by
  simp only[eX,List.mem_cons]at h;rcases h with h|h
  ·exact⟨x,Nat.le_refl _,h⟩
  obtain⟨y,h1,h2⟩:=wU hf n _ v h;exact⟨y,Nat.le_trans h1 (hf x),h2⟩
theorem um {α:Type}{f:St->α×St}(x:St):(eX f (cF x).1 (cF x).2).1.length<1000000000:=by
 rw[EO]
 have:=vG x;unfold cF;split
 ·show 0<_;omega
 omega
theorem BM (x:St):mr (gq x).1:=by
 refine⟨λs hs=>?_,um (f:=tP) (jF x).2,um (f:=nh) x⟩;obtain⟨y,hy,rfl⟩:=wU HK _ _ s hs;exact um (f:=jm) y
theorem aCw:Pn eF:=BK
theorem KN:Pn lK:=λx=>by
 have h1:=aCw x;have h2:=vM (eF x).2;have h3:=vM (gq (eF x).2).2;unfold lK;generalize eF x=y at h1 h2 h3 ⊢
 generalize gq y.2=y2 at h2 h3 ⊢
 exact Nat.le_trans h3 (Nat.le_trans h2 h1)
theorem NG (x:St):jL (gM x).1:=by
 refine⟨um (f:=lK) (eF x).2,λr hr=>?_⟩;obtain⟨y,hy,rfl⟩:=wU KN _ _ r hr;exact⟨BM _,BM _⟩
theorem aPx {a b c d:Nat}(ha:a<256)(hb:b<256)(hc:c<256)(hd:d<256) :
  cE .or .u32 (cE .or .u32 (cE .or .u32 (a:Int) (IntKind.u32.wrap ((b:Int)*2 ^ min 8 IntKind.u32.bits))) (IntKind.u32.wrap ((c:Int)*2 ^ min 16 IntKind.u32.bits))) (IntKind.u32.wrap ((d:Int)*2 ^ min 24 IntKind.u32.bits))=((a+b*256+c*65536+d*16777216:Nat):Int):=by
 rw[show ((b:Int)*2 ^ min 8 IntKind.u32.bits)=((b*2 ^ 8:Nat):Int) by rw[show min 8 IntKind.u32.bits=8 from rfl];simp,
  show ((c:Int)*2 ^ min 16 IntKind.u32.bits)=((c*2 ^ 16:Nat):Int) by rw[show min 16 IntKind.u32.bits=16 from rfl];simp,
  show ((d:Int)*2 ^ min 24 IntKind.u32.bits)=((d*2 ^ 24:Nat):Int) by rw[show min 24 IntKind.u32.bits=24 from rfl];simp]
 rw[eU,eU,eU,Nat.mod_eq_of_lt (show b*2 ^ 8<4294967296 by omega),Nat.mod_eq_of_lt (show c*2 ^ 16<4294967296 by omega),Nat.mod_eq_of_lt (show d*2 ^ 24<4294967296 by omega)]
 rw[my (by omega) (by omega),Nat.or_comm,pP (k:=8) (by omega),my (by omega) (by omega),Nat.or_comm,pP (k:=16) (by omega),my (by omega) (by omega),Nat.or_comm,pP (k:=24) (by omega)];congr 1;omega
theorem aCz (s:List UInt8)(h:4<=s.length) :
  cE .or .u32 (cE .or .u32 (cE .or .u32 (IntKind.u32.wrap ((s.getD ((s.length:Int)-4).toNat 0).toNat:Int)) (IntKind.u32.wrap (IntKind.u32.wrap ((s.getD ((s.length:Int)-4+1).toNat 0).toNat:Int)*2 ^ min 8 IntKind.u32.bits)))
   (IntKind.u32.wrap (IntKind.u32.wrap ((s.getD ((s.length:Int)-4+2).toNat 0).toNat:Int)*2 ^ min 16 IntKind.u32.bits))) (IntKind.u32.wrap (IntKind.u32.wrap ((s.getD ((s.length:Int)-4+3).toNat 0).toNat:Int)*2 ^ min 24 IntKind.u32.bits))=((sumOf (s.drop (s.length-4)):Nat):Int):=by
 have hw:∀c:UInt8,IntKind.u32.wrap (c.toNat:Int)=(c.toNat:Int):=λc=>by have:c.toNat<256:=c.toNat_lt;rw[eU,Nat.mod_eq_of_lt (by omega)]
 simp only[hw];rw[aPx (s.getD _ 0).toNat_lt (s.getD _ 0).toNat_lt (s.getD _ 0).toNat_lt (s.getD _ 0).toNat_lt];have hg:∀(k:Nat),(s.drop (s.length-4)).getD k 0=s.getD (s.length-4+k) 0:=λk=>by rw[List.getD_eq_getElem?_getD,List.getD_eq_getElem?_getD,List.getElem?_drop]
 unfold sumOf;rw[hg,hg,hg,hg,show ((s.length:Int)-4).toNat=s.length-4+0 by omega,show ((s.length:Int)-4+1).toNat=s.length-4+1 by omega,show ((s.length:Int)-4+2).toNat=s.length-4+2 by omega,show ((s.length:Int)-4+3).toNat=s.length-4+3 by omega]
def vf (base:Nat)(s:List UInt8)(r:Value)(w:World):Prop:=match qq s with
 | some q=>∃v,r=.tuple #[v,.nilIface]/\gd (λj=>j<base) w v q
 | none=>r=.tuple #[.agg #[.slice none 0 0,.bool false],.iface 74 (.int .i64 3)]
attribute [local irreducible] gq eF cF dE
theorem MY (s:List UInt8)(hs:s.length<10000000000000)(w:World) :
  ar Tryz.prog 49 [str s] w λr w'=>vf w.heap.size s r w'/\Below w.heap.size w w':=by
 refine gi Tryz.func49 rfl (by kernel_rfl) [.cell 2 71,.tmp 3] rfl ?_;push_cast -dsimp(maxSteps:=9^7) [Tryz.ntmps49];refine aq (z:=[.slice none 0 0,.bool false]) (by kernel_rfl) ?_;intro w1 aU;have pY:=aU.size;have Wt:∀w',aM w' w.heap.size 71 [.slice none 0 0,.bool false]->qq s=none->Below w.heap.size w w'->vf w.heap.size s (.tuple #[.agg #[.slice none 0 0,.bool false],.iface 74 (.int .i64 3)]) w'/\Below w.heap.size w w':=λw' _ hn hb=>by
  unfold vf;rw[hn];exact⟨rfl,hb⟩
 push_cast -dsimp;refine⟨⟨by omega,by omega⟩,λGZ=>?_,λaDL=>?_⟩
 ·refine aH (n:=2) (by kernel_rfl) aU.aL rfl (by simp) (by simp[Value.oneCell']) ?_;intro w2 bJ;have c2:aB w2 ⟨w.heap.size,0,none⟩ 0 2=some [.slice none 0 0,.bool false]:=bJ.aL.aB;push_cast -dsimp[c2];exact Wt w2 bJ.aL (by unfold qq;rw[if_pos (by omega)]) (aU.below.trans (bJ.kept.below (by omega) (λ_ h=>by omega)))
 refine b8 (λ_=>True) mixed (by kernel_rfl) trivial ?_;push_cast -dsimp;refine⟨⟨by omega,by omega⟩,⟨by omega,by omega⟩,⟨by omega,by omega⟩,⟨by omega,by omega⟩,⟨by omega,by omega⟩,⟨by omega,by omega⟩,⟨by omega,by omega⟩,⟨by omega,by omega⟩,?_⟩;have etk:List.take ((s.length:Int)-4).toNat s=s.take (s.length-4):=by rw[show ((s.length:Int)-4).toNat=s.length-4 by omega]
 rw[etk];refine aA (aD2 (s.take (s.length-4)) (by rw[List.length_take];omega) w1.drew) ?_;rintro _ w2 ⟨rfl,rfl⟩;push_cast -dsimp;rw[aCz s (by omega)];refine⟨λcY=>?_,λheq=>?_⟩
 ·refine aH (n:=2) (by kernel_rfl) aU.aL.drew rfl (by simp) (by simp[Value.oneCell']) ?_;intro w2 bJ;have c2:aB w2 ⟨w.heap.size,0,none⟩ 0 2=some [.slice none 0 0,.bool false]:=bJ.aL.aB;push_cast -dsimp[c2];exact Wt w2 bJ.aL (by unfold qq;rw[if_neg (by omega),if_pos (by omega)]) (aU.below.drew.trans (bJ.kept.below (by show w.heap.size<=w1.heap.size;omega) (λ_ h=>by omega)))
 rw[etk];refine⟨⟨by omega,by omega⟩,?_⟩;have aFV:xA (s.take (s.length-4))=sumOf (s.drop (s.length-4)):=by omega
 have hxl:(s.take (s.length-4)).length<10000000000000:=by rw[List.length_take];omega
 generalize hx:(⟨s.take (s.length-4),false⟩:St)=x;have hxs:s.take (s.length-4)=x.s:=by rw[<-hx]
 have C0:false=x.bad:=by rw[<-hx]
 have Wz:qq s=if (gM x).2.bad=true\/(gM x).2.s≠[]\/az (gM x).1=false then none else some (gM x).1:=by
  unfold qq;rw[if_neg (by omega),if_neg (by rw[aFV];simp),<-hx]
 rw[hxs]at hxl ⊢
 refine aR ?_;intro w2 bJ;have bJ:mj w1.drew w2 172 [str x.s,.bool x.bad]:=by rw[<-C0];exact bJ
 have Bn:w2.heap.size=w1.heap.size+1:=bJ.size;have fL:Gz w2 w1.heap.size x:=bJ.aL;have yO:aM w2 w.heap.size 71 [.slice none 0 0,.bool false]:=aU.aL.drew.kept (Kept.new bJ (X:=λ_=>False)) id;have hL2:Below w.heap.size w w2:=aU.below.drew.trans (bJ.below.mono (by show w.heap.size<=w1.heap.size;omega))
 push_cast -dsimp;refine aA (YZ x w1.heap.size w2 hxl fL) ?_;rintro _ w3 ⟨rfl,cN⟩;have LF:=cN.size;push_cast -dsimp;refine aq (z:=[.slice none 0 0,.bool false]) (by kernel_rfl) ?_;intro w4 ah;have KZ:=ah.size;push_cast -dsimp;refine aH (n:=2) (by kernel_rfl) ah.aL rfl (by simp) (by simp[Value.oneCell']) ?_;intro w5 cI;have NQ:=cI.size;have GG:Gz w5 w1.heap.size (eF x).2:=(cN.aL.kept (Kept.new ah (X:=λ_=>False)) id).kept cI.kept (by show ¬w1.heap.size=w3.heap.size;omega)
 have hlb:=BK x;push_cast -dsimp;refine aA (yp (eF x).2 w1.heap.size w5 (by omega) GG) ?_;rintro _ w6 ⟨rfl,bQ⟩;have K0:=bQ.size;have hP6:aM w6 w3.heap.size 71 [.slice none 0 0,.bool (eF x).1]:=cI.aL.kept bQ.kept (by show ¬w3.heap.size=w1.heap.size;omega)
 have ZX:aM w6 w.heap.size 71 [.slice none 0 0,.bool false]:=(((yO.kept cN.kept (by show ¬w.heap.size=w1.heap.size;omega)).kept (Kept.new ah (X:=λ_=>False)) id).kept cI.kept (by show ¬w.heap.size=w3.heap.size;omega)).kept bQ.kept (by show ¬w.heap.size=w1.heap.size;omega)
 have hL6:Below w.heap.size w w6:=hL2.trans ((cN.kept.below (by omega) (λ_ h=>by omega)).trans ((ah.below.mono (by omega)).trans ((cI.kept.below (by omega) (λ_ h=>by omega)).trans (bQ.kept.below (by omega) (λ_ h=>by omega)))));have hmv:=rZ (eF x).2;have hml:=oU (eF x).2;have hmf:=rY (eF x).2;push_cast -dsimp;refine aK [8,59,60,61,62,63,64,65,66,67,68,69,70,71,72,73,74,75,76] (λz wx=>∃(i:Nat) (y:St) (rules:List bW) (pvs:List PV) (rv:SV),z 59=.int .i64 i/\i<=(cF (eF x).2).1/\y.s.length<=x.s.length/\rules++(eX lK ((cF (eF x).2).1-i) y).1=(BT (eF x).2).1/\(eX lK ((cF (eF x).2).1-i) y).2=(BT (eF x).2).2 /\
  Gz wx w1.heap.size y/\aM wx w3.heap.size 71 [rv.v,.bool (eF x).1]/\aM wx w.heap.size 71 [.slice none 0 0,.bool false]/\Vc.Own w6.heap.size 129 5 gL wx rv.v pvs/\pvs.length=rules.length/\rules.length=i /\
  (∀(j:Nat) (r:bW),rules[j]?=some r->∃u,pvs[j]?=some u/\dy (λj=>j<w6.heap.size\/rv.v.ownBlock=some j) wx (gL u) r)/\Below w.heap.size w wx/\w6.heap.size<=wx.heap.size) (λz _=>(cF (eF x).2).1-(intOf (z 59)).toNat) ?_ ?_
 ·exact⟨0,(cF (eF x).2).2,[],[],⟨none,0,0⟩,rfl,Nat.zero_le _,by omega,rfl,rfl,bQ.aL,hP6,ZX,Vc.Own.nil (enc:=gL) _ _ (λ_=>rfl) _,rfl,rfl,by simp,hL6,Nat.le_refl _⟩
 intro z wx hI;obtain⟨i,y,rules,pvs,rv,h59,hi,hy,vZ,uV,oE,hPx,vw,eG,hlen,Ky,xQ,ZU,aO1⟩:=hI;push_cast -dsimp[h59];refine⟨λao=>?_,λeY=>?_⟩
 ·refine aA (YZ y w1.heap.size wx (by omega) oE) ?_;rintro _ wa ⟨rfl,fy⟩;have Ty:=fy.size;have hya:=BK y;push_cast -dsimp;refine aq (z:=[.bool false,.slice none 0 0,.slice none 0 0,.slice none 0 0,.slice none 0 0]) (by kernel_rfl) ?_;intro wb dH;have NR:=dH.size;push_cast -dsimp;refine aH (n:=5) (by kernel_rfl) dH.aL rfl (by simp) (by simp[Value.oneCell']) ?_;intro wc jW;have Za:=jW.size;have hBc:Gz wc w1.heap.size (eF y).2:=(fy.aL.kept (Kept.new dH (X:=λ_=>False)) id).kept jW.kept (by omega);push_cast -dsimp;refine aA (Ox (eF y).2 w1.heap.size wc (by omega) hBc) ?_;rintro cv1 wd ⟨aA1,AM,hkd⟩;have Zb:=hkd.size;have hyd:=vM (eF y).2;have aJF:=aA1;obtain⟨sv1,iv1,rfl,fx,OH⟩:=aA1;have aFT:=fx.shape;obtain⟨Tu,Tx,rfl,_⟩:=aFT;have MR:=OH.shape;obtain⟨ia1,Ra,rfl,_⟩:=MR;have hqd:aM wd wa.heap.size 129 [.bool (eF y).1,.slice none 0 0,.slice none 0 0,.slice none 0 0,.slice none 0 0]:=aM.kept jW.aL hkd (by omega);push_cast -dsimp;refine aH (n:=2) (by kernel_rfl) hqd rfl (by simp) (by simp[Value.oneCell']) ?_;intro we lG;have LG:=lG.size;have hBe:Gz we w1.heap.size (gq (eF y).2).2:=aM.kept (e:=172) AM lG.kept (by omega);push_cast -dsimp;refine aA (Ox (gq (eF y).2).2 w1.heap.size we (by omega) hBe) ?_;rintro cv2 wf ⟨aA2,hBf,H5⟩;have szf:=H5.size;have hyf:=vM (gq (eF y).2).2;have aJG:=aA2;obtain⟨sv2,iv2,rfl,gZ,OI⟩:=aA2;have aOS:=gZ.shape;obtain⟨HF,HH,rfl,_⟩:=aOS;have aOT:=OI.shape;obtain⟨ia2,Rf,rfl,_⟩:=aOT;have hqf:=lG.aL.kept H5 (by show ¬wa.heap.size=w1.heap.size;omega)
  push_cast -dsimp;refine aH (n:=2) (by kernel_rfl) hqf rfl (by simp) (by simp[Value.oneCell']) ?_;intro wg lH;have szg:=lH.size;have aNP:∃u:PV,u=(⟨(eF y).1,⟨Tu,(gq (eF y).2).1.sets.length,Tx⟩,⟨ia1,(gq (eF y).2).1.ins.length,Ra⟩,⟨HF,(gq (gq (eF y).2).2).1.sets.length,HH⟩,⟨ia2,(gq (gq (eF y).2).2).1.ins.length,Rf⟩⟩:PV):=⟨_,rfl⟩;obtain⟨u,hu⟩:=aNP;have hqg:aM wg wa.heap.size 129 (gL u):=by
   have h:=lH.aL;simp only[List.take_succ_cons,List.take_zero,List.drop_succ_cons,List.drop_zero,List.cons_append,List.nil_append,Nat.reduceAdd]at h;rw[hu];exact h
  have k1:Kept (λk=>k=w1.heap.size\/wx.heap.size<=k) wx wa:=fy.kept.weaken (λ_ _ h=>.inl h);have k2:Kept (λk=>k=w1.heap.size\/wx.heap.size<=k) wa wb:=Kept.new dH;have k3:Kept (λk=>k=w1.heap.size\/wx.heap.size<=k) wb wc:=jW.kept.weaken (λ_ _ h=>.inr (by omega));have k4:Kept (λk=>k=w1.heap.size\/wx.heap.size<=k) wc wd:=hkd.weaken (λ_ _ h=>.inl h);have k5:Kept (λk=>k=w1.heap.size\/wx.heap.size<=k) wd we:=lG.kept.weaken (λ_ _ h=>.inr (by omega));have k6:Kept (λk=>k=w1.heap.size\/wx.heap.size<=k) we wf:=H5.weaken (λ_ _ h=>.inl h);have k7:Kept (λk=>k=w1.heap.size\/wx.heap.size<=k) wf wg:=lH.kept.weaken (λ_ _ h=>.inr (by omega));have kx:Kept (λk=>k=w1.heap.size\/wx.heap.size<=k) wx wg:=(((((k1.trans k2 (λ_ _ h=>h)).trans k3 (λ_ _ h=>h)).trans k4 (λ_ _ h=>h)).trans k5 (λ_ _ h=>h)).trans k6 (λ_ _ h=>h)).trans k7 (λ_ _ h=>h);have hPg:=hPx.kept kx (by show ¬(w3.heap.size=w1.heap.size\/wx.heap.size<=w3.heap.size);omega)
  have hRg:=vw.kept kx (by show ¬(w.heap.size=w1.heap.size\/wx.heap.size<=w.heap.size);omega)
  have xU:=eG.aJ kx (λg hg h=>by have:=eG.block g hg;omega);have hBg:Gz wg w1.heap.size (lK y).2:=aM.kept (e:=172) hBf lH.kept (by omega);have aNL:∀(j:Nat) (r:bW),rules[j]?=some r->∃u,pvs[j]?=some u/\dy (λj=>j<w6.heap.size\/rv.v.ownBlock=some j) wg (gL u) r:=λj r hj=>by
   obtain⟨u,h1,h2⟩:=xQ j r hj;exact⟨u,h1,h2.mono (λb hb ao=>kx.block b ao (λhh=>by
    rcases hh with hh|hh
    ·exact hb (.inl (by omega))
    omega)) (λ_ h=>h)⟩
  have W0:∀b,(b<w6.heap.size\/rv.v.ownBlock=some b)->b<wx.heap.size:=λb hb=>by
   rcases hb with hb|hb
   ·omega
   exact(eG.block b hb).2
  have RQ:dy (λj=>j<w6.heap.size\/rv.v.ownBlock=some j) wg (gL u) (lK y).1:=by
   subst hu;refine⟨_,_,_,_,rfl,?_,?_⟩
   ·have kd:Kept (λk=>k=w1.heap.size\/k=wa.heap.size) wd wg:=((lG.kept.weaken (λ_ _ h=>.inr h)).trans (H5.weaken (λ_ _ h=>.inl h)) (λ_ _ h=>h)).trans (lH.kept.weaken (λ_ _ h=>.inr h)) (λ_ _ h=>h);exact(cM.kept aJF kd (λk hk=>by omega)).narrow (λb _ hb=>by have:=W0 b hb;omega)
   exact(cM.kept aJG lH.kept (λk hk=>by omega)).narrow (λb _ hb=>by have:=W0 b hb;omega)
  have aFp:=sX (Pr:=λ_ (u:PV) r=>dy (λj=>j<w6.heap.size\/rv.v.ownBlock=some j) wg (gL u) r) hlen aNL RQ;have f0:wg.cell? ⟨w3.heap.size,0,none⟩=some rv.v:=hPg.cell rfl;have f1:aB wg ⟨wa.heap.size,0,none⟩ 0 5=some (gL u):=hqg.aB;have f2:Value.agg (gL u).toArray=.agg #[.bool u.b,u.s1.v,u.i1.v,u.s2.v,u.i2.v]:=rfl;push_cast -dsimp[f0,f1,f2];refine cH vo rfl rfl (by omega) ?_;intro wh LB;have szh:=LB.size;push_cast -dsimp;refine aW (base:=w6.heap.size) [u] (enc:=gL) vo (xU.new LB) rfl (λj u hu=>by simpa using LB.cell hu) vp (by simp only[List.length_cons,List.length_nil];omega) (by omega) ?_;intro v' wi hoi Iw cY;have JE:Kept (λk=>rv.v.ownBlock=some k) wh wi:=Kept.grown Iw (λ_ h=>h);have aOU:=hoi.slice;obtain⟨a',c',rfl⟩:=aOU;have rm:∀g,rv.v.ownBlock=some g->w6.heap.size<=g:=λg hg=>(eG.block g hg).1;have hPi:=(hPg.kept (Kept.new LB (X:=λ_=>False)) id).kept JE (λh=>by have:=rm _ h;omega);have hRi:=(hRg.kept (Kept.new LB (X:=λ_=>False)) id).kept JE (λh=>by have:=rm _ h;omega);have hBi:Gz wi w1.heap.size (lK y).2:=(aM.kept (e:=172) hBg (Kept.new LB (X:=λ_=>False)) id).kept JE (λh=>by have:=rm _ h;omega);push_cast -dsimp;refine aC hPi (by simp) rfl ?_;intro wj ff;have szi:=JE.size;have szj:=ff.size;push_cast -dsimp;have cJ:=pU (f:=lK) (i:=i) (by omega) vZ uV
  refine⟨⟨by omega,by omega⟩,⟨i+1,(lK y).2,rules++[(lK y).1],pvs++[u],⟨a',(pvs++[u]).length,c'⟩,rfl,by omega,?_,cJ.1,cJ.2,aM.kept (e:=172) hBi ff.kept (by omega),ff.aL,hRi.kept ff.kept (by show ¬w.heap.size=w3.heap.size;omega),hoi.aJ ff.kept (λg hg h=>?_),by simp[hlen],by simp[Ky],?_,?_,by omega⟩,by rw[h59];simp only[intOf];omega⟩
  ·have:=KN y;omega
  ·rcases cY g hg with h'|h'
   ·have:=rm g h';omega
   omega
  ·intro j r hj;obtain⟨u',h1,h2⟩:=aFp j r hj;refine⟨u',h1,?_⟩;have h3:dy (λj=>(j<w6.heap.size\/rv.v.ownBlock=some j)\/(Value.slice a' (pvs++[u]).length c').ownBlock=some j) wh (gL u') r :=
    (h2.mono (λb _ ao=>(Kept.new LB (X:=λ_=>False)).block b ao id) (λ_ h=>h)).narrow (λb hb hh=>by
     rcases hh with hh|hh
     ·exact hh
     rcases cY b hh with h'|h'
     ·exact .inr h'
     omega)
   have h4:=h3.mono (λb hb ao=>JE.block b ao (λhh=>hb (.inl (.inr hh)))) (λ_ h=>h);have h5:=h4.mono (λb hb ao=>ff.kept.block b ao (λhh=>hb (.inl (.inl (by omega))))) (λ_ h=>h);exact h5.mono (λ_ _ _=>rfl) (λb hb=>by
    rcases hb with hb|hb
    ·exact .inl (.inl hb)
    exact .inr hb)
  refine ZU.trans ((kx.below (by omega) (λk hk=>by omega)).trans ((LB.below.mono (by omega)).trans ((JE.below (by omega) (λk hk=>by have:=rm k hk;omega)).trans (ff.kept.below (by omega) (λk hk=>by omega)))))
 have jc:=pT (f:=lK) (i:=i) (by omega) vZ uV;have jV:=jc.1;have hye:=jc.2;subst jV;subst hye;have aIC:aM wx w1.heap.size 172 [str (gM x).2.s,.bool (gM x).2.bad]:=oE;have f1:wx.cell? ⟨w1.drew.heap.size,1,none⟩=some (.bool (gM x).2.bad):=aIC.cell rfl;have f0:wx.cell? ⟨w1.drew.heap.size,0,none⟩=some (str (gM x).2.s):=aIC.cell rfl;have f2:aB wx ⟨w3.heap.size,0,none⟩ 0 2=some [rv.v,.bool (gM x).1.dG]:=hPx.aB;have hv:gd (λj=>j<w6.heap.size) wx (.agg #[rv.v,.bool (gM x).1.dG]) (gM x).1:=by
  refine⟨rv.v,rfl,?_⟩;refine Sl.narrow (vB (R:=dy (λj=>j<w6.heap.size\/rv.v.ownBlock=some j) wx) eG hlen xQ) (by omega) (λcs r h=>?_) (λb _ hb=>by omega);exact h.mono (λ_ _ _=>rfl) (λb hb=>.inl hb)
 have JF:=NG x;have uN:∀w',aM w' w.heap.size 71 [.slice none 0 0,.bool false]->((gM x).2.bad=true\/(gM x).2.s≠[]\/az (gM x).1=false)->Below w.heap.size w w'->vf w.heap.size s (.tuple #[.agg #[.slice none 0 0,.bool false],.iface 74 (.int .i64 3)]) w'/\Below w.heap.size w w':=λw' hb hc Z0=>Wt w' hb (by rw[Wz,if_pos hc]) Z0;cases pz:(gM x).2.bad with
 | true =>
  rw[pz]at f1;push_cast -dsimp[f1];refine aH (n:=2) (by kernel_rfl) vw rfl (by simp) (by simp[Value.oneCell']) ?_;intro w7 fB;have c2:aB w7 ⟨w.heap.size,0,none⟩ 0 2=some [.slice none 0 0,.bool false]:=fB.aL.aB;push_cast -dsimp[c2];exact uN w7 fB.aL (.inl pz) (ZU.trans (fB.kept.below (by omega) (λ_ h=>by omega)))
 | false =>
  rw[pz]at f1;push_cast -dsimp[f1,f0];refine⟨λhs0=>?_,λfx=>?_⟩
  ·have hs0:(gM x).2.s=[]:=Classical.byContradiction hs0;push_cast -dsimp[f2];refine aA (j1 (gM x).1 JF (λj=>j<w6.heap.size) _ wx hv) ?_;rintro _ w7 ⟨rfl,lq⟩;have K1:=lq.size;have hL7:=ZU.trans (lq.mono (by omega));have Ig:=vw.below lq (by omega);cases hpr:az (gM x).1 with
   | true =>
    have f7:aB w7 ⟨w3.heap.size,0,none⟩ 0 2=some [rv.v,.bool (gM x).1.dG]:=(hPx.below lq (by omega)).aB;push_cast -dsimp[f7];refine aH (n:=2) (by kernel_rfl) Ig rfl (by simp) (by simp[SV.v,Value.oneCell']) ?_;intro w8 np;have c8:aB w8 ⟨w.heap.size,0,none⟩ 0 2=some [rv.v,.bool (gM x).1.dG]:=np.aL.aB;push_cast -dsimp[c8];refine⟨?_,hL7.trans (np.kept.below (by omega) (λ_ h=>by omega))⟩;unfold vf;rw[Wz,if_neg (by rw[pz,hs0,hpr];simp)];exact⟨_,rfl,(hv.below lq).mono (λb hb ao=>np.kept.block b ao (λhh=>hb (by omega))) (λb hb=>by omega)⟩
   | false =>
    push_cast -dsimp;refine aH (n:=2) (by kernel_rfl) Ig rfl (by simp) (by simp[Value.oneCell']) ?_;intro w8 np;have c2:aB w8 ⟨w.heap.size,0,none⟩ 0 2=some [.slice none 0 0,.bool false]:=np.aL.aB;push_cast -dsimp[c2];exact uN w8 np.aL (.inr (.inr hpr)) (hL7.trans (np.kept.below (by omega) (λ_ h=>by omega)))
  have fx:(gM x).2.s≠[]:=fx;refine aH (n:=2) (by kernel_rfl) vw rfl (by simp) (by simp[Value.oneCell']) ?_;intro w7 fB;have c2:aB w7 ⟨w.heap.size,0,none⟩ 0 2=some [.slice none 0 0,.bool false]:=fB.aL.aB;push_cast -dsimp[c2];exact uN w7 fB.aL (.inr (.inl fx)) (ZU.trans (fB.kept.below (by omega) (λ_ h=>by omega)))
end Go.Proofs.YtemjejfpadnljaaGreatDoor
