/- Part. -/
import Derived.Test.YtemjejfpadnljaaGreatDoorM12
set_option maxRecDepth 100000
set_option linter.unusedSimpArgs false
set_option linter.unusedVariables false
set_option maxHeartbeats 8000000
namespace Go.Proofs.YtemjejfpadnljaaGreatDoor
section
open Go.Vc Go.Proofs Go.RowKit Cae
attribute [local irreducible] dN ae ak aY runK aw Sl Vc.Own vc aV cJ a7
attribute [local irreducible] bg fJ gz fi aW fK
theorem PW (p:bh)(ps:List Int)(hl:nk p)(uR:ps.length<1000000)(X Xp:Nat->Prop)(v pv:Value)(w:World)(hv:iz X w v p)(hpv:Sl Xp 1 (En oS) w pv ps)(uK:Arg pv) :
  aw Tryz.prog 29 [v,pv] w λr w'=>(if bL p then ∃u,r=.tuple #[u,.nilIface]/\Vc.Own w.heap.size 3 1 aX w' u (dH p ps) else r=.tuple #[.slice none 0 0,.iface 74 (.int .i64 1)])/\Below w.heap.size w w':=by
 obtain⟨rv,rfl,hr⟩:=hv;obtain⟨a,c,rfl,hc⟩:=hr.shape;obtain⟨a3,c3,rfl,hc3⟩:=hpv.shape;refine aD Tryz.func29 rfl (by kernel_rfl) [4,5] rfl ?_;push_cast -dsimp(maxSteps:=9^7) [Tryz.ntmps29];refine aS ?_;intro w1 aU;have aU:mN w w1 71 [.slice a p.rules.length c,.bool p.els]:=aU;have qw:=aU.size;have d1:aB w1 ⟨w.heap.size,0,none⟩ 0 2=some [.slice a p.rules.length c,.bool p.els]:=aU.aL.aB;push_cast -dsimp[d1];refine aA (jz p hl X _ w1 ⟨_,rfl,pg.below hr aU.below⟩) ?_;rintro _ w2 ⟨rfl,dt⟩;have EE:=dt.size;have hL2:=aU.below.trans (dt.mono (by omega));cases hR:bL p with
 | false =>
  push_cast -dsimp[Bool.false_eq_true,if_false];exact hL2
 | true =>
  have Yi:=eS hR;obtain⟨hlen,cg⟩:=Yi;push_cast -dsimp;refine aK [4,5,6,7,8,9,11,12,13,14,15,16,17,22,23,24,25,26,27,28,29,30,31,32,33,34,35,36,37,38,39,40,41,42,43,44,45,46,47,48,49,50,51,52,53,54,55,56,57,58,59,60,61,62,63,64,65,66,67,68,69,70,71,72,73,74,75,76,77,78,79,80,81,82,83,84,85,86,87,88,89,90,91,92,93] (λz wx=>∃(i:Nat) (u:Value),z 7=.int .i64 i/\z 6=u/\i<=ps.length+1/\(ps=[]->i=0)/\Vc.Own w1.heap.size 3 1 aX wx u (bg p ps i)/\Below w1.heap.size w1 wx) (λz _=>ps.length+1-(intOf (z 7)).toNat) ?_ ?_
  ·refine⟨0,_,rfl,rfl,by omega,λ_=>rfl,?_,dt⟩;rw[tV];exact Vc.Own.nil (enc:=aX) _ _ (λ_=>rfl) _
  intro z wx hI;obtain⟨i,u,h7,h6,hi,uN,ho,bS⟩:=hI;have oY:=ho.slice;obtain⟨ua,uc,rfl⟩:=oY;have hLx:Below w.heap.size w wx:=aU.below.trans (bS.mono (by omega));have A5:=bS.size;have hbl:=vQ p ps i;push_cast -dsimp[h7,h6];have jG:(ps=[]\/ps.length<i)->bg p ps i=dH p ps:=λh=>by
   unfold dH;by_cases h0:ps=[]
   ·rw[if_pos h0,uN h0];exact tV p ps
   rw[if_neg h0];have:i=ps.length+1:=by
    rcases h with h|h
    ·exact absurd h h0
    omega
   rw[this]
  refine⟨λhle=>⟨λqB=>?_,λhzero=>?_⟩,λJQ=>?_⟩
  ·have AS:i<=ps.length:=by omega
   have hpx:=hpv.below hLx;refine aAL hpx AS ?_;intro gE;push_cast -dsimp;refine aA (Py (ps.take i) (by rw[List.length_take];omega) Xp _ wx gE (λn c h=>by
    have:=uK ps.length c3 (by cases h;rfl);cases h;omega)) ?_
   rintro v1 w3 ⟨vy,gB⟩;have PA:=gB.size;push_cast -dsimp;refine aA (Ua (ps.take i) wx.heap.size v1 w3 (by rw[List.length_take];omega) vy (by omega)) ?_;rintro _ w4 ⟨ln,kK⟩;have Mn:=kK.size;have aGY:Below wx.heap.size wx w4:=gB.trans kK;have aQ1:=ln.sl;have aGZ:Below w1.heap.size w1 w4:=bS.trans (aGY.mono (by omega));have hP4:aN w4 w.heap.size 71 [.slice a p.rules.length c,.bool p.els]:=aU.aL.below aGZ (by omega);have e0:w4.cell? ⟨w.heap.size,0,none⟩=some (.slice a p.rules.length c):=hP4.cell rfl;have e1:w4.cell? ⟨w.heap.size,1,none⟩=some (.bool p.els):=hP4.cell rfl;have hL4:=hLx.trans (aGY.mono (by omega));have nL:=ho.below (aGY.mono (Nat.le_refl _));have wD:∃sb,fJ p ps i 0=sb:=⟨_,rfl⟩;obtain⟨sb,wD⟩:=wD;have AX:(sb=true\/i=0\/i=ps.length)->bg p ps (i+1)=bg p ps i++[i]:=λh=>by
    rw[tU,if_pos];unfold gz;rw[wD];rcases h with h|h|h
    ·rw[h];rfl
    ·rw[decide_eq_true h,Bool.or_true,Bool.true_or]
    rw[decide_eq_true h,Bool.or_true]
   have ep:sb=false->i≠0->i≠ps.length->bg p ps (i+1)=bg p ps i:=λh1 h2 h3=>by
    rw[tU,if_neg];unfold gz;rw[wD,h1,decide_eq_false h2,decide_eq_false h3];simp
   have yw:ps=[]->i+1=0:=λh=>by subst h;simp at qB
   push_cast -dsimp[e0,e1];refine aK [4,5,9,11,12,13,14,15,16,17,44,45,46,47,48,49,50,51,52,53,54,55,56,57,58,59,60,61,62,63,64,65,66,67,68,69,70,71,72,73,74,75,76,77,78] (λz' wy=>∃(k:Nat),z' 44=.int .i64 k/\z' 9=.bool p.els/\k<=p.rules.length/\fJ p ps i 0=fJ p ps i k/\Below w4.heap.size w4 wy) (λz' _=>p.rules.length-(intOf (z' 44)).toNat) ?_ ?_
   ·exact⟨0,rfl,rfl,Nat.zero_le _,rfl,Below.refl _ _⟩
   intro z' wy hI;obtain⟨k,h44,h9,hk,Kp,gn⟩:=hI;have szy:=gn.size;have hLy:Below w.heap.size w wy:=hL4.trans (gn.mono (by omega));have aPu:Below w1.heap.size w1 wy:=aGZ.trans (gn.mono (by omega));rcases Nat.lt_or_ge k p.rules.length with aq|eo
   ·have hg:=ag (l:=p.rules) (i:=k) aq;obtain⟨r,hrk,Ej,_⟩:=hg;have hg:=Sl.AJ (pg.below hr hLy) hrk;obtain⟨b,o,cs,rfl,hX,Dz,aM,hRr⟩:=hg;obtain⟨s1,i1,s2,i2,rfl,h1,h2⟩:=hRr;have ce:aB wy ⟨b,o+k*5,none⟩ 0 5=some [.bool r.brk,s1,i1,s2,i2]:=ao [.bool r.brk,s1,i1,s2,i2] 0 (λj u hu=>by simpa using aM j u hu);push_cast -dsimp[h44,h9,ce];refine⟨λ_=>⟨⟨by omega,by omega⟩,?_⟩,λh=>absurd h (by omega)⟩;have JP:=cg r Ej;have Vh:=hl.2 r Ej;refine ah (z:=[.bool false,.slice none 0 0,.slice none 0 0,.slice none 0 0,.slice none 0 0]) (by kernel_rfl) ?_;intro wa eB;push_cast -dsimp;refine aI (n:=5) (by kernel_rfl) eB.aL rfl (by simp) (by
     obtain⟨_,_,e1,g1,g2⟩:=h1;cases e1;obtain⟨_,_,rfl,_⟩:=g1.shape;obtain⟨_,_,rfl,_⟩:=g2.shape;obtain⟨_,_,e2,g3,g4⟩:=h2;cases e2;obtain⟨_,_,rfl,_⟩:=g3.shape;obtain⟨_,_,rfl,_⟩:=g4.shape;simp[Value.oneCell']) ?_
    intro wb cH;have Vp:=eB.size;have PD:=cH.size;have aCL:Below wy.heap.size wy wb:=eB.below.trans (cH.kept.below (by omega) (λ_ h=>by omega));have hBb:aN wb wy.heap.size 129 [.bool r.brk,s1,i1,s2,i2]:=cH.aL;have f1:aB wb ⟨wy.heap.size,1,none⟩ 0 2=some [s1,i1]:=lE (n:=2) (xs:=[s1,i1]) hBb 1 rfl rfl;have hLb:=hLy.trans (aCL.mono (by omega));have YK:Below w4.heap.size w4 wb:=gn.trans (aCL.mono szy);have qq:=Qi r.before (ps.take i).reverse Vh.1.1 Vh.1.2.1 Vh.1.2.2 (by rw[List.length_reverse,List.length_take];omega) X _ _ v1 wb (h1.below aCL) (aQ1.below YK);unfold tu at qq;rw[if_pos JP.1]at qq;have e1:(fK r.before (ps.take i).reverse).1=decide ((fK r.before (ps.take i).reverse).1=true):=by simp
    rw[e1]at qq;push_cast -dsimp[f1];refine aA qq ?_;rintro _ wc ⟨rfl,ng⟩;have szc:=ng.size;have hBc:=hBb.below ng (by omega);have aG0:Below w4.heap.size w4 wc:=YK.trans (ng.mono (by omega));have bm:=FD (ps:=ps) (i:=i) hrk;have aME:(fK r.before (ps.take i).reverse).1=true->(fK r.after (ps.drop i)).1=true->r.brk=sb:=λh1 h2=>by
     rw[<-wD,Kp,bm,if_pos];unfold fi;rw[h1,h2];rfl
    have aL5:((fK r.before (ps.take i).reverse).1≠true\/(fK r.after (ps.drop i)).1≠true)->fJ p ps i 0=fJ p ps i (k+1):=λh=>by
     rw[Kp,bm,if_neg];unfold fi;rw[Bool.and_eq_true];rintro⟨h1,h2⟩;rcases h with h|h
     ·exact h h1
     exact h h2
    push_cast -dsimp;refine⟨λj6=>⟨⟨by omega,by omega⟩,⟨k+1,rfl,by omega,aL5 (.inl j6),aG0⟩,by rw[h44];simp only[intOf];omega⟩,λj6=>?_⟩;have j6:(fK r.before (ps.take i).reverse).1=true:=Classical.byContradiction j6;refine bu (λw'=>aN w' wy.heap.size 129 [.bool r.brk,s1,i1,s2,i2]) mixed (by kernel_rfl) hBc.drew ?_;have f2:∀w':World,aN w' wy.heap.size 129 [.bool r.brk,s1,i1,s2,i2]->aB w' ⟨wy.heap.size,3,none⟩ 0 2=some [s2,i2]:=λw' h=>lE (n:=2) (xs:=[s2,i2]) h 3 rfl rfl;have f2d:=f2 wc.drew hBc.drew;have hLc:Below w.heap.size w wc.drew:=(hL4.trans (aG0.mono (by omega))).drew;push_cast -dsimp[f2d];refine⟨λbQ hC=>by rw[f2 bQ hC];exact rfl,?_⟩;refine aAM (hpv.below hLc) AS ?_;intro a' c' iC;push_cast -dsimp;have qq:=Qi r.after (ps.drop i) Vh.2.1 Vh.2.2.1 Vh.2.2.2 (by rw[List.length_drop];omega) X _ _ _ wc.drew (h2.below (aCL.trans ((ng.mono (by omega)).drew))) iC;unfold tu at qq;rw[if_pos JP.2]at qq;have e2:(fK r.after (ps.drop i)).1=decide ((fK r.after (ps.drop i)).1=true):=by simp
    rw[e2]at qq;refine aA qq ?_;rintro _ we ⟨rfl,aPx⟩;have aG3:Below wc.heap.size wc we:=(Below.refl _ _).drew.trans aPx;have aXs:=aG3.size;have hBe:=hBc.below aG3 (by omega);refine⟨hBe,?_⟩;have Sw:Below w4.heap.size w4 we:=aG0.trans (aG3.mono (by omega));push_cast -dsimp;refine⟨λdK=>?_,λdK=>⟨⟨by omega,by omega⟩,⟨k+1,rfl,by omega,aL5 (.inr dK),Sw⟩,by rw[h44];simp only[intOf];omega⟩⟩;have hc0:we.cell? ⟨wy.heap.size,0,none⟩=some (.bool r.brk):=hBe.cell rfl;rw[aME j6 dK]at hc0;have ly:=nL.below (Sw.mono (Nat.le_refl _));have uL:Below w1.heap.size w1 we:=aGZ.trans (Sw.mono (by omega));have Mo:=uL.size;cases sb with
    | true =>
     push_cast -dsimp[hc0];have hy:=AX (.inl rfl);refine cF ay rfl rfl (by omega) ?_;intro w6 bW;have MN:=bW.size;push_cast -dsimp;refine aP (base:=w1.heap.size) [i] (enc:=aX) ay (ly.new bW) (by rfl) (λj u hu=>by simpa[aX] using bW.cell hu) (by simp[aX,Value.oneCell']) (by simp only[List.length_cons,List.length_nil];omega) (by omega) ?_;intro v' w7 nM yB hn7;have ll:Kept (λj=>(Value.slice ua (bg p ps i).length uc).ownBlock=some j) w6 w7:=Kept.grown yB (λ_ h=>h);have lV:Below w1.heap.size w1 w7:=uL.trans ((bW.below.mono Mo).trans (ll.below (by omega) (λg h=>(ly.block g h).1)));push_cast -dsimp;rw[<-hy]at nM;exact⟨⟨by omega,by omega⟩,⟨i+1,_,rfl,rfl,by omega,yw,nM,lV⟩,by rw[h7];simp only[intOf];omega⟩
    | false =>
     push_cast -dsimp[hc0];refine⟨λhi0=>⟨λAf=>?_,λAf=>?_⟩,λhi0=>?_⟩
     ·have hy:=AX (.inr (.inr (by omega)));refine cF ay rfl rfl (by omega) ?_;intro w6 bW;have MN:=bW.size;push_cast -dsimp;refine aP (base:=w1.heap.size) [i] (enc:=aX) ay (ly.new bW) (by rfl) (λj u hu=>by simpa[aX] using bW.cell hu) (by simp[aX,Value.oneCell']) (by simp only[List.length_cons,List.length_nil];omega) (by omega) ?_;intro v' w7 nM yB hn7;have ll:Kept (λj=>(Value.slice ua (bg p ps i).length uc).ownBlock=some j) w6 w7:=Kept.grown yB (λ_ h=>h);have lV:Below w1.heap.size w1 w7:=uL.trans ((bW.below.mono Mo).trans (ll.below (by omega) (λg h=>(ly.block g h).1)));push_cast -dsimp;rw[<-hy]at nM;exact⟨⟨by omega,by omega⟩,⟨i+1,_,rfl,rfl,by omega,yw,nM,lV⟩,by rw[h7];simp only[intOf];omega⟩
     ·have hy:=ep rfl (by omega) (by omega);have EC:Vc.Own w1.heap.size 3 1 aX we (.slice ua (bg p ps i).length uc) (bg p ps (i+1)):=by rw[hy];exact ly
      exact⟨⟨by omega,by omega⟩,⟨i+1,_,rfl,rfl,by omega,yw,EC,uL⟩,by rw[h7];simp only[intOf];omega⟩
     have hy:=AX (.inr (.inl (by omega)));refine cF ay rfl rfl (by omega) ?_;intro w6 bW;have MN:=bW.size;push_cast -dsimp;refine aP (base:=w1.heap.size) [i] (enc:=aX) ay (ly.new bW) (by rfl) (λj u hu=>by simpa[aX] using bW.cell hu) (by simp[aX,Value.oneCell']) (by simp only[List.length_cons,List.length_nil];omega) (by omega) ?_;intro v' w7 nM yB hn7;have ll:Kept (λj=>(Value.slice ua (bg p ps i).length uc).ownBlock=some j) w6 w7:=Kept.grown yB (λ_ h=>h);have lV:Below w1.heap.size w1 w7:=uL.trans ((bW.below.mono Mo).trans (ll.below (by omega) (λg h=>(ly.block g h).1)));push_cast -dsimp;rw[<-hy]at nM;exact⟨⟨by omega,by omega⟩,⟨i+1,_,rfl,rfl,by omega,yw,nM,lV⟩,by rw[h7];simp only[intOf];omega⟩
   have eD:p.els=sb:=by rw[<-wD,Kp,Iq p ps i k eo]
   rw[eD]at h9;push_cast -dsimp[h44,h9];refine⟨λh=>absurd h (by omega),λ_=>?_⟩;have ly:=nL.below (gn.mono (Nat.le_refl _));have uL:=aPu;have Mo:=uL.size;cases sb with
   | true =>
    push_cast -dsimp[h44];have hy:=AX (.inl rfl);refine cF ay rfl rfl (by omega) ?_;intro w6 bW;have MN:=bW.size;push_cast -dsimp;refine aP (base:=w1.heap.size) [i] (enc:=aX) ay (ly.new bW) (by rfl) (λj u hu=>by simpa[aX] using bW.cell hu) (by simp[aX,Value.oneCell']) (by simp only[List.length_cons,List.length_nil];omega) (by omega) ?_;intro v' w7 nM yB hn7;have ll:Kept (λj=>(Value.slice ua (bg p ps i).length uc).ownBlock=some j) w6 w7:=Kept.grown yB (λ_ h=>h);have lV:Below w1.heap.size w1 w7:=uL.trans ((bW.below.mono Mo).trans (ll.below (by omega) (λg h=>(ly.block g h).1)));push_cast -dsimp;rw[<-hy]at nM;exact⟨⟨by omega,by omega⟩,⟨i+1,_,rfl,rfl,by omega,yw,nM,lV⟩,by rw[h7];simp only[intOf];omega⟩
   | false =>
    push_cast -dsimp[h44];refine⟨λhi0=>⟨λAf=>?_,λAf=>?_⟩,λhi0=>?_⟩
    ·have hy:=AX (.inr (.inr (by omega)));refine cF ay rfl rfl (by omega) ?_;intro w6 bW;have MN:=bW.size;push_cast -dsimp;refine aP (base:=w1.heap.size) [i] (enc:=aX) ay (ly.new bW) (by rfl) (λj u hu=>by simpa[aX] using bW.cell hu) (by simp[aX,Value.oneCell']) (by simp only[List.length_cons,List.length_nil];omega) (by omega) ?_;intro v' w7 nM yB hn7;have ll:Kept (λj=>(Value.slice ua (bg p ps i).length uc).ownBlock=some j) w6 w7:=Kept.grown yB (λ_ h=>h);have lV:Below w1.heap.size w1 w7:=uL.trans ((bW.below.mono Mo).trans (ll.below (by omega) (λg h=>(ly.block g h).1)));push_cast -dsimp;rw[<-hy]at nM;exact⟨⟨by omega,by omega⟩,⟨i+1,_,rfl,rfl,by omega,yw,nM,lV⟩,by rw[h7];simp only[intOf];omega⟩
    ·have hy:=ep rfl (by omega) (by omega);have EC:Vc.Own w1.heap.size 3 1 aX wy (.slice ua (bg p ps i).length uc) (bg p ps (i+1)):=by rw[hy];exact ly
     exact⟨⟨by omega,by omega⟩,⟨i+1,_,rfl,rfl,by omega,yw,EC,uL⟩,by rw[h7];simp only[intOf];omega⟩
    have hy:=AX (.inr (.inl (by omega)));refine cF ay rfl rfl (by omega) ?_;intro w6 bW;have MN:=bW.size;push_cast -dsimp;refine aP (base:=w1.heap.size) [i] (enc:=aX) ay (ly.new bW) (by rfl) (λj u hu=>by simpa[aX] using bW.cell hu) (by simp[aX,Value.oneCell']) (by simp only[List.length_cons,List.length_nil];omega) (by omega) ?_;intro v' w7 nM yB hn7;have ll:Kept (λj=>(Value.slice ua (bg p ps i).length uc).ownBlock=some j) w6 w7:=Kept.grown yB (λ_ h=>h);have lV:Below w1.heap.size w1 w7:=uL.trans ((bW.below.mono Mo).trans (ll.below (by omega) (λg h=>(ly.block g h).1)));push_cast -dsimp;rw[<-hy]at nM;exact⟨⟨by omega,by omega⟩,⟨i+1,_,rfl,rfl,by omega,yw,nM,lV⟩,by rw[h7];simp only[intOf];omega⟩
  ·have h0:ps=[]:=List.eq_nil_of_length_eq_zero (by omega);rw[<-jG (.inl h0)];exact⟨⟨_,rfl,ho.mono (by omega)⟩,hLx⟩
  rw[<-jG (.inr (by omega))];exact⟨⟨_,rfl,ho.mono (by omega)⟩,hLx⟩
end
section
open Go.Vc Go.Proofs Go.RowKit Cae
attribute [local irreducible] dN ae ak aY runK aw Sl Vc.Own vc aV cJ a7
def dF (s:List UInt8)(k:Nat):Nat:=if k=(ix 0 s).length then s.length else ((ix 0 s).getD k ⟨0,0,0⟩).at_
def az (s:List UInt8):List Int:=(ix 0 s).map λu=>(u.p:Int)
def br (p:bh)(s:List UInt8):List Nat:=(dH p (az s)).map (dF s)
structure Ax (X:Nat->Prop)(w:World)(eb:Nat)(p:bh)(t:List UInt8)(at_:List Nat):Prop where
 st:∃rv av,aN w eb 73 [rv,.bool p.els,str t,av]/\iz X w (.agg #[rv,.bool p.els]) p/\Sl X 1 (En aX) w av at_/\Arg av
theorem sR (p:bh)(ps:List Int):(dH p ps).length<=ps.length+1/\∀k∈dH p ps,k<=ps.length:=by
 unfold dH;split
 ·exact⟨Nat.zero_le _,λk h=>by cases h⟩
 refine⟨vQ _ _ _,λk h=>?_⟩;unfold bg at h
 have:=List.mem_range.1 (List.mem_filter.1 h).1;omega
theorem xj (p:bh)(hr:bL p=true)(hl:nk p)(s:List UInt8)(hs:s.length<1000000)(eb:Nat)(X:Nat->Prop)(t:List UInt8)(at_:List Nat)(w:World)(hg:vH w)(he:Ax X w eb p t at_) :
  aw Tryz.prog 13 [.pointer (some ⟨eb,0,none⟩),str s] w λr w'=>Vc.Own w.heap.size 3 1 aX w' r (br p s)/\Below w.heap.size w w':=by
 obtain⟨rv,av,hB,hP,hA,hAa⟩:=he.st;refine aD Tryz.func13 rfl (by kernel_rfl) [4] rfl ?_;push_cast -dsimp(maxSteps:=9^7) [Tryz.ntmps13];refine aA (Jq s hs w hg) ?_;rintro v w1 ⟨ho,hb⟩;have qw:=hb.size;have hlen:=sL s.length s 0 rfl;have oY:=ho.sl;have eN:=oY.shape;obtain⟨a,c,rfl,hc⟩:=eN;have hgU:∃us,ix 0 s=us:=⟨_,rfl⟩;obtain⟨us,hU⟩:=hgU;rw[hU]at oY hc hlen;push_cast -dsimp[hU];refine aK [6,8,18,19,20,21,22,23,24,25,26,27] (λz wx=>∃(i:Nat) (ov:Value),z 18=.int .i64 i/\z 6=ov/\i<=us.length/\Vc.Own w1.heap.size 3 1 oS wx ov ((us.take i).map λu=>(u.p:Int))/\Below w1.heap.size w1 wx) (λz _=>us.length-(intOf (z 18)).toNat) ?_ ?_
 ·exact⟨0,_,rfl,rfl,Nat.zero_le _,Vc.Own.nil (enc:=oS) _ _ (λ_=>rfl) _,Below.refl _ _⟩
 intro z wx hI;obtain⟨i,ov,h18,h6,hi,eU,bS⟩:=hI;have A5:=bS.size;push_cast -dsimp[h18,h6];refine⟨λaq=>?_,λeo=>?_⟩
 ·have mH:=ag (l:=us) (i:=i) (by omega);obtain⟨x,hx,jJ,hd,ht⟩:=mH;have mH:=(oY.below bS).get hx;obtain⟨b,o,rfl,hX,aM⟩:=mH;have c0:aB wx ⟨b,o+i*3,none⟩ 0 3=some [.int .i64 x.p,.int .i64 x.at_,.int .i64 x.n]:=ao (xq x) 0 (λj u hu=>by simpa using aM j u hu);have eN:=eU.slice;obtain⟨oa,oc,rfl⟩:=eN;push_cast -dsimp[c0];refine⟨⟨by omega,by omega⟩,?_⟩;refine ah (z:=[.int .i64 0,.int .i64 0,.int .i64 0]) (by kernel_rfl) ?_;intro w2 bP;have EE:=bP.size;push_cast -dsimp;refine aI (n:=3) (by kernel_rfl) bP.aL rfl (by simp) (by simp[Value.oneCell']) ?_;intro w3 dA;have PA:=dA.size;have d0:w3.cell? ⟨wx.heap.size,0,none⟩=some (.int .i64 x.p):=dA.aL.cell rfl;have k3:Kept (λj=>j=wx.heap.size) wx w3:=(Kept.new bP).trans dA.kept (λ_ _ h=>h);have nL:=eU.aH k3 (λg hg h=>by have:=eU.block g hg;omega);have gB:Below w1.heap.size w1 w3:=bS.trans (k3.below A5 (λ_ h=>by omega));push_cast -dsimp[d0];refine cF ay rfl rfl (by omega) ?_;intro w4 aj;have Mn:=aj.size;have ly:=nL.new aj;push_cast -dsimp;refine aP (base:=w1.heap.size) [(x.p:Int)] (enc:=oS) ay ly (by rfl) (λj u hu=>by simpa[oS] using aj.cell hu) (by simp[oS,Value.oneCell']) (by simp only[List.length_map,List.length_take,List.length_cons,List.length_nil];omega) (by omega) ?_;intro v5 w5 EC tM _;have jq:Below w1.heap.size w1 w5:=(gB.trans (aj.below.mono (by omega))).trans ((Kept.grown tM (λ_ h=>h)).below (by omega) (λj h=>(ly.block j h).1))
  have e5:((us.take i).map λu=>(u.p:Int))++[(x.p:Int)]=(us.take (i+1)).map λu=>(u.p:Int):=by rw[ht,List.map_append];rfl
  rw[e5]at EC;push_cast -dsimp;exact⟨⟨by omega,by omega⟩,⟨i+1,_,rfl,rfl,by omega,EC,jq⟩,by rw[h18];simp only[intOf];omega⟩
 rw[List.take_of_length_le (by omega)]at eU;have hpE:us.map (λu=>(u.p:Int))=az s:=by unfold az;rw[hU]
 rw[hpE]at eU;have AV:(az s).length=us.length:=by rw[<-hpE,List.length_map]
 have Bq:=hb.trans (bS.mono qw);have gy:=hB.below Bq hB.lt;have hP2:=hP.below Bq;have b0:aB wx ⟨eb,0,none⟩ 0 2=some [rv,.bool p.els]:=ao [rv,.bool p.els] 0 (λj u hu=>by
  rw[Nat.zero_add,Nat.zero_add];refine gy.cell ?_;match j,hu with
  | 0,hu=>exact hu
  | 1,hu=>exact hu
  | j+2,hu=>cases hu)
 push_cast -dsimp[b0];refine aA (PW p (az s) hl (by omega) X _ _ _ wx hP2 eU.sl eU.di) ?_;rintro _ w2 ⟨aMk,dt⟩;rw[if_pos hr]at aMk;obtain⟨u,rfl,hou⟩:=aMk;have EE:=dt.size;have fP:=Bq.trans (dt.mono Bq.size);have hgk:∃ks,dH p (az s)=ks:=⟨_,rfl⟩;obtain⟨ks,hk⟩:=hgk;have QW:=sR p (az s);rw[hk]at hou QW;have eN:=hou.slice;obtain⟨ka,kc,rfl⟩:=eN;have Nv:=hou.sl;have rB:=(oY.below bS).below dt;push_cast -dsimp;refine aK [11,13,41,42,43,44,45,46,47,48,49,50,51,52,53,54,55,56,57,58,59,60,61,62] (λz wy=>∃(i:Nat) (ov:Value),z 41=.int .i64 i/\z 11=ov/\i<=ks.length/\Vc.Own w2.heap.size 3 1 aX wy ov ((ks.take i).map (dF s))/\Below w2.heap.size w2 wy) (λz _=>ks.length-(intOf (z 41)).toNat) ?_ ?_
 ·exact⟨0,_,rfl,rfl,Nat.zero_le _,Vc.Own.nil (enc:=aX) _ _ (λ_=>rfl) _,Below.refl _ _⟩
 intro y wy hJ;obtain⟨i,ov,h41,Xw,hi,uQ,gn⟩:=hJ;have szy:=gn.size;push_cast -dsimp[h41,Xw];refine⟨λaq=>?_,λeo=>?_⟩
 ·have mH:=ag (l:=ks) (i:=i) (by omega);obtain⟨k,EA,vB,yp,hkt⟩:=mH;have aQq:=QW.2 k vB;have mH:=(Nv.below gn).get EA;obtain⟨b,o,rfl,hX,aM⟩:=mH;have c0:wy.cell? ⟨b,o+i,none⟩=some (.int .i64 k):=by simpa[aX] using aM 0 _ rfl
  have eN:=uQ.slice;obtain⟨oa,oc,rfl⟩:=eN;have e5:(ks.take i).map (dF s)++[dF s k]=(ks.take (i+1)).map (dF s):=by rw[hkt,List.map_append];rfl
  have Af:((ks.take i).map (dF s)).length=i:=by rw[List.length_map,List.length_take];omega
  rw[Af];push_cast -dsimp[c0];refine⟨⟨by omega,by omega⟩,λBu=>?_,λep=>?_⟩
  ·have AV:dF s k=s.length:=by unfold dF;rw[hU,if_pos (by omega)]
   rw[AV]at e5;refine cF ay rfl rfl (by omega) ?_;intro w4 aj;have Mn:=aj.size;have ly:=(uQ).new aj;push_cast -dsimp;rw[Af]at ly;refine aP (base:=w2.heap.size) [(s.length:Nat)] (enc:=aX) ay ly (by rfl) (λj u hu=>by simpa[aX] using aj.cell hu) (by simp[aX,Value.oneCell']) (by simp only[List.length_map,List.length_take,List.length_cons,List.length_nil];omega) (by omega) ?_;intro v5 w5 EC tM _;have jq:Below w2.heap.size w2 w5:=(gn.trans (aj.below.mono (by omega))).trans ((Kept.grown tM (λ_ h=>h)).below (by omega) (λj h=>(ly.block j h).1));rw[e5]at EC;push_cast -dsimp;exact⟨⟨by omega,by omega⟩,⟨i+1,_,rfl,rfl,by omega,EC,jq⟩,by rw[h41];simp only[intOf];omega⟩
  have mH:=ag (l:=us) (i:=k) (by omega);obtain⟨x,hx,_⟩:=mH;have AV:dF s k=x.at_:=by unfold dF;rw[hU,if_neg (by omega),List.getD_eq_getElem?_getD,hx];rfl
  rw[AV]at e5;have mH:=(rB.below gn).get hx;obtain⟨b',o',rfl,_,hcu⟩:=mH;have cu:wy.cell? ⟨b',o'+k*3+1,none⟩=some (.int .i64 x.at_):=hcu 1 _ rfl;push_cast -dsimp[cu];refine⟨⟨by omega,by omega⟩,?_⟩;refine cF ay rfl rfl (by omega) ?_;intro w4 aj;have Mn:=aj.size;have ly:=(uQ).new aj;push_cast -dsimp;rw[Af]at ly;refine aP (base:=w2.heap.size) [(x.at_:Nat)] (enc:=aX) ay ly (by rfl) (λj u hu=>by simpa[aX] using aj.cell hu) (by simp[aX,Value.oneCell']) (by simp only[List.length_map,List.length_take,List.length_cons,List.length_nil];omega) (by omega) ?_;intro v5 w5 EC tM _;have jq:Below w2.heap.size w2 w5:=(gn.trans (aj.below.mono (by omega))).trans ((Kept.grown tM (λ_ h=>h)).below (by omega) (λj h=>(ly.block j h).1));rw[e5]at EC;push_cast -dsimp;exact⟨⟨by omega,by omega⟩,⟨i+1,_,rfl,rfl,by omega,EC,jq⟩,by rw[h41];simp only[intOf];omega⟩
 rw[List.take_of_length_le (by omega)]at uQ;have hE:br p s=ks.map (dF s):=by unfold br;rw[hk]
 rw[hE];exact⟨uQ.mono (by omega),fP.trans (gn.mono fP.size)⟩
section
variable (p:bh) (i:List UInt8) (hi:i.length<100000) (a o:Int) (eb:Nat) (X:Nat->Prop) (t:List UInt8) (ht:t.length<=400) (bs:List Nat) (w:World) (he:Ax X w eb p t bs)
include hi ht he
end
def firstIdx (g:Nat->Bool)(l:List Nat):Int:=if l.findIdx g<l.length then (l.findIdx g:Int) else -1
def gtB (a:Int)(x:Nat):Bool:=decide (a<(x:Int))
def rl (l:List Nat)(a:Int):Value:=if firstIdx (gtB a) l<0 then .tuple #[.int .i64 0,.bool false] else .tuple #[.int .i64 (l.getD (firstIdx (gtB a) l).toNat 0:Nat),.bool true]
theorem aFX (a b:Nat):((a:Int).tmod (b:Int))=((a % b:Nat):Int):=by
 rw[Int.tmod_eq_emod_of_nonneg (Int.natCast_nonneg _)];rfl
theorem nq {x y:Nat}(hx:x<4294967296)(hy:y<4294967296):cR .or .u32 x y=((x ||| y:Nat):Int):=by
 simp only[cR,mm,BitVec.toNat_or,BitVec.toNat_ofNat];rw[Nat.mod_eq_of_lt (show x<2 ^ IntKind.u32.bits by show x<2 ^ 32;omega),Nat.mod_eq_of_lt (show y<2 ^ IntKind.u32.bits by show y<2 ^ 32;omega),fD,Nat.mod_eq_of_lt (Nat.or_lt_two_pow (n:=32) hx hy)]
theorem aFV (s:List UInt8)(hs:s.length<9223372036854775807)(w:World):aw Tryz.prog 78 [str s] w λr w'=>r=.int .u32 (yW s)/\w'=w:=by
 refine aD Tryz.func78 rfl (by kernel_rfl) [2] rfl ?_;push_cast -dsimp(maxSteps:=9^7) [Tryz.ntmps78];refine aK [3,4,5,8,9,10,11,12,13,14,15,16,17,18,19,20,21,22] (λz wx=>∃(i a b:Nat),z 8=.int .i64 i/\z 3=.int .u32 a/\z 4=.int .u32 b/\i<=s.length/\a<65521/\b<65521/\qh a b (s.drop i)=qh 1 0 s/\wx=w) (λz _=>s.length-(intOf (z 8)).toNat) ?_ ?_
 ·exact⟨0,1,0,rfl,rfl,rfl,Nat.zero_le _,by omega,by omega,rfl,rfl⟩
 intro z wx hI;obtain⟨i,a,b,h8,h3,h4,hi,ha,hb,hg,hw⟩:=hI;push_cast -dsimp[h8,h3,h4];refine⟨λaq=>?_,λeo=>?_⟩
 ·obtain⟨c,hc,_,hd,_⟩:=ag (l:=s) (i:=i) (by omega);rw[hd,qh]at hg;have jE:=c.toNat_lt;have Vb:s.getD i 0=c:=by rw[List.getD_eq_getElem?_getD,hc];rfl
  rw[Vb,fD,Nat.mod_eq_of_lt (by omega),show (a:Int)+(c.toNat:Int)=((a+c.toNat:Nat):Int) by omega,fD,Nat.mod_eq_of_lt (show a+c.toNat<4294967296 by omega)]
  rw[show (65521:Int)=((65521:Nat):Int) from rfl,aFX]
  have hm:=Nat.mod_lt (a+c.toNat) (show 0<65521 by omega)
  generalize (a+c.toNat) % 65521=m at hm hg ⊢
  rw[show (b:Int)+(m:Int)=((b+m:Nat):Int) by omega,fD,Nat.mod_eq_of_lt (show b+m<4294967296 by omega),aFX]
  have dK:=Nat.mod_lt (b+m) (show 0<65521 by omega)
  generalize (b+m) % 65521=m2 at dK hg ⊢
  exact⟨⟨by omega,by omega⟩,⟨by omega,by omega⟩,⟨i+1,m,m2,rfl,rfl,rfl,by omega,hm,dK,hg,hw⟩,by simp only[intOf];omega⟩
 rw[List.drop_eq_nil_of_le (by omega),qh]at hg;have hp:yW s=b*65536+a:=by unfold yW;rw[<-hg]
 refine⟨?_,hw⟩;congr 1;rw[hp,show min 16 IntKind.u32.bits=16 from rfl,show ((b:Int)*2 ^ 16)=((b*2 ^ 16:Nat):Int) by simp,fD,Nat.mod_eq_of_lt (by omega),nq (by omega) (by omega),qO (k:=16) (by omega)]
def Grow (w w':World)(v v':Value):Prop:=Kept (λj=>v.ownBlock=some j) w w'/\∀g,v'.ownBlock=some g->v.ownBlock=some g\/w.heap.size<=g
theorem Grow.refl (w:World)(v:Value):Grow w w v v:=⟨Kept.refl _ _,λ_ h=>.inl h⟩
theorem Grow.trans {a b c:World}{u v x:Value}(h:Grow a b u v)(k:Grow b c v x):Grow a c u x:=by
 have hs:=h.1.size;refine⟨h.1.trans k.1 (λi hi hv=>?_),λg hg=>?_⟩
 ·rcases h.2 i hv with h'|h'
  ·exact h'
  omega
 rcases k.2 g hg with h'|h'
 ·exact h.2 g h'
 exact .inr (by omega)
theorem Grow.still {a b:World}(v:Value)(h:Kept (λ_=>False) a b):Grow a b v v:=⟨h.weaken (λ_ _ h=>h.elim),λ_ h=>.inl h⟩
theorem Grow.put {a b c:World}{u v:Value}{e:TypeId}{p:Nat}{cs:List Value}(h:Grow a b u v)(hn:A8 b c p e cs)(hp:a.heap.size<=p):Grow a c u v :=
 ⟨h.1.trans hn.kept (λi hi hh=>by omega),h.2⟩
theorem Grow.below {a b:World}{u v:Value}{base:Nat}{e:TypeId}{k:Nat}{α:Type}{enc:α->List Value}{l:List α}(h:Grow a b u v)(ho:Vc.Own base e k enc a u l)(hb:base<=a.heap.size):Below base a b :=
 h.1.below hb λi hi=>(ho.block i hi).1
theorem Grow.apart {a b:World}{u v:Value}(h:Grow a b u v){p:Nat}(hp:p<a.heap.size)(hu:u.ownBlock≠some p):v.ownBlock≠some p:=λhv=>by
 rcases h.2 p hv with h'|h'
 ·exact hu h'
 omega
theorem xE {α:Type}{a b:World}{u:Value}{base:Nat}{e:TypeId}{k:Nat}{enc:α->List Value}{l:List α}(ho:Vc.Own base e k enc a u l)(h:Kept (λ_=>False) a b):Vc.Own base e k enc b u l:=ho.aH h (λ_ _ hh=>hh)
theorem vM {P:Program}{t:Fr}{w:World}{K:VK}{Q:EP}{bt ty e:TypeId}{base n c:Nat}{v:Value}{l:List UInt8}{w0:World}(ys:List UInt8){p}(hE:Bd P bt=some (e,1,1))(ho:Vc.Own base e 1 je w0 v l)(hw:mN w0 w e (ys.flatMap je))
  (hn:ys.length=n) (hlen:l.length+ys.length<100000000000000) (hb:base<=w0.heap.size) (kk:∀v' w',Vc.Own base e 1 je w' v' (l++ys)->Grow w0 w' v v'->K v' w') :
  ak P (Builtin.append_ #[bt,bt] ty [v,.slice (some ⟨w0.heap.size,0,none⟩) n c].toArray) t w K Q p :=
 aP (base:=base) ys hE (ho.new hw) hn (λj u hu=>by simpa using hw.cell hu) (by simp[je,Value.oneCell']) (by omega) (by have:=hw.size;omega) λv' w2 ln EZ hn2 =>
  kk v' w2 ln ⟨(Kept.new hw (X:=λj=>v.ownBlock=some j)).trans (Kept.grown EZ λ_ h=>h) (λ_ _ h=>h),λg hg=>by
   rcases hn2 g hg with h|h
   ·exact .inl h
   exact .inr (by have:=hw.size;omega)⟩
theorem L3 {n:Nat}(h:n<4294967296):cR .or .u8 (IntKind.u8.wrap (cR .and .i64 (n:Int) 127)) 128=(((bt (n % 128+128)).toNat:Nat):Int):=by
 have hm:=Nat.mod_lt n (show 0<128 by omega)
 rw[show (127:Int)=((2 ^ 7-1:Nat):Int) from rfl,mS (by omega) (by omega),mz,fp,show n % 2 ^ 7=n % 128 from rfl,Nat.mod_eq_of_lt (by omega),show (128:Int)=((128:Nat):Int) from rfl,NK (by omega) (by omega),jA (by omega)]
 have:=qO (p:=1) (x:=n % 128) (k:=7) (by omega);rw[Nat.or_comm];rw[show 1*2 ^ 7=128 from rfl]at this
 rw[this,Nat.add_comm]
theorem rp (base n:Nat)(l:List UInt8)(hn:n<2147483648)(TN:l.length+(eK n).length<10000000000000)(v:Value)(w:World)(ho:Vc.Own base 5 1 je w v l)(hb:base<=w.heap.size) :
  aw Tryz.prog 75 [v,.int .i64 n] w λv' w'=>Vc.Own base 5 1 je w' v' (l++eK n)/\Grow w w' v v':=by
 refine aD Tryz.func75 rfl (by kernel_rfl) [4] rfl ?_;push_cast -dsimp(maxSteps:=9^7) [Tryz.ntmps75];refine aK [0,1,5,6,7,8,9,10,11,12,13,14,15] (λz wx=>∃(m:Nat) (l':List UInt8),z 1=.int .i64 m/\m<=n/\l'++eK m=l++eK n/\Vc.Own base 5 1 je wx (z 0) l'/\Grow w wx v (z 0)) (λz _=>(intOf (z 1)).toNat) ?_ ?_
 ·exact⟨n,l,rfl,Nat.le_refl _,rfl,ho,Grow.refl _ _⟩
 intro z wx hI;obtain⟨m,l',h1,hm,hl',eU,mH⟩:=hI;have hlen:=congrArg List.length hl';have hml:=rm m;simp only[List.length_append]at hlen;have pG:=mH.1.size;push_cast -dsimp[h1];refine⟨λeo=>?_,λaq=>?_⟩
 ·refine cF oR rfl rfl (by omega) ?_;intro w1 aU;rw[L3 (by omega)]at aU;push_cast -dsimp;refine vM (base:=base) [bt (m % 128+128)] oR eU aU rfl (by simp only[List.length_cons,List.length_nil];omega) (by omega) ?_;intro v' w2 ln EZ;push_cast -dsimp;have es:((m:Int).fdiv (2 ^ min 7 IntKind.i64.bits))=((m / 2 ^ 7:Nat):Int):=As (b:=7) rfl (by show 7<=64;omega)
  rw[es,show m / 2 ^ 7=m / 128 from rfl]
  refine⟨⟨m / 128,_,rfl,by omega,?_,ln,mH.trans EZ⟩,by rw[h1];simp only[intOf];omega⟩;rw[<-hl',I1 (n:=m) (by omega),List.append_assoc];rfl
 refine cF oR rfl rfl (by omega) ?_;intro w1 aU;rw[fp,Nat.mod_eq_of_lt (by omega)]at aU;have e1:((m:Nat):Int)=(((bt m).toNat:Nat):Int):=by rw[jA (by omega)]
 rw[e1]at aU;push_cast -dsimp;refine vM (base:=base) [bt m] oR eU aU rfl (by simp only[List.length_cons,List.length_nil];omega) (by omega) ?_;intro v' w2 ln EZ;push_cast -dsimp;rw[<-hl',si (by omega)];exact⟨ln,mH.trans EZ⟩
theorem aEY (base:Nat)(b:Bool)(l:List UInt8)(TN:l.length<10000000000000)(v:Value)(w:World)(ho:Vc.Own base 5 1 je w v l)(hb:base<=w.heap.size) :
  aw Tryz.prog 76 [v,.bool b] w λv' w'=>Vc.Own base 5 1 je w' v' (l++tG b)/\Grow w w' v v':=by
 refine aD Tryz.func76 rfl (by kernel_rfl) [4] rfl ?_;push_cast -dsimp(maxSteps:=9^7) [Tryz.ntmps76];cases b with
 | true =>
  push_cast -dsimp;refine cF oR rfl rfl (by omega) ?_;intro w1 aU;push_cast -dsimp;refine vM (base:=base) [1] oR ho aU rfl (by simp only[List.length_cons,List.length_nil];omega) (by omega) ?_;intro v' w2 ln EZ;push_cast -dsimp;exact⟨ln,EZ⟩
 | false =>
  push_cast -dsimp;refine cF oR rfl rfl (by omega) ?_;intro w1 aU;push_cast -dsimp;refine vM (base:=base) [0] oR ho aU rfl (by simp only[List.length_cons,List.length_nil];omega) (by omega) ?_;intro v' w2 ln EZ;push_cast -dsimp;exact⟨ln,EZ⟩
theorem rP {α:Type}{f:α->List UInt8}:∀{l:List α} {i:Nat} {x:α},l[i]?=some x->((l.take i).flatMap f).length+(f x).length<=(l.flatMap f).length
 | [],i,x,h=>by simp at h
 | y::l,0,x,h=>by simp at h;subst h;simp
 | y::l,i+1,x,h=>by
  have:=rP (f:=f) (l:=l) (i:=i) (x:=x) (by simpa using h);simp only[List.take_succ_cons,List.flatMap_cons,List.length_append];omega
theorem sX {α:Type}{f:α->List UInt8}{l:List α}{i:Nat}{x:α}(h:l.take (i+1)=l.take i++[x]):(l.take (i+1)).flatMap f=(l.take i).flatMap f++f x:=by
 rw[h,List.flatMap_append];simp
theorem pN (base:Nat)(z:Int)(l:List UInt8)(h0:0<=z)(hz:z<2147483648)(TN:l.length+(eK z.toNat).length<10000000000000)(v:Value)(w:World)(ho:Vc.Own base 5 1 je w v l)(hb:base<=w.heap.size) :
  aw Tryz.prog 75 [v,.int .i64 z] w λv' w'=>Vc.Own base 5 1 je w' v' (l++eK z.toNat)/\Grow w w' v v':=by
 have e:z=((z.toNat:Nat):Int):=by omega
 have:=rp base z.toNat l (by omega) TN v w ho hb;rwa [<-e]at this
theorem Fb {c:aE}(h:aW c=true){x:I3}(hx:x∈c.ins):(0<=x.op/\x.op<2147483648)/\(0<=x.a/\x.a<2147483648)/\(0<=x.b/\x.b<2147483648):=by
 have hc:=CR.of h;obtain⟨i,hi⟩:=List.getElem?_of_mem hx;have hr:=cY (hc.ins i x hi)
 have:=hc.sets
 have:=hc.many;omega
theorem zV {c:aE}(h:aW c=true){s:List Rg}(hs:s∈c.sets){r:Rg}(hr:r∈s):(0<=r.1/\r.1<2147483648)/\(0<=r.2/\r.2<2147483648):=by
 have hc:=CR.of h;obtain⟨i,hi⟩:=List.getElem?_of_mem hr;obtain⟨h1,h2,h3,_⟩:=cM s (-2) (hc.set s hs) i r hi;omega
theorem Rf (base:Nat)(c:aE)(hc:aW c=true)(l:List UInt8)(TN:l.length+(mF c).length<10000000000000)(v cv:Value)(w:World)(ho:Vc.Own base 5 1 je w v l)(hb:base<=w.heap.size)
  (V6:cz (λj=>base<=j) w cv c):aw Tryz.prog 77 [v,cv] w λv' w'=>Vc.Own base 5 1 je w' v' (l++mF c)/\Grow w w' v v':=by
 obtain⟨sv,iv,rfl,uU,vA⟩:=V6;obtain⟨a1,c1,rfl,EX⟩:=uU.shape;obtain⟨a2,c2,rfl,tJ⟩:=vA.shape;have JP:=CR.of hc;have il:=JP.sets;have s9:=JP.many;have OD:∀i,v.ownBlock=some i->base<=i:=λi hi=>(ho.block i hi).1;have IB:v.ownBlock≠some w.heap.size:=λh=>by have:=(ho.block _ h).2;omega
 have jE:(mF c).length=(eK c.sets.length).length+(c.sets.flatMap qU).length+(eK c.ins.length).length+(c.ins.flatMap tO).length:=by simp only[mF,List.length_append]
 refine aD Tryz.func77 rfl (by kernel_rfl) [4] rfl ?_;push_cast -dsimp(maxSteps:=9^7) [Tryz.ntmps77];refine aS ?_;intro w1 aU;have d0:w1.cell? ⟨w.heap.size,0,none⟩=some (.slice a1 c.sets.length c1):=aU.cell rfl;have s1:=aU.size;push_cast -dsimp[d0];refine aA (rp base c.sets.length l (by have:=JP.sets;omega) (by omega) v w1 (ho.new aU) (by omega)) ?_;rintro v1 w2 ⟨ln,EZ⟩;have hG2:Grow w w2 v v1:=(Grow.still v (Kept.new aU)).trans EZ;have e0:w2.cell? ⟨w.heap.size,0,none⟩=some (.slice a1 c.sets.length c1):=EZ.1.cell d0 IB;have e1:w2.cell? ⟨w.heap.size,1,none⟩=some (.slice a2 c.ins.length c2):=EZ.1.cell (aU.cell rfl) IB;have aMs:v1.ownBlock≠some w.heap.size:=EZ.apart (by omega) IB;push_cast -dsimp[e0];refine aK [0,6,8,19,20,21,22,23,24,25,26,27,28,29,30,31,32,33,34,35,36,37,38,39,40,41] (λz wx=>∃(i:Nat),z 19=.int .i64 i/\i<=c.sets.length/\Vc.Own base 5 1 je wx (z 0) (l++eK c.sets.length++(c.sets.take i).flatMap qU)/\Grow w2 wx v1 (z 0)) (λz _=>c.sets.length-(intOf (z 19)).toNat) ?_ ?_
 ·exact⟨0,rfl,Nat.zero_le _,(by simpa using ln:Vc.Own base 5 1 je w2 v1 (l++eK c.sets.length++(c.sets.take 0).flatMap qU)),Grow.refl _ _⟩
 intro z wx hI;obtain⟨i,h19,hi,eU,mH⟩:=hI;have hGx:=hG2.trans mH;have sx:=hGx.1.size;push_cast -dsimp[h19];refine⟨λaq=>?_,λeo=>?_⟩
 ·obtain⟨s,hs,TW,hd,ht⟩:=ag (l:=c.sets) (i:=i) (by omega);have tL:=rP (f:=qU) hs;obtain⟨b,o,cs,rfl,hX,hk,aM,u,rfl,hu⟩:=Sl.AJ (eH.kept uU hGx.1 OD) hs;have cu:wx.cell? ⟨b,o+i,none⟩=some u:=by simpa using aM 0 u rfl
  obtain⟨a3,c3,rfl,hc3⟩:=hu.shape;push_cast -dsimp[cu];have oY:(qU s).length=(eK s.length).length+(s.flatMap jY).length:=by simp only[qU,List.length_append]
  have aTr:=rm s.length;refine⟨⟨by omega,by omega⟩,?_⟩;have hsn:s.length<10000000000000:=by have:=rN DH s;omega
  have hsq:=eW ((CR.of hc).set s TW);refine aA (rp base s.length _ (by omega) (by simp only[List.length_append];omega) (z 0) wx eU (by omega)) ?_;rintro v3 w3 ⟨nL,QQ⟩;have hG3:=hGx.trans QQ;have s3:=hG3.1.size;have hu3:=Sl.kept hu QQ.1 (λj hj=>(eU.block j hj).1);push_cast -dsimp;refine aK [0,8,29,30,31,32,33,34,35,36,37,38,39,40] (λz' wy=>∃(j:Nat),z' 29=.int .i64 j/\j<=s.length/\Vc.Own base 5 1 je wy (z' 0) (l++eK c.sets.length++(c.sets.take i).flatMap qU++eK s.length++(s.take j).flatMap jY)/\Grow w3 wy v3 (z' 0)) (λz' _=>s.length-(intOf (z' 29)).toNat) ?_ ?_
  ·exact⟨0,rfl,Nat.zero_le _,(by simpa using nL:Vc.Own base 5 1 je w3 v3 (l++eK c.sets.length++(c.sets.take i).flatMap qU++eK s.length++(s.take 0).flatMap jY)),Grow.refl _ _⟩
  intro z' wy hI;obtain⟨j,h29,hj,uQ,Ec⟩:=hI;have hGy:=hG3.trans Ec;have sy:=hGy.1.size;push_cast -dsimp[h29];refine⟨λBv=>?_,λEa=>?_⟩
  ·have hex:=ag (l:=s) (i:=j) (by omega);obtain⟨r,hx⟩:=hex;have hr:=hx.1;have Ej:=hx.2.1;have Mi:=hx.2.2.2;have aMh:=zV hc TW Ej;have x9:=aMh.1;have rZ:=aMh.2;have aLN:=rP (f:=jY) hr;have AR:=(Sl.kept hu3 Ec.1 (λj hj=>(nL.block j hj).1)).get hr;obtain⟨b3,o3,rfl,hX3,Ns⟩:=AR;have ce:aB wy ⟨b3,o3+j*2,none⟩ 0 2=some [.int .i64 r.1,.int .i64 r.2]:=ao (bF r) 0 (λk u hu=>by simpa using Ns k u hu);push_cast -dsimp[ce];have Hw:(jY r).length=(eK r.1.toNat).length+(eK r.2.toNat).length:=by simp only[jY,List.length_append]
   refine⟨⟨by omega,by omega⟩,?_⟩;refine ah (z:=[.int .i64 0,.int .i64 0]) (by kernel_rfl) ?_;intro w4 aj;push_cast -dsimp;refine aI (n:=2) (by kernel_rfl) aj.aL rfl (by simp) (by simp[Value.oneCell']) ?_;intro w5 cG;have s4:=aj.size;have Hd:aN w5 wy.heap.size 208 [.int .i64 r.1,.int .i64 r.2]:=cG.aL;have hG5:Grow wy w5 (z' 0) (z' 0):=(Grow.still _ (Kept.new aj)).put cG (Nat.le_refl _);have EC:Vc.Own base 5 1 je w5 (z' 0) _:=(uQ.new aj).aH cG.kept (λg hg hh=>by have:=(uQ.block g hg).2;omega);have uK:(z' 0).ownBlock≠some wy.heap.size:=λh=>by have:=(uQ.block _ h).2;omega
   push_cast -dsimp;have s5:=hG5.1.size;have s6:=cG.size;refine bu (λw'=>aN w' wy.heap.size 208 [.int .i64 r.1,.int .i64 r.2]) mixed (by kernel_rfl) Hd.drew ?_;have f0:w5.drew.cell? ⟨wy.heap.size,0,none⟩=some (.int .i64 r.1):=Hd.drew.cell rfl;push_cast -dsimp[f0];refine⟨λbQ hC=>by rw[hC.cell (o:=0) rfl];exact rfl,?_⟩;refine aA (pN base r.1 _ x9.1 x9.2 (by simp only[List.length_append];omega) (z' 0) w5.drew (xE EC (Kept.refl _ _).drew) (by show base<=w5.heap.size;omega)) ?_
   rintro v6 w6 ⟨rA,K6⟩;have sY:=Hd.drew.kept K6.1 uK;refine⟨sY,?_⟩;have f1:w6.cell? ⟨wy.heap.size,1,none⟩=some (.int .i64 r.2):=sY.cell rfl;push_cast -dsimp[f1];refine⟨λbQ hC=>by rw[hC.cell (o:=1) rfl];exact rfl,?_⟩;have s7:=K6.1.size;refine aA (pN base r.2 _ rZ.1 rZ.2 (by simp only[List.length_append];omega) v6 w6 rA (by have:w5.heap.size<=w6.heap.size:=s7;omega)) ?_;rintro v7 w7 ⟨nM,yB⟩;have KS:=sY.kept yB.1 (K6.apart (by show wy.heap.size<w5.heap.size;omega) uK)
   refine⟨KS,?_⟩;push_cast -dsimp;refine⟨⟨by omega,by omega⟩,⟨j+1,rfl,by omega,?_,Ec.trans (hG5.trans ((Grow.still _ (Kept.refl _ _).drew).trans (K6.trans yB)))⟩,by rw[h29];simp only[intOf];omega⟩;rw[sX Mi];simpa only[jY,List.append_assoc] using nM
  have hj2:s.take j=s:=List.take_of_length_le (by omega);rw[hj2]at uQ;refine⟨⟨by omega,by omega⟩,⟨i+1,rfl,by omega,?_,mH.trans (QQ.trans Ec)⟩,by rw[h19];simp only[intOf];omega⟩;rw[sX ht];simpa only[qU,List.append_assoc] using uQ
 have QS:c.sets.take i=c.sets:=List.take_of_length_le (by omega);rw[QS]at eU;have f1:=mH.1.cell e1 aMs;have aPp:=mH.apart (by have:=hG2.1.size;have:=EZ.1.size;omega) aMs;have s9:=JP.many;push_cast -dsimp[f1];refine aA (rp base c.ins.length _ (by omega) (by simp only[List.length_append];omega) (z 0) wx eU (by omega)) ?_;rintro v3 w3 ⟨nL,QQ⟩;have hG3:=hGx.trans QQ;have f3:=QQ.1.cell f1 aPp;push_cast -dsimp[f3];refine aK [0,10,50,51,52,53,54,55,56,57,58,59,60,61,62,63,64] (λz' wy=>∃(j:Nat),z' 50=.int .i64 j/\j<=c.ins.length/\Vc.Own base 5 1 je wy (z' 0) (l++eK c.sets.length++c.sets.flatMap qU++eK c.ins.length++(c.ins.take j).flatMap tO)/\Grow w3 wy v3 (z' 0)) (λz' _=>c.ins.length-(intOf (z' 50)).toNat) ?_ ?_
 ·exact⟨0,rfl,Nat.zero_le _,(by simpa using nL:Vc.Own base 5 1 je w3 v3 (l++eK c.sets.length++c.sets.flatMap qU++eK c.ins.length++(c.ins.take 0).flatMap tO)),Grow.refl _ _⟩
 intro z' wy hI;obtain⟨j,h50,hj,uQ,Ec⟩:=hI;have hGy:=hG3.trans Ec;have sy:=hGy.1.size;push_cast -dsimp[h50];refine⟨λBv=>?_,λEa=>?_⟩
 ·have hex:=ag (l:=c.ins) (i:=j) (by omega);obtain⟨x,hxx⟩:=hex;have hx:=hxx.1;have jJ:=hxx.2.1;have hxt:=hxx.2.2.2;have Yp:=Fb hc jJ;have Em:=Yp.1;have wE:=Yp.2.1;have hx3:=Yp.2.2;have aLN:=rP (f:=tO) hx;have AR:=(Sl.kept vA hGy.1 OD).get hx;obtain⟨b3,o3,rfl,hX3,Ns⟩:=AR;have ce:aB wy ⟨b3,o3+j*3,none⟩ 0 3=some [.int .i64 x.op,.int .i64 x.a,.int .i64 x.b]:=ao (bX x) 0 (λk u hu=>by simpa using Ns k u hu);push_cast -dsimp[ce];have hxl:(tO x).length=(eK x.op.toNat).length+(eK x.a.toNat).length+(eK x.b.toNat).length:=by simp only[tO,List.length_append]
  refine⟨⟨by omega,by omega⟩,?_⟩;refine ah (z:=[.int .i64 0,.int .i64 0,.int .i64 0]) (by kernel_rfl) ?_;intro w4 aj;push_cast -dsimp;refine aI (n:=3) (by kernel_rfl) aj.aL rfl (by simp) (by simp[Value.oneCell']) ?_;intro w5 cG;have s4:=aj.size;have Hd:aN w5 wy.heap.size 164 [.int .i64 x.op,.int .i64 x.a,.int .i64 x.b]:=cG.aL;have hG5:Grow wy w5 (z' 0) (z' 0):=(Grow.still _ (Kept.new aj)).put cG (Nat.le_refl _);have EC:Vc.Own base 5 1 je w5 (z' 0) _:=(uQ.new aj).aH cG.kept (λg hg hh=>by have:=(uQ.block g hg).2;omega);have uK:(z' 0).ownBlock≠some wy.heap.size:=λh=>by have:=(uQ.block _ h).2;omega
  push_cast -dsimp;have s5:=hG5.1.size;have s6:=cG.size;refine bu (λw'=>aN w' wy.heap.size 164 [.int .i64 x.op,.int .i64 x.a,.int .i64 x.b]) mixed (by kernel_rfl) Hd.drew ?_;have f0:w5.drew.cell? ⟨wy.heap.size,0,none⟩=some (.int .i64 x.op):=Hd.drew.cell rfl;push_cast -dsimp[f0];refine⟨λbQ hC=>by rw[hC.cell (o:=0) rfl];exact rfl,?_⟩;refine aA (pN base x.op _ Em.1 Em.2 (by simp only[List.length_append];omega) (z' 0) w5.drew (xE EC (Kept.refl _ _).drew) (by show base<=w5.heap.size;omega)) ?_
  rintro v6 w6 ⟨rA,K6⟩;have sY:=Hd.drew.kept K6.1 uK;have aLd:=K6.apart (by show wy.heap.size<w5.heap.size;omega) uK
  refine⟨sY,?_⟩;have f1:w6.cell? ⟨wy.heap.size,1,none⟩=some (.int .i64 x.a):=sY.cell rfl;push_cast -dsimp[f1];refine⟨λbQ hC=>by rw[hC.cell (o:=1) rfl];exact rfl,?_⟩;have s7:w5.heap.size<=w6.heap.size:=K6.1.size;refine aA (pN base x.a _ wE.1 wE.2 (by simp only[List.length_append];omega) v6 w6 rA (by omega)) ?_;rintro v7 w7 ⟨nM,yB⟩;have KS:=sY.kept yB.1 aLd;have aCE:=yB.apart (by omega) aLd;refine⟨KS,?_⟩;have f2:w7.cell? ⟨wy.heap.size,2,none⟩=some (.int .i64 x.b):=KS.cell rfl;push_cast -dsimp[f2];refine⟨λbQ hC=>by rw[hC.cell (o:=2) rfl];exact rfl,?_⟩;have s8:=yB.1.size;refine aA (pN base x.b _ hx3.1 hx3.2 (by simp only[List.length_append];omega) v7 w7 nM (by omega)) ?_;rintro v8 w8 ⟨sd,E0⟩;refine⟨KS.kept E0.1 aCE,?_⟩;push_cast -dsimp;refine⟨⟨by omega,by omega⟩,⟨j+1,rfl,by omega,?_,Ec.trans (hG5.trans ((Grow.still _ (Kept.refl _ _).drew).trans (K6.trans (yB.trans E0))))⟩,by rw[h50];simp only[intOf];omega⟩;rw[sX hxt];simpa only[tO,List.append_assoc] using sd
 have hj2:c.ins.take j=c.ins:=List.take_of_length_le (by omega);rw[hj2]at uQ;refine⟨?_,hGy⟩;simpa only[mF,List.append_assoc] using uQ
theorem xB {n:Nat}(h:n<2147483648):(eK n).length<=5:=LZ 5 n (by omega) (by omega)
theorem KP {α:Type}{f:α->List UInt8}{k:Nat}:∀(l:List α),(∀x∈l,(f x).length<=k)->(l.flatMap f).length<=l.length*k
 | [],_=>by simp
 | x::l,h=>by
  have h1:=h x (by simp);have h2:=KP l (λy hy=>h y (by simp[hy]));simp only[List.flatMap_cons,List.length_append,List.length_cons,Nat.add_mul];omega
theorem zX {c:aE}(hr:aW c=true):(mF c).length<=83886126000:=by
 have hc:=CR.of hr;have h1:=hc.sets;have h2:=hc.many;have e1:(c.sets.flatMap qU).length<=c.sets.length*41943045:=KP _ λs hs=>by
  have:=KP (f:=jY) (k:=10) s (λr Ej=>by
   obtain⟨g1,g2⟩:=zV hr hs Ej
   have:=xB (n:=r.1.toNat) (by omega)
   have:=xB (n:=r.2.toNat) (by omega);simp only[jY,List.length_append];omega)
  have:=eW (hc.set s hs)
  have:=xB (n:=s.length) (by omega);simp only[qU,List.length_append];omega
 have e2:(c.ins.flatMap tO).length<=c.ins.length*15:=KP _ λx hx=>by
  obtain⟨g1,g2,g3⟩:=Fb hr hx
  have:=xB (n:=x.op.toNat) (by omega)
  have:=xB (n:=x.a.toNat) (by omega)
  have:=xB (n:=x.b.toNat) (by omega);simp only[tO,List.length_append];omega
 have:=xB (n:=c.sets.length) (by omega)
 have:=xB (n:=c.ins.length) (by omega);simp only[mF,List.length_append];omega
theorem DF {p:bh}(hr:bL p=true):(im p).length<9000000000000:=by
 obtain⟨h1,h3⟩:=eS hr;have e1:(p.rules.flatMap mK).length<=p.rules.length*167772252001:=KP _ λr Ej=>by
  obtain⟨k1,k2⟩:=h3 r Ej
  have:=zX k1
  have:=zX k2;simp only[mK,tG,List.length_append,List.length_cons,List.length_nil];omega
 have:=xB (n:=p.rules.length) (by omega);simp only[im,tG,List.length_append,List.length_cons,List.length_nil];omega
theorem Jg {c:aE}(hr:aW c=true):nj c:=by
 have hc:=CR.of hr;have h1:=hc.sets;have h2:=hc.many;exact⟨λs hs=>by have:=eW (hc.set s hs);omega,by omega,by omega⟩
theorem xF {p:bh}(hr:bL p=true):nk p:=by
 obtain⟨h1,h3⟩:=eS hr;exact⟨by omega,λr Ej=>⟨Jg (h3 r Ej).1,Jg (h3 r Ej).2⟩⟩
theorem Zy {p:bh}(hr:bL p=true):Ib p:=by
 obtain⟨h1,h3⟩:=eS hr;have hc:∀c,aW c=true->sT c:=λc h s hs=>by have:=eW ((CR.of h).set s hs);omega
 exact λr Ej=>⟨hc _ (h3 r Ej).1,hc _ (h3 r Ej).2⟩
theorem D6 {u k:Nat}(hu:u<4294967296)(hb:k<=32):IntKind.u8.wrap ((u:Int).fdiv (2 ^ min k IntKind.u32.bits))=(((bt (u / 2 ^ k % 256)).toNat:Nat):Int):=by
 have e:=As (p:=u) (k:=k) (b:=(k:Int)) (kd:=.u32) (by omega) hb;rw[Int.toNat_natCast]at e;rw[e,fp,jA (by omega)]
theorem aER (p:bh)(hl:nk p)(ED:bL p=true->(im p).length<9000000000000)(v:Value)(w:World)(hv:iz (λ_=>False) w v p) :
  aw Tryz.prog 48 [v] w λr w'=>r=(if bL p=true then .tuple #[str (j1 p),.nilIface] else .tuple #[str [],.iface 74 (.int .i64 1)])/\Below w.heap.size w w':=by
 have rC:iz (λj=>w.heap.size<=j) w v p:=hv.narrow λb hb hh=>by omega
 obtain⟨rv,rfl,hr⟩:=rC;obtain⟨a,c,rfl,hc⟩:=hr.shape;have AV:(im p).length=1+(eK p.rules.length).length+(p.rules.flatMap mK).length:=by simp only[im,tG,List.length_append,List.length_cons,List.length_nil]
 refine aD Tryz.func48 rfl (by kernel_rfl) [2,3] rfl ?_;push_cast -dsimp(maxSteps:=9^7) [Tryz.ntmps48];refine aS ?_;intro w1 aU;have il:dU (.agg #[.slice a p.rules.length c,.bool p.els])=[.slice a p.rules.length c,.bool p.els]:=rfl;rw[il]at aU;have qw:=aU.size;have d1:aB w1 ⟨w.heap.size,0,none⟩ 0 2=some [.slice a p.rules.length c,.bool p.els]:=aU.aL.aB;push_cast -dsimp[d1];refine aA (jz p hl (λ_=>False) _ w1 (hv.below aU.below)) ?_;rintro _ w2 ⟨rfl,dt⟩;have EE:=dt.size;have gy:=aU.below.trans (dt.mono (by omega));have hP2:aN w2 w.heap.size 71 [.slice a p.rules.length c,.bool p.els]:=aU.aL.below dt (by omega);cases hpr:bL p with
 | false =>
  push_cast -dsimp;exact gy
 | true =>
  have ED:=ED hpr;push_cast -dsimp;obtain⟨aWE,aMf⟩:=eS hpr;refine bu (λw'=>aN w' w.heap.size 71 [.slice a p.rules.length c,.bool p.els]) mixed (by kernel_rfl) hP2.drew ?_;have f1:w2.drew.cell? ⟨w.heap.size,1,none⟩=some (.bool p.els):=hP2.drew.cell rfl;push_cast -dsimp[f1];refine⟨λbQ hC=>by rw[hC.cell (o:=1) rfl];exact rfl,?_⟩;refine aA (aEY w.heap.size p.els [] (by simp) _ w2.drew (Vc.Own.nil (enc:=je) _ _ (λ_=>rfl) _) gy.size) ?_;rintro v3 w3 ⟨nL,QQ⟩;have hP3:=hP2.drew.kept QQ.1 (by simp[Value.ownBlock]);have aLc:v3.ownBlock≠some w.heap.size:=QQ.apart (by show w.heap.size<w2.heap.size;omega) (by simp[Value.ownBlock])
  have PA:w2.heap.size<=w3.heap.size:=QQ.1.size;have Nd:Below w.heap.size w w3:=gy.drew.trans (QQ.below (Vc.Own.nil (enc:=je) w.heap.size 5 (k:=1) (λ_=>rfl) w2.drew) gy.size);refine⟨hP3,?_⟩;have f3:w3.cell? ⟨w.heap.size,0,none⟩=some (.slice a p.rules.length c):=hP3.cell rfl;push_cast -dsimp[f3];refine⟨λbQ hC=>by rw[hC.cell (o:=0) rfl];exact rfl,?_⟩;refine aA (rp w.heap.size p.rules.length _ (by omega) (by simp only[tG,List.nil_append,List.length_cons,List.length_nil];omega) v3 w3 nL (by omega)) ?_;rintro v4 w4 ⟨ly,hg4⟩;have hP4:=hP3.kept hg4.1 aLc;have aVR:v4.ownBlock≠some w.heap.size:=hg4.apart (by omega) aLc;have Mn:=hg4.1.size;have ER:Below w.heap.size w w4:=Nd.trans (hg4.below nL (by omega));refine⟨hP4,?_⟩;have f4:w4.cell? ⟨w.heap.size,0,none⟩=some (.slice a p.rules.length c):=hP4.cell rfl;rw[List.nil_append]at ly;push_cast -dsimp[f4];refine aK [4,6,22,23,24,25,26,27,28,29,30,31,32,33,34,35,36] (λz wx=>∃(i:Nat),z 22=.int .i64 i/\i<=p.rules.length/\Vc.Own w.heap.size 5 1 je wx (z 4) (tG p.els++eK p.rules.length++(p.rules.take i).flatMap mK)/\Grow w4 wx v4 (z 4)) (λz _=>p.rules.length-(intOf (z 22)).toNat) ?_ ?_
  ·exact⟨0,rfl,Nat.zero_le _,(by simpa using ly:Vc.Own w.heap.size 5 1 je w4 v4 (tG p.els++eK p.rules.length++(p.rules.take 0).flatMap mK)),Grow.refl _ _⟩
  intro z wx hI;obtain⟨i,h22,hi,eU,mH⟩:=hI;have A5:=mH.1.size;have lr:Below w.heap.size w wx:=ER.trans (mH.below ly (by omega));push_cast -dsimp[h22];refine⟨λaq=>?_,λeo=>?_⟩
  ·have hex:=ag (l:=p.rules) (i:=i) (by omega);obtain⟨r,hex⟩:=hex;have Ye:=hex.1;have Ej:=hex.2.1;have Mi:=hex.2.2.2;have tL:=rP (f:=mK) Ye;have AR:=Sl.AJ (pg.below hr lr) Ye;obtain⟨b,o,cs,rfl,hX,hk,aM,s1,i1,s2,i2,rfl,EX,tJ⟩:=AR;have ce:aB wx ⟨b,o+i*5,none⟩ 0 5=some [.bool r.brk,s1,i1,s2,i2]:=ao [.bool r.brk,s1,i1,s2,i2] 0 (λj u hu=>by simpa using aM j u hu);push_cast -dsimp[ce];have Hw:(mK r).length=1+(mF r.before).length+(mF r.after).length:=by simp only[mK,tG,List.length_append,List.length_cons,List.length_nil]
   have hbl:(tG p.els).length=1:=by simp only[tG,List.length_cons,List.length_nil]
   have aVU:(tG r.brk).length=1:=by simp only[tG,List.length_cons,List.length_nil]
   refine⟨⟨by omega,by omega⟩,?_⟩;refine ah (z:=[.bool false,.slice none 0 0,.slice none 0 0,.slice none 0 0,.slice none 0 0]) (by kernel_rfl) ?_;intro w5 cG;push_cast -dsimp;refine aI (n:=5) (by kernel_rfl) cG.aL rfl (by simp) (by
    obtain⟨_,_,e1,g1,g2⟩:=EX;cases e1;obtain⟨_,_,rfl,_⟩:=g1.shape;obtain⟨_,_,rfl,_⟩:=g2.shape;obtain⟨_,_,e2,g3,g4⟩:=tJ;cases e2;obtain⟨_,_,rfl,_⟩:=g3.shape;obtain⟨_,_,rfl,_⟩:=g4.shape;simp[Value.oneCell']) ?_
   intro w6 bW;have PC:=cG.size;have sY:aN w6 wx.heap.size 129 [.bool r.brk,s1,i1,s2,i2]:=bW.aL;have hG6:Grow wx w6 (z 4) (z 4):=(Grow.still _ (Kept.new cG)).put bW (Nat.le_refl _);have rA:Vc.Own w.heap.size 5 1 je w6 (z 4) _:=(eU.new cG).aH bW.kept (λg hg hh=>by have:=(eU.block g hg).2;omega);have uK:(z 4).ownBlock≠some wx.heap.size:=λh=>by have:=(eU.block _ h).2;omega
   have hbX:∀g,(z 4).ownBlock=some g->w.heap.size<=g:=λg hg=>(eU.block g hg).1;push_cast -dsimp;have MN:=bW.size;have aOD:Below w.heap.size wx w6:=hG6.below eU (by omega);refine bu (λw'=>aN w' wx.heap.size 129 [.bool r.brk,s1,i1,s2,i2]) mixed (by kernel_rfl) sY.drew ?_;have f0:w6.drew.cell? ⟨wx.heap.size,0,none⟩=some (.bool r.brk):=sY.drew.cell rfl;push_cast -dsimp[f0];refine⟨λbQ hC=>by rw[hC.cell (o:=0) rfl];exact rfl,?_⟩;refine aA (aEY w.heap.size r.brk _ (by simp only[List.length_append];omega) (z 4) w6.drew (xE rA (Kept.refl _ _).drew) (by show w.heap.size<=w6.heap.size;omega)) ?_
   rintro v7 w7 ⟨nM,yB⟩;have KS:=sY.drew.kept yB.1 uK;have aCE:=yB.apart (by show wx.heap.size<w6.heap.size;omega) uK
   have MO:w6.heap.size<=w7.heap.size:=yB.1.size;have aKA:Below w.heap.size wx w7:=aOD.drew.trans (yB.below (xE rA (Kept.refl _ _).drew) (by show w.heap.size<=w6.heap.size;omega))
   refine⟨KS,?_⟩;have f1:aB w7 ⟨wx.heap.size,1,none⟩ 0 2=some [s1,i1]:=lE (n:=2) (xs:=[s1,i1]) KS 1 rfl rfl;push_cast -dsimp[f1];refine⟨λbQ hC=>by rw[lE (n:=2) (xs:=[s1,i1]) hC 1 rfl rfl];exact rfl,?_⟩;refine aA (Rf w.heap.size r.before (aMf r Ej).1 _ (by simp only[List.length_append];omega) v7 _ w7 nM (by omega) (EX.mono (λb hb aq=>aKA.block b (Classical.byContradiction λhh=>hb (by omega))) (λ_ h=>h))) ?_;rintro v8 w8 ⟨sd,E0⟩;have hB8:=KS.kept E0.1 aCE;have aPq:=E0.apart (by omega) aCE;have sz8:=E0.1.size;have aOE:Below w.heap.size wx w8:=aKA.trans (E0.below nM (by omega));refine⟨hB8,?_⟩;have f3:aB w8 ⟨wx.heap.size,3,none⟩ 0 2=some [s2,i2]:=lE (n:=2) (xs:=[s2,i2]) hB8 3 rfl rfl;push_cast -dsimp[f3];refine⟨λbQ hC=>by rw[lE (n:=2) (xs:=[s2,i2]) hC 3 rfl rfl];exact rfl,?_⟩;refine aA (Rf w.heap.size r.after (aMf r Ej).2 _ (by simp only[List.length_append];omega) v8 _ w8 sd (by omega) (tJ.mono (λb hb aq=>aOE.block b (Classical.byContradiction λhh=>hb (by omega))) (λ_ h=>h))) ?_;rintro v9 w9 ⟨AU,hg9⟩;refine⟨hB8.kept hg9.1 aPq,?_⟩;push_cast -dsimp;refine⟨⟨by omega,by omega⟩,⟨i+1,rfl,by omega,?_,mH.trans (hG6.trans ((Grow.still _ (Kept.refl _ _).drew).trans (yB.trans (E0.trans hg9))))⟩,by rw[h22];simp only[intOf];omega⟩;rw[sX Mi];simpa only[mK,List.append_assoc] using AU
  have QS:p.rules.take i=p.rules:=List.take_of_length_le (by omega);rw[QS]at eU;have eU:Vc.Own w.heap.size 5 1 je wx (z 4) (im p):=eU;obtain⟨a9,c9,h4⟩:=eU.slice;rw[h4]at eU;push_cast -dsimp[h4];refine aIL (e:=5) (by kernel_rfl) (by kernel_rfl) (by kernel_rfl) eU.sl ?_;push_cast -dsimp;refine aA (aFV (im p) (by omega) wx) ?_;rintro _ w5 ⟨rfl,rfl⟩;push_cast -dsimp;have hu:=RV (im p);rw[<-h4]at eU;refine cF oR rfl rfl (by omega) ?_;intro w6 bW;have Ko:mN w5 w6 5 ((Iz (yW (im p))).flatMap je):=by
   have e0:IntKind.u8.wrap ((yW (im p):Nat):Int)=(((bt (yW (im p) % 256)).toNat:Nat):Int):=by rw[fp,jA (by omega)]
   rw[D6 (k:=8) hu (by omega),D6 (k:=16) hu (by omega),D6 (k:=24) hu (by omega),e0]at bW;exact bW
  push_cast -dsimp;refine vM (base:=w.heap.size) (Iz (yW (im p))) oR eU Ko rfl (by rw[aAS];omega) (by omega) ?_;intro v7 w7 nM yB;obtain⟨a8,c8,rfl⟩:=nM.slice;push_cast -dsimp;refine aIL (e:=5) (by kernel_rfl) (by kernel_rfl) (by kernel_rfl) nM.sl ?_;push_cast -dsimp;exact⟨rfl,lr.trans (yB.below eU (by omega))⟩
theorem GJ (bad:Bool):∀(s:List UInt8) (i n:Nat),i<=4->n<128 ^ i->(lh bad i n s).1<268435456
 | [],_,_,_,_=>by rw[lh];omega
 | c::r,i,n,hi,hn=>by
  rw[lh];split
  ·omega
  rename_i h4;have h5:i=0\/i=1\/i=2\/i=3:=by omega
  split
  ·rename_i hc;rcases h5 with rfl|rfl|rfl|rfl<;>simp only[Nat.reducePow]at hn ⊢<;>omega
  refine GJ bad r (i+1) _ (by omega) ?_;have hm:=Nat.mod_lt c.toNat (show 0<128 by omega)
  rcases h5 with rfl|rfl|rfl|rfl<;>simp only[Nat.reducePow,Nat.reduceAdd]at hn ⊢<;>omega
theorem GI (bad:Bool):∀(s:List UInt8) (i n:Nat),(lh bad i n s).2.1.length<=s.length
 | [],_,_=>by rw[lh];simp
 | c::r,i,n=>by
  rw[lh];split
  ·simp
  split
  ·simp
  have:=GI bad r (i+1) (n+c.toNat % 128*128 ^ i);simp only[List.length_cons];omega
theorem xL (x:St):(dV x).1<268435456:=GJ x.bad x.s 0 0 (by omega) (by omega)
theorem kB (x:St):(dV x).2.s.length<=x.s.length:=GI x.bad x.s 0 0
theorem sw (x:St):(cW x).1<=(cW x).2.s.length:=by
 unfold cW;split
 ·exact Nat.zero_le _
 omega
theorem su (x:St):(cW x).1<268435456:=by
 have:=xL x;unfold cW;split
 ·show 0<_;omega
 omega
theorem pT (x:St):(cW x).2.s.length<=x.s.length:=by
 have:=kB x;unfold cW;split<;>exact this
theorem DI (x:St):(eT x).2.s.length<=x.s.length:=kB x
theorem An {n c i:Nat}(hi:i<4)(hn:n<128 ^ i)(hc:c<256) :
  cR .or .i64 (n:Int) (IntKind.i64.wrap (IntKind.i64.wrap (cR .and .u8 (c:Int) 127)*2 ^ min (7*(i:Int)).toNat IntKind.i64.bits))=((n+c % 128*128 ^ i:Nat):Int):=by
 have hm:=Nat.mod_lt c (show 0<128 by omega)
 have e1:cR .and .u8 (c:Int) 127=((c % 128:Nat):Int):=by
  rw[show (127:Int)=((2 ^ 7-1:Nat):Int) from rfl,rG (by omega) (by omega),mz]
 rw[e1,dJ (by omega)];have h5:i=0\/i=1\/i=2\/i=3:=by omega
 rcases h5 with rfl|rfl|rfl|rfl
 ·rw[show min (7*((0:Nat):Int)).toNat IntKind.i64.bits=0 from rfl,show (((c % 128:Nat):Int)*2 ^ 0)=((c % 128:Nat):Int) by simp,dJ (by omega),lN (by omega) (by omega)]
  have:n=0:=by simpa using hn
  subst this;simp
 all_goals
  simp only[Nat.reducePow]at hn ⊢
  first
  | (rw[show min (7*((1:Nat):Int)).toNat IntKind.i64.bits=7 from rfl,show (((c % 128:Nat):Int)*2 ^ 7)=((c % 128*2 ^ 7:Nat):Int) by simp,dJ (by omega),lN (by omega) (by omega),Nat.or_comm,qO (by omega)];congr 1;omega)
  | (rw[show min (7*((2:Nat):Int)).toNat IntKind.i64.bits=14 from rfl,show (((c % 128:Nat):Int)*2 ^ 14)=((c % 128*2 ^ 14:Nat):Int) by simp,dJ (by omega),lN (by omega) (by omega),Nat.or_comm,qO (by omega)];congr 1;omega)
  | (rw[show min (7*((3:Nat):Int)).toNat IntKind.i64.bits=21 from rfl,show (((c % 128:Nat):Int)*2 ^ 21)=((c % 128*2 ^ 21:Nat):Int) by simp,dJ (by omega),lN (by omega) (by omega),Nat.or_comm,qO (by omega)];congr 1;omega)
theorem xG {a b c:World}{p:Nat}{e:TypeId}{xs ys:List Value}(h:A8 a b p e xs)(k:A8 b c p e ys):A8 a c p e ys:=⟨k.aL,h.kept.trans k.kept (λ_ _ h=>h),k.size.trans h.size⟩
def Ih (w:World)(p:Nat)(x:St):Prop:=aN w p 172 [str x.s,.bool x.bad]
theorem uh (x:St)(p:Nat)(w:World)(hs:x.s.length<10000000000000)(hB:Ih w p x) :
  aw Tryz.prog 118 [.pointer (some ⟨p,0,none⟩)] w λr w'=>r=.int .i64 (dV x).1/\A8 w w' p 172 [str (dV x).2.s,.bool (dV x).2.bad]:=by
 have nz:aN w p 172 [str x.s,.bool x.bad]:=hB;have c0:w.cell? ⟨p,0,none⟩=some (str x.s):=nz.cell rfl;have c1:w.cell? ⟨p,1,none⟩=some (.bool x.bad):=nz.cell rfl;refine aD Tryz.func118 rfl (by kernel_rfl) [2] rfl ?_;push_cast -dsimp(maxSteps:=9^7) [Tryz.ntmps118];push_cast -dsimp[c0];refine aK [2,3,4,5,12,13,14,15,16,17,18,19,20,21,22,23,24,25,26,27,28,29,30,31,32,33,34,35,36,37,38,39,40,41,42,43,44,45,46,47,48,49,50,51,52,53,54,55,56,57] (λz wx=>∃(i n:Nat),z 12=.int .i64 i/\z 3=.int .i64 n/\i<=x.s.length/\i<=4/\n<128 ^ i/\lh x.bad i n (x.s.drop i)=lh x.bad 0 0 x.s/\wx=w) (λz _=>x.s.length-(intOf (z 12)).toNat) ?_ ?_
 ·exact⟨0,0,rfl,rfl,Nat.zero_le _,by omega,by omega,rfl,rfl⟩
 intro z wx hI;obtain⟨i,n,AK,h3,hi,hi4,hn,hg,hw⟩:=hI;subst hw;push_cast -dsimp[AK,h3,c0];refine⟨λaq=>?_,λeo=>?_⟩
 ·have rW:i<x.s.length/\i<4:=by split at aq<;>omega
  obtain⟨c,hc,_,hd,_⟩:=ag (l:=x.s) (i:=i) rW.1;have Vb:x.s.getD i 0=c:=by rw[List.getD_eq_getElem?_getD,hc];rfl
  have jE:c.toNat<256:=c.toNat_lt;rw[Vb];rw[hd,lh,if_neg (by omega)]at hg;refine⟨⟨by omega,by omega⟩,⟨by omega,by omega⟩,by omega,λEX=>?_,λEX=>?_⟩
  ·rw[if_pos (by omega)]at hg;have l9:∀w1,A8 wx w1 p 172 [str x.s,.bool (x.bad || (decide (0<i) && decide (c.toNat=0)))]->∀w2,A8 w1 w2 p 172 [str (x.s.drop (i+1)),.bool (x.bad || (decide (0<i) && decide (c.toNat=0)))] ->
     Value.int IntKind.i64 ((n+c.toNat % 128*128 ^ i:Nat):Int)=Value.int IntKind.i64 ((dV x).1:Int)/\A8 wx w2 p 172 [str (dV x).2.s,.bool (dV x).2.bad]:=λw1 aU w2 bP=>by
    have e:dV x=(n+c.toNat % 128*128 ^ i,⟨x.s.drop (i+1),x.bad || (decide (0<i) && decide (c.toNat=0))⟩):=by
     rw[Nat.mod_eq_of_lt (show c.toNat<128 by omega)]
     unfold dV;rw[<-hg]
    rw[e];exact⟨rfl,xG aU bP⟩
   have YY:∀(bd:Bool),bd=(x.bad || (decide (0<i) && decide (c.toNat=0)))->∀w1,A8 wx w1 p 172 [str x.s,.bool bd]->∀w2,A8 w1 w2 p 172 [str (x.s.drop (i+1)),.bool bd] ->
     Value.int IntKind.i64 ((n+c.toNat % 128*128 ^ i:Nat):Int)=Value.int IntKind.i64 ((dV x).1:Int)/\A8 wx w2 p 172 [str (dV x).2.s,.bool (dV x).2.bad]:=λbd qp=>by subst qp;exact l9
   cases vn:x.bad with
   | true =>
    rw[vn]at c1 nz;push_cast -dsimp[c1];refine aC nz (by simp) rfl ?_;intro w1 aU;have d0:w1.cell? ⟨p,0,none⟩=some (str x.s):=aU.aL.cell rfl;push_cast -dsimp[d0];refine⟨⟨by omega,by omega⟩,⟨by omega,by omega⟩,?_⟩;refine aC aU.aL (by simp) rfl ?_;intro w2 bP;push_cast -dsimp;rw[An rW.2 hn jE];refine YY true (by rw[vn];rfl) w1 aU w2 ?_;have e:((i:Int)+1).toNat=i+1:=by omega
    rw[e]at bP;exact bP
   | false =>
    rw[vn]at c1 nz;push_cast -dsimp[c1];have e:((i:Int)+1).toNat=i+1:=by omega
    refine⟨λhi0=>?_,λhi0=>?_⟩
    ·refine aC nz (by simp) rfl ?_;intro w1 aU;have d0:w1.cell? ⟨p,0,none⟩=some (str x.s):=aU.aL.cell rfl;push_cast -dsimp[d0];refine⟨⟨by omega,by omega⟩,⟨by omega,by omega⟩,?_⟩;refine aC aU.aL (by simp) rfl ?_;intro w2 bP;push_cast -dsimp;rw[An rW.2 hn jE];refine YY _ ?_ w1 aU w2 (by rw[e]at bP;exact bP);rw[vn,decide_eq_true (show 0<i by omega),Bool.true_and,Bool.false_or,decide_eq_decide]
     omega
    refine aC nz (by simp) rfl ?_;intro w1 aU;have d0:w1.cell? ⟨p,0,none⟩=some (str x.s):=aU.aL.cell rfl;push_cast -dsimp[d0];refine⟨⟨by omega,by omega⟩,⟨by omega,by omega⟩,?_⟩;refine aC aU.aL (by simp) rfl ?_;intro w2 bP;push_cast -dsimp;rw[An rW.2 hn jE];refine YY _ ?_ w1 aU w2 (by rw[e]at bP;exact bP);rw[vn,decide_eq_false (show ¬0<i by omega),Bool.false_and,Bool.false_or]
  refine⟨⟨by omega,by omega⟩,⟨i+1,_,rfl,congrArg _ (An rW.2 hn jE),by omega,by omega,?_,?_⟩,by simp only[intOf];omega⟩
  ·have hm:=Nat.mod_lt c.toNat (show 0<128 by omega)
   have h5:i=0\/i=1\/i=2\/i=3:=by omega
   clear hg Vb hd hc AK;rcases h5 with rfl|rfl|rfl|rfl<;>simp only[Nat.reducePow,Nat.reduceAdd]at hn ⊢<;>omega
  rw[if_neg (by omega)]at hg;exact hg
 refine aC nz (by simp) rfl ?_;intro w1 aU;push_cast -dsimp;refine aC aU.aL (by simp) rfl ?_;intro w2 bP;push_cast -dsimp;have e:dV x=(0,⟨[],true⟩):=by
  unfold dV;rw[<-hg];cases hdr:x.s.drop i with
  | nil=>rfl
  | cons c r =>
   have hle:i=4:=by
    have hl:=congrArg List.length hdr;simp only[List.length_drop,List.length_cons]at hl;split at eo<;>omega
   rw[lh,if_pos (by omega)]
 rw[e];exact⟨rfl,xG aU bP⟩
theorem Ao (x:St)(p:Nat)(w:World)(hs:x.s.length<10000000000000)(hB:Ih w p x) :
  aw Tryz.prog 80 [.pointer (some ⟨p,0,none⟩)] w λr w'=>r=.int .i64 (cW x).1/\A8 w w' p 172 [str (cW x).2.s,.bool (cW x).2.bad]:=by
 have hv:=xL x;have hl:=kB x;refine aD Tryz.func80 rfl (by kernel_rfl) [2] rfl ?_;push_cast -dsimp(maxSteps:=9^7) [Tryz.ntmps80];refine aA (uh x p w hs hB) ?_;rintro _ w1 ⟨rfl,aU⟩;have c0:w1.cell? ⟨p,0,none⟩=some (str (dV x).2.s):=aU.aL.cell rfl;push_cast -dsimp[c0];refine⟨λh=>?_,λh=>?_⟩
 ·refine aC aU.aL (by simp) rfl ?_;intro w2 bP;push_cast -dsimp;unfold cW;rw[if_pos (by omega)];exact⟨rfl,xG aU bP⟩
 unfold cW;rw[if_neg (by omega)];exact⟨rfl,aU⟩
theorem aAf (x:St)(p:Nat)(w:World)(hs:x.s.length<10000000000000)(hB:Ih w p x) :
  aw Tryz.prog 79 [.pointer (some ⟨p,0,none⟩)] w λr w'=>r=.bool (eT x).1/\A8 w w' p 172 [str (eT x).2.s,.bool (eT x).2.bad]:=by
 have hv:=xL x;refine aD Tryz.func79 rfl (by kernel_rfl) [2] rfl ?_;push_cast -dsimp(maxSteps:=9^7) [Tryz.ntmps79];refine aA (uh x p w hs hB) ?_;rintro _ w1 ⟨rfl,aU⟩;have c1:w1.cell? ⟨p,1,none⟩=some (.bool (dV x).2.bad):=aU.aL.cell rfl;have e:decide (((dV x).1:Int)=1)=(eT x).1:=by
  show _=decide ((dV x).1=1)
  rw[decide_eq_decide];omega
 have l9:∀bd w2,bd=(eT x).2.bad->A8 w1 w2 p 172 [str (dV x).2.s,.bool bd]->Value.bool (decide (((dV x).1:Int)=1))=Value.bool (eT x).1/\A8 w w2 p 172 [str (eT x).2.s,.bool (eT x).2.bad]:=λbd w2 qp bP=>by
  subst qp;exact⟨congrArg _ e,xG aU bP⟩
 have eb:(eT x).2.bad=((dV x).2.bad || decide (1<(dV x).1)):=rfl;cases vn:(dV x).2.bad with
 | true =>
  rw[vn]at c1;push_cast -dsimp[c1];refine aC aU.aL (by simp) rfl ?_;intro w2 bP;push_cast -dsimp;exact l9 _ w2 (by rw[eb,vn,Bool.true_or]) bP
 | false =>
  rw[vn]at c1;push_cast -dsimp[c1];refine aC aU.aL (by simp) rfl ?_;intro w2 bP;push_cast -dsimp;refine l9 _ w2 ?_ bP;rw[eb,vn,Bool.false_or,decide_eq_decide];omega
def Rn {α:Type}(f:St->α×St):Prop:=∀x,(f x).2.s.length<=x.s.length
theorem xU:Rn dV:=kB
theorem D4:Rn cW:=pT
theorem xS {α:Type}{f:St->α×St}(hf:Rn f):∀n,Rn (fF f n)
 | 0,x=>Nat.le_refl _
 | n+1,x=>Nat.le_trans (xS hf n _) (hf x)
theorem GV:Rn kl:=λx=>Nat.le_trans (xU _) (xU x)
theorem Iu:Rn ob:=λx=>Nat.le_trans (xS GV _ _) (D4 x)
theorem aAJ:Rn ja:=λx=>Nat.le_trans (xS Iu _ _) (D4 x)
theorem RR:Rn ug:=λx=>Nat.le_trans (xU _) (Nat.le_trans (xU _) (xU x))
theorem aAI:Rn GG:=λx=>Nat.le_trans (xS RR _ _) (D4 x)
theorem xR:Rn iP:=λx=>Nat.le_trans (aAI _) (aAJ x)
theorem qT {α:Type}{f:St->α×St}{n i:Nat}{y:St}{acc all:List α}{z:St}(hi:i<n)(h1:acc++(fF f (n-i) y).1=all)(h2:(fF f (n-i) y).2=z) :
  (acc++[(f y).1])++(fF f (n-(i+1)) (f y).2).1=all/\(fF f (n-(i+1)) (f y).2).2=z:=by
 rw[show n-i=(n-(i+1))+1 by omega]at h1 h2
 simp only[fF]at h1 h2;exact⟨by rw[<-h1];simp,h2⟩
theorem qS {α:Type}{f:St->α×St}{n i:Nat}{y:St}{acc all:List α}{z:St}(hi:n<=i)(h1:acc++(fF f (n-i) y).1=all)(h2:(fF f (n-i) y).2=z):acc=all/\y=z:=by
 rw[show n-i=0 by omega]at h1 h2
 simp only[fF,List.append_nil]at h1 h2;exact⟨h1,h2⟩
theorem RC (x:St)(p:Nat)(w:World)(hs:x.s.length<10000000000000)(hB:Ih w p x) :
  aw Tryz.prog 81 [.pointer (some ⟨p,0,none⟩)] w λr w'=>cz (λj=>j<w.heap.size) w' r (iP x).1/\Ih w' p (iP x).2/\Kept (·=p) w w':=by
 have AV:p<w.heap.size:=aN.lt (e:=172) (cs:=[str x.s,.bool x.bad]) hB;refine iI Tryz.func81 rfl (by kernel_rfl) [.cell 2 127] rfl ?_;push_cast -dsimp(maxSteps:=9^7) [Tryz.ntmps81];refine ah (z:=[.slice none 0 0,.slice none 0 0]) (by kernel_rfl) ?_;intro w1 aU;have oU:Ih w1 p x:=aN.kept (e:=172) hB (Kept.new aU (X:=λ_=>False)) id;push_cast -dsimp;refine aA (Ao x p w1 hs oU) ?_;rintro _ w2 ⟨rfl,bP⟩;have qw:=aU.size;have EE:=bP.size;have tJ:aN w2 w.heap.size 127 [.slice none 0 0,.slice none 0 0]:=aU.aL.kept bP.kept (by show ¬w.heap.size=p;omega)
 have nh:Kept (·=p) w w2:=(Kept.new aU).trans bP.kept (λ_ _ h=>h);have hmv:=sw x;have hmf:=su x;have hml:=pT x;push_cast -dsimp;refine aK [3,6,7,8,9,10,11,12,13,14,15,16,17,18,19,20,21,22,23,24,25,26,27] (λz wx=>∃(i:Nat) (y:St) (sets:List (List Rg)) (svs:List SV) (sv:SV),
  z 6=.int .i64 i/\i<=(cW x).1/\y.s.length<=x.s.length/\sets++(fF ob ((cW x).1-i) y).1=(ja x).1/\(fF ob ((cW x).1-i) y).2=(ja x).2 /\
  Ih wx p y/\aN wx w.heap.size 127 [sv.v,.slice none 0 0]/\Vc.Own w1.heap.size 139 1 kJ wx sv.v svs/\svs.length=sets.length/\sets.length=i /\
  (∀(j:Nat) (s:List Rg),sets[j]?=some s->∃u,svs[j]?=some u/\Sl (λj=>j<w1.heap.size\/sv.v.ownBlock=some j) 2 (En bF) wx u.v s)/\Kept (·=p) w wx/\w1.heap.size<=wx.heap.size) (λz _=>(cW x).1-(intOf (z 6)).toNat) ?_ ?_
 ·exact⟨0,(cW x).2,[],[],⟨none,0,0⟩,rfl,Nat.zero_le _,hml,rfl,rfl,bP.aL,tJ,Vc.Own.nil (enc:=kJ) _ _ (λ_=>rfl) _,rfl,rfl,by simp,nh,by omega⟩
 intro z wx hI;obtain⟨i,y,sets,svs,sv,h6,hi,hy,x9,rZ,lr,hcx,eU,hlen,oY,tf,hkx,aRb⟩:=hI;push_cast -dsimp[h6];refine⟨λaq=>?_,λeo=>?_⟩
 ·refine aA (Ao y p wx (by omega) lr) ?_;rintro _ wa ⟨rfl,eB⟩;have Vp:=eB.size;have hya:=pT y;have hyv:=sw y;have hyf:=su y;push_cast -dsimp;refine aK [3,10,11,12,13,14,15,16,17,18,19,20] (λz' wy=>∃(j:Nat) (y2:St) (rs:List Rg),z' 10=.int .i64 j/\j<=(cW y).1/\y2.s.length<=x.s.length/\rs++(fF kl ((cW y).1-j) y2).1=(ob y).1/\(fF kl ((cW y).1-j) y2).2=(ob y).2 /\
   Ih wy p y2/\Vc.Own wa.heap.size 208 2 bF wy (z' 3) rs/\rs.length=j/\Kept (·=p) wa wy) (λz' _=>(cW y).1-(intOf (z' 10)).toNat) ?_ ?_
  ·exact⟨0,(cW y).2,[],rfl,Nat.zero_le _,by omega,rfl,rfl,eB.aL,Vc.Own.nil (enc:=bF) _ _ (λ_=>rfl) _,rfl,Kept.refl _ _⟩
  intro z' wy hI;obtain⟨j,y2,rs,uH,hj,hy2,OA,hq2,Nf,uQ,Hw,hky⟩:=hI;have szy:=hky.size;push_cast -dsimp[uH];refine⟨λBv=>?_,λEa=>?_⟩
  ·refine aA (uh y2 p wy (by omega) Nf) ?_;rintro _ wb ⟨rfl,cH⟩;have PD:=cH.size;have hlb:=kB y2;push_cast -dsimp;refine aA (uh (dV y2).2 p wb (by omega) cH.aL) ?_;rintro _ wc ⟨rfl,fV⟩;have szc:=fV.size;have Kf:=kB (dV y2).2;push_cast -dsimp;refine cF fe rfl rfl (by omega) ?_;intro wd jI;have szd:=jI.size;push_cast -dsimp;have Nz:∀g,(z' 3).ownBlock=some g->¬g=p:=λg hg h=>by have:=(uQ.block g hg).1;omega
   have Ei:=((uQ.aH cH.kept Nz).aH fV.kept Nz).new jI;refine aP (base:=wa.heap.size) [((dV y2).1,(dV (dV y2).2).1)] (enc:=bF) fe Ei rfl (λj u hu=>by simpa using jI.cell hu) jC (by simp only[List.length_cons,List.length_nil];omega) (by omega) ?_;intro v' we qt eo cf;have eD:Kept (λk=>(z' 3).ownBlock=some k) wd we:=Kept.grown eo (λ_ h=>h);have hBe:Ih we p (kl y2).2:=(fV.aL.kept (Kept.new jI (X:=λ_=>False)) id).kept eD (λh=>Nz p h rfl);push_cast -dsimp;have bm:=qT (f:=kl) (i:=j) (by omega) OA hq2;refine⟨⟨by omega,by omega⟩,⟨j+1,(kl y2).2,rs++[(kl y2).1],rfl,by omega,?_,bm.1,bm.2,hBe,qt,by simp[Hw],?_⟩,by rw[uH];simp only[intOf];omega⟩
   ·have:=GV y2;omega
   refine(hky.trans (cH.kept.trans fV.kept (λ_ _ h=>h)) (λ_ _ h=>h)).trans ((Kept.new jI (X:=λk=>(z' 3).ownBlock=some k)).trans eD (λ_ _ h=>h)) (λk hk h=>?_)
   have:=(uQ.block k h).1;omega
  have jG:=qS (f:=kl) (i:=j) (by omega) OA hq2;have iW:=jG.1;have aRr:=jG.2;subst iW;subst aRr;have eN:=uQ.slice;obtain⟨sa,sc,Ks⟩:=eN;rw[Ks]at uQ;have aCU:Kept (·=p) wx wy:=eB.kept.trans hky (λ_ _ h=>h);have QN:aN wy w.heap.size 127 [sv.v,.slice none 0 0]:=hcx.kept aCU (by show ¬w.heap.size=p;omega)
  have cy0:wy.cell? ⟨w.heap.size,0,none⟩=some sv.v:=QN.cell rfl;have Nz:∀g,sv.v.ownBlock=some g->¬g=p:=λg hg h=>by have:=(eU.block g hg).1;omega
  have aQQ:=eU.aH aCU Nz;push_cast -dsimp[Ks,cy0];refine cF nw rfl rfl (by omega) ?_;intro wd jI;have szd:=jI.size;have szy:=hky.size;push_cast -dsimp;have aPY:∀(j:Nat) (s:List Rg),sets[j]?=some s->∃u,svs[j]?=some u/\Sl (λj=>j<w1.heap.size\/sv.v.ownBlock=some j) 2 (En bF) wy u.v s:=λj s hj=>by
   obtain⟨u,h1,h2⟩:=tf j s hj;exact⟨u,h1,Sl.kept h2 aCU (λk hk=>.inl (by subst hk;omega))⟩
  have TP:Sl (λj=>j<w1.heap.size\/sv.v.ownBlock=some j) 2 (En bF) wy (SV.v ⟨sa,(ob y).1.length,sc⟩) (ob y).1:=Sl.narrow uQ.sl (by omega) (λ_ _ h=>h) (λb _ hb=>by
   rcases hb with hb|hb
   ·omega
   have:=(eU.block b hb).2;omega)
  have aHg:=uB (Pr:=λ_ (u:SV) s=>Sl (λj=>j<w1.heap.size\/sv.v.ownBlock=some j) 2 (En bF) wy u.v s) hlen aPY TP;refine aP (base:=w1.heap.size) [(⟨sa,(ob y).1.length,sc⟩:SV)] (enc:=kJ) nw (aQQ.new jI) rfl (λj u hu=>by simpa using jI.cell hu) xo (by simp only[List.length_cons,List.length_nil];omega) (by omega) ?_;intro v' we qt K8 cf;have eD:Kept (λk=>sv.v.ownBlock=some k) wd we:=Kept.grown K8 (λ_ h=>h);have Hy:=qt.slice;obtain⟨a',c',rfl⟩:=Hy;have hBe:Ih we p (ob y).2:=(aN.kept (e:=172) Nf (Kept.new jI (X:=λ_=>False)) id).kept eD (λh=>Nz p h rfl);have tN:∀g,sv.v.ownBlock=some g->¬g=w.heap.size:=λg hg h=>by have:=(eU.block g hg).1;omega
  have hce:aN we w.heap.size 127 [sv.v,.slice none 0 0]:=(QN.kept (Kept.new jI (X:=λ_=>False)) id).kept eD (λh=>tN _ h rfl);push_cast -dsimp;refine aC hce (by simp) rfl ?_;intro wf iu;have hnt:∀g,(Value.slice a' (svs++[(⟨sa,(ob y).1.length,sc⟩:SV)]).length c').ownBlock=some g->¬g=w.heap.size:=λg hg h=>by
   rcases cf g hg with h'|h'
   ·exact tN g h' h
   omega
  push_cast -dsimp;have bm:=qT (f:=ob) (i:=i) (by omega) x9 rZ;have szf:=iu.size;have Mo:=eD.size;refine⟨⟨by omega,by omega⟩,⟨i+1,(ob y).2,sets++[(ob y).1],svs++[(⟨sa,(ob y).1.length,sc⟩:SV)],⟨a',(svs++[(⟨sa,(ob y).1.length,sc⟩:SV)]).length,c'⟩,rfl,by omega,?_,bm.1,bm.2,aN.kept (e:=172) hBe iu.kept (by omega),iu.aL,qt.aH iu.kept hnt,by simp[hlen],by simp[oY],?_,?_,by omega⟩,by rw[h6];simp only[intOf];omega⟩
  ·have:=Iu y;omega
  ·intro j s hj;obtain⟨u,h1,h2⟩:=aHg j s hj;refine⟨u,h1,?_⟩;have h3:Sl (λj=>(j<w1.heap.size\/sv.v.ownBlock=some j)\/(Value.slice a' (svs++[(⟨sa,(ob y).1.length,sc⟩:SV)]).length c').ownBlock=some j) 2 (En bF) wd u.v s :=
    Sl.narrow (Sl.kept h2 (Kept.new jI (X:=λ_=>False)) (λ_ h=>h.elim)) (by omega) (λ_ _ h=>h) (λb hb hh=>by
     rcases hh with hh|hh
     ·exact hh
     rcases cf b hh with h'|h'
     ·exact .inr h'
     omega)
   have h4:=Sl.kept h3 eD (λk hk=>.inl (.inr hk));have h5:=Sl.kept h4 iu.kept (λk hk=>.inl (.inl (by omega)));exact h5.weaken (λb hb=>by
    rcases hb with hb|hb
    ·exact .inl (.inl hb)
    exact .inr hb)
  have h1:Kept (λk=>w.heap.size<=k) wy wd:=Kept.new jI;have h2:Kept (λk=>w.heap.size<=k) wd we:=eD.weaken (λk _ h=>by have:=(eU.block k h).1;omega);have h3:Kept (λk=>w.heap.size<=k) we wf:=iu.kept.weaken (λk _ h=>by omega);exact(hkx.trans aCU (λ_ _ h=>h)).trans ((h1.trans h2 (λ_ _ h=>h)).trans h3 (λ_ _ h=>h)) (λk hk h=>by omega)
 have jG:=qS (f:=ob) (i:=i) (by omega) x9 rZ;have iW:=jG.1;have hye:=jG.2;subst iW;subst hye;refine aA (Ao (ja x).2 p wx (by omega) lr) ?_;rintro _ wb ⟨rfl,cH⟩;have PD:=cH.size;have aWv:=sw (ja x).2;have aWt:=pT (ja x).2;have aWs:=su (ja x).2;have hcb:aN wb w.heap.size 127 [sv.v,.slice none 0 0]:=hcx.kept cH.kept (by show ¬w.heap.size=p;omega)
 have Nz:∀g,sv.v.ownBlock=some g->¬g=p:=λg hg h=>by have:=(eU.block g hg).1;omega
 have fq:=eU.aH cH.kept Nz;have aPW:∀(j:Nat) (s:List Rg),(ja x).1[j]?=some s->∃u,svs[j]?=some u/\Sl (λj=>j<w1.heap.size\/sv.v.ownBlock=some j) 2 (En bF) wb u.v s:=λj s hj=>by
  obtain⟨u,h1,h2⟩:=tf j s hj;exact⟨u,h1,Sl.kept h2 cH.kept (λk hk=>.inl (by subst hk;omega))⟩
 push_cast -dsimp;refine aK [30,31,32,33,34,35,36,37,38,39,40,41,42,43,44] (λz' wy=>∃(i:Nat) (y2:St) (ins:List I3) (iv:SV),z' 30=.int .i64 i/\i<=(cW (ja x).2).1/\y2.s.length<=x.s.length/\ins++(fF ug ((cW (ja x).2).1-i) y2).1=(GG (ja x).2).1/\(fF ug ((cW (ja x).2).1-i) y2).2=(GG (ja x).2).2 /\
  Ih wy p y2/\aN wy w.heap.size 127 [sv.v,iv.v]/\Vc.Own wb.heap.size 164 3 bX wy iv.v ins/\ins.length=i/\Kept (λj=>j=p\/j=w.heap.size) wb wy) (λz' _=>(cW (ja x).2).1-(intOf (z' 30)).toNat) ?_ ?_
 ·exact⟨0,(cW (ja x).2).2,[],⟨none,0,0⟩,rfl,Nat.zero_le _,by omega,rfl,rfl,cH.aL,hcb,Vc.Own.nil (enc:=bX) _ _ (λ_=>rfl) _,rfl,Kept.refl _ _⟩
 intro z' wy hI;obtain⟨i,y2,ins,iv,h30,QS,hy2,OA,hq2,Nf,QN,uQ,Af,hky⟩:=hI;have szy:=hky.size;push_cast -dsimp[h30];refine⟨λBv=>?_,λEa=>?_⟩
 ·refine eC (λw'=>aN w' w.heap.size 127 [sv.v,iv.v]) mixed (by kernel_rfl) (List.cons_ne_nil _ _) QN.drew ?_;have f1:wy.drew.cell? ⟨w.heap.size,1,none⟩=some iv.v:=QN.drew.cell rfl;push_cast -dsimp[f1];refine⟨λbQ hC=>by rw[hC.cell (o:=1) rfl];exact rfl,?_⟩;refine aA (uh y2 p wy.drew (by omega) Nf) ?_;rintro _ w3 ⟨rfl,dA⟩;have PA:w3.heap.size=wy.heap.size:=dA.size;have QX:=kB y2;have hc3:=QN.drew.kept dA.kept (by show ¬w.heap.size=p;omega)
  refine⟨hc3,?_⟩;push_cast -dsimp;refine aA (uh (dV y2).2 p w3 (by omega) dA.aL) ?_;rintro _ w4 ⟨rfl,aj⟩;have Mn:=aj.size;have EB:=kB (dV y2).2;have TE:=hc3.kept aj.kept (by show ¬w.heap.size=p;omega)
  refine⟨TE,?_⟩;push_cast -dsimp;refine aA (uh (dV (dV y2).2).2 p w4 (by omega) aj.aL) ?_;rintro _ w5 ⟨rfl,cG⟩;have PC:=cG.size;have Y2:=kB (dV (dV y2).2).2;have TF:=TE.kept cG.kept (by show ¬w.heap.size=p;omega)
  refine⟨TF,?_⟩;push_cast -dsimp;refine cF fL rfl rfl (by omega) ?_;intro w6 bW;have MN:=bW.size;have hc6:=TF.kept (Kept.new bW (X:=λ_=>False)) id;refine⟨hc6,?_⟩;push_cast -dsimp;have hip:∀g,iv.v.ownBlock=some g->¬g=p:=λg hg h=>by have:=(uQ.block g hg).1;omega
  have hit:∀g,iv.v.ownBlock=some g->¬g=w.heap.size:=λg hg h=>by have:=(uQ.block g hg).1;omega
  have kd:Kept (·=p) wy wy.drew:=(Kept.refl _ _).drew;have rA:=((((uQ.aH kd hip).aH dA.kept hip).aH aj.kept hip).aH cG.kept hip).new bW;refine aP (base:=wb.heap.size) [(ug y2).1] (enc:=bX) fL rA rfl (λj u hu=>by simpa using bW.cell hu) j3 (by simp only[List.length_cons,List.length_nil];omega) (by omega) ?_;intro v' w7 nM K8 cf;have ll:Kept (λk=>iv.v.ownBlock=some k) w6 w7:=Kept.grown K8 (λ_ h=>h);have Hy:=nM.slice;obtain⟨a',c',rfl⟩:=Hy;have KS:Ih w7 p (ug y2).2:=(cG.aL.kept (Kept.new bW (X:=λ_=>False)) id).kept ll (λh=>hip p h rfl);have hc7:=hc6.kept ll (λh=>hit _ h rfl);refine⟨hc7,?_⟩;push_cast -dsimp;refine aC hc7 (by simp) rfl ?_;intro w8 n9;refine⟨trivial,?_⟩;push_cast -dsimp;have MO:=ll.size;have sz8:=n9.size;have bm:=qT (f:=ug) (i:=i) (by omega) OA hq2;refine⟨⟨by omega,by omega⟩,⟨i+1,(ug y2).2,ins++[(ug y2).1],⟨a',(ins++[(ug y2).1]).length,c'⟩,rfl,by omega,?_,bm.1,bm.2,aN.kept (e:=172) KS n9.kept (by omega),n9.aL,nM.aH n9.kept (λg hg h=>?_),by simp[Af],?_⟩,by rw[h30];simp only[intOf];omega⟩
  ·have:=RR y2;omega
  ·rcases cf g hg with h'|h'
   ·exact hit g h' h
   omega
  have k1:Kept (λj=>j=p\/j=w.heap.size\/wb.heap.size<=j) wy w5:=(kd.trans (dA.kept.trans (aj.kept.trans cG.kept (λ_ _ h=>h)) (λ_ _ h=>h)) (λ_ _ h=>h)).weaken (λ_ _ h=>.inl h);have k2:Kept (λj=>j=p\/j=w.heap.size\/wb.heap.size<=j) w5 w6:=Kept.new bW;have k3:Kept (λj=>j=p\/j=w.heap.size\/wb.heap.size<=j) w6 w7:=ll.weaken (λk _ h=>.inr (.inr (uQ.block k h).1));have k4:Kept (λj=>j=p\/j=w.heap.size\/wb.heap.size<=j) w7 w8:=n9.kept.weaken (λk _ h=>.inr (.inl h));exact hky.trans ((k1.trans k2 (λ_ _ h=>h)).trans (k3.trans k4 (λ_ _ h=>h)) (λ_ _ h=>h)) (λk hk h=>by omega)
 have jG:=qS (f:=ug) (i:=i) (by omega) OA hq2;have iW:=jG.1;have hye:=jG.2;subst iW;subst hye;have cc:aB wy ⟨w.heap.size,0,none⟩ 0 2=some [sv.v,iv.v]:=QN.aB;push_cast -dsimp[cc];refine aI (n:=2) (by kernel_rfl) QN rfl (by simp) (by simp[SV.v,Value.oneCell']) ?_;intro w9 El;have c9:aB w9 ⟨w.heap.size,0,none⟩ 0 2=some [sv.v,iv.v]:=El.aL.aB;push_cast -dsimp[c9];have sz9:=El.size;have kb:Kept (λj=>j=p\/j=w.heap.size) wb w9:=hky.trans El.kept (λ_ _ h=>.inr h);have hXk:∀j,(j=p\/j=w.heap.size)->j<w1.heap.size\/sv.v.ownBlock=some j:=λj h=>.inl (by omega);refine⟨⟨sv.v,iv.v,rfl,?_,?_⟩,aN.kept (e:=172) Nf El.kept (by omega),?_⟩
 ·have hos:Vc.Own w1.heap.size 139 1 kJ w9 sv.v svs:=fq.aH kb (λg hg h=>by
   have:=(eU.block g hg).1;omega)
  refine Sl.narrow (xD (R:=Mz (λj=>j<w1.heap.size) w9) hos hlen (λj s hj=>?_)) (by omega) (λcs s h=>?_) (λb _ hb=>by omega)
  ·obtain⟨u,h1,h2⟩:=aPW j s hj;exact⟨u,h1,u.v,rfl,(Sl.kept h2 kb hXk).weaken (λb hb=>.inl hb)⟩
  obtain⟨u,rfl,h⟩:=h;exact⟨u,rfl,h.weaken (λb hb=>by omega)⟩
 ·have hoi:=uQ.aH El.kept (λg hg h=>by have:=(uQ.block g hg).1;omega);exact hoi.sl.weaken (λb hb=>by omega)
 exact(hkx.trans cH.kept (λ_ _ h=>h)).trans kb (λk hk h=>by omega)
theorem yQ {α:Type}{f:St->α×St}(hf:Rn f):∀(n:Nat) (x:St) (v:α),v∈(fF f n x).1->∃y:St,y.s.length<=x.s.length/\v=(f y).1
 | 0,x,v,h=>by simp[fF]at h
 | n+1,x,v,h=>by
  simp only[fF,List.mem_cons]at h;rcases h with h|h
  ·exact⟨x,Nat.le_refl _,h⟩
  obtain⟨y,h1,h2⟩:=yQ hf n _ v h;exact⟨y,Nat.le_trans h1 (hf x),h2⟩
theorem wT {α:Type}{f:St->α×St}(x:St):(fF f (cW x).1 (cW x).2).1.length<1000000000:=by
 rw[GH]
 have:=xL x;unfold cW;split
 ·show 0<_;omega
 omega
theorem DK (x:St):nj (iP x).1:=by
 refine⟨λs hs=>?_,wT (f:=ug) (ja x).2,wT (f:=ob) x⟩;obtain⟨y,hy,rfl⟩:=yQ Iu _ _ s hs;exact wT (f:=kl) y
theorem aEk:Rn eT:=DI
theorem Lw:Rn mL:=λx=>by
 have h1:=aEk x;have h2:=xR (eT x).2;have h3:=xR (iP (eT x).2).2;unfold mL;generalize eT x=y at h1 h2 h3 ⊢
 generalize iP y.2=y2 at h2 h3 ⊢
 exact Nat.le_trans h3 (Nat.le_trans h2 h1)
theorem Ol (x:St):nk (gk x).1:=by
 refine⟨wT (f:=mL) (eT x).2,λr hr=>?_⟩;obtain⟨y,hy,rfl⟩:=yQ Lw _ _ r hr;exact⟨DK _,DK _⟩
theorem aRG {a b c d:Nat}(ha:a<256)(hb:b<256)(hc:c<256)(hd:d<256) :
  cR .or .u32 (cR .or .u32 (cR .or .u32 (a:Int) (IntKind.u32.wrap ((b:Int)*2 ^ min 8 IntKind.u32.bits))) (IntKind.u32.wrap ((c:Int)*2 ^ min 16 IntKind.u32.bits))) (IntKind.u32.wrap ((d:Int)*2 ^ min 24 IntKind.u32.bits))=((a+b*256+c*65536+d*16777216:Nat):Int):=by
 rw[show ((b:Int)*2 ^ min 8 IntKind.u32.bits)=((b*2 ^ 8:Nat):Int) by rw[show min 8 IntKind.u32.bits=8 from rfl];simp,
  show ((c:Int)*2 ^ min 16 IntKind.u32.bits)=((c*2 ^ 16:Nat):Int) by rw[show min 16 IntKind.u32.bits=16 from rfl];simp,
  show ((d:Int)*2 ^ min 24 IntKind.u32.bits)=((d*2 ^ 24:Nat):Int) by rw[show min 24 IntKind.u32.bits=24 from rfl];simp]
 rw[fD,fD,fD,Nat.mod_eq_of_lt (show b*2 ^ 8<4294967296 by omega),Nat.mod_eq_of_lt (show c*2 ^ 16<4294967296 by omega),Nat.mod_eq_of_lt (show d*2 ^ 24<4294967296 by omega)]
 rw[nq (by omega) (by omega),Nat.or_comm,qO (k:=8) (by omega),nq (by omega) (by omega),Nat.or_comm,qO (k:=16) (by omega),nq (by omega) (by omega),Nat.or_comm,qO (k:=24) (by omega)];congr 1;omega
theorem aEo (s:List UInt8)(h:4<=s.length) :
  cR .or .u32 (cR .or .u32 (cR .or .u32 (IntKind.u32.wrap ((s.getD ((s.length:Int)-4).toNat 0).toNat:Int)) (IntKind.u32.wrap (IntKind.u32.wrap ((s.getD ((s.length:Int)-4+1).toNat 0).toNat:Int)*2 ^ min 8 IntKind.u32.bits)))
   (IntKind.u32.wrap (IntKind.u32.wrap ((s.getD ((s.length:Int)-4+2).toNat 0).toNat:Int)*2 ^ min 16 IntKind.u32.bits))) (IntKind.u32.wrap (IntKind.u32.wrap ((s.getD ((s.length:Int)-4+3).toNat 0).toNat:Int)*2 ^ min 24 IntKind.u32.bits))=((sumOf (s.drop (s.length-4)):Nat):Int):=by
 have hw:∀c:UInt8,IntKind.u32.wrap (c.toNat:Int)=(c.toNat:Int):=λc=>by have:c.toNat<256:=c.toNat_lt;rw[fD,Nat.mod_eq_of_lt (by omega)]
 simp only[hw];rw[aRG (s.getD _ 0).toNat_lt (s.getD _ 0).toNat_lt (s.getD _ 0).toNat_lt (s.getD _ 0).toNat_lt];have hg:∀(k:Nat),(s.drop (s.length-4)).getD k 0=s.getD (s.length-4+k) 0:=λk=>by rw[List.getD_eq_getElem?_getD,List.getD_eq_getElem?_getD,List.getElem?_drop]
 unfold sumOf;rw[hg,hg,hg,hg,show ((s.length:Int)-4).toNat=s.length-4+0 by omega,show ((s.length:Int)-4+1).toNat=s.length-4+1 by omega,show ((s.length:Int)-4+2).toNat=s.length-4+2 by omega,show ((s.length:Int)-4+3).toNat=s.length-4+3 by omega]
def xc (base:Nat)(s:List UInt8)(r:Value)(w:World):Prop:=match rr s with
 | some q=>∃v,r=.tuple #[v,.nilIface]/\iz (λj=>j<base) w v q
 | none=>r=.tuple #[.agg #[.slice none 0 0,.bool false],.iface 74 (.int .i64 3)]
attribute [local irreducible] iP eT cW dV
theorem OI (s:List UInt8)(hs:s.length<10000000000000)(w:World) :
  aw Tryz.prog 49 [str s] w λr w'=>xc w.heap.size s r w'/\Below w.heap.size w w':=by
 refine iI Tryz.func49 rfl (by kernel_rfl) [.cell 2 71,.tmp 3] rfl ?_;push_cast -dsimp(maxSteps:=9^7) [Tryz.ntmps49];refine ah (z:=[.slice none 0 0,.bool false]) (by kernel_rfl) ?_;intro w1 aU;have qw:=aU.size;have Y3:∀w',aN w' w.heap.size 71 [.slice none 0 0,.bool false]->rr s=none->Below w.heap.size w w'->xc w.heap.size s (.tuple #[.agg #[.slice none 0 0,.bool false],.iface 74 (.int .i64 3)]) w'/\Below w.heap.size w w':=λw' _ hn hb=>by
  unfold xc;rw[hn];exact⟨rfl,hb⟩
 push_cast -dsimp;refine⟨⟨by omega,by omega⟩,λHz=>?_,λaFA=>?_⟩
 ·refine aI (n:=2) (by kernel_rfl) aU.aL rfl (by simp) (by simp[Value.oneCell']) ?_;intro w2 bP;have c2:aB w2 ⟨w.heap.size,0,none⟩ 0 2=some [.slice none 0 0,.bool false]:=bP.aL.aB;push_cast -dsimp[c2];exact Y3 w2 bP.aL (by unfold rr;rw[if_pos (by omega)]) (aU.below.trans (bP.kept.below (by omega) (λ_ h=>by omega)))
 refine bu (λ_=>True) mixed (by kernel_rfl) trivial ?_;push_cast -dsimp;refine⟨⟨by omega,by omega⟩,⟨by omega,by omega⟩,⟨by omega,by omega⟩,⟨by omega,by omega⟩,⟨by omega,by omega⟩,⟨by omega,by omega⟩,⟨by omega,by omega⟩,⟨by omega,by omega⟩,?_⟩;have etk:List.take ((s.length:Int)-4).toNat s=s.take (s.length-4):=by rw[show ((s.length:Int)-4).toNat=s.length-4 by omega]
 rw[etk];refine aA (aFV (s.take (s.length-4)) (by rw[List.length_take];omega) w1.drew) ?_;rintro _ w2 ⟨rfl,rfl⟩;push_cast -dsimp;rw[aEo s (by omega)];refine⟨λcf=>?_,λheq=>?_⟩
 ·refine aI (n:=2) (by kernel_rfl) aU.aL.drew rfl (by simp) (by simp[Value.oneCell']) ?_;intro w2 bP;have c2:aB w2 ⟨w.heap.size,0,none⟩ 0 2=some [.slice none 0 0,.bool false]:=bP.aL.aB;push_cast -dsimp[c2];exact Y3 w2 bP.aL (by unfold rr;rw[if_neg (by omega),if_pos (by omega)]) (aU.below.drew.trans (bP.kept.below (by show w.heap.size<=w1.heap.size;omega) (λ_ h=>by omega)))
 rw[etk];refine⟨⟨by omega,by omega⟩,?_⟩;have aHT:yW (s.take (s.length-4))=sumOf (s.drop (s.length-4)):=by omega
 have hxl:(s.take (s.length-4)).length<10000000000000:=by rw[List.length_take];omega
 generalize hx:(⟨s.take (s.length-4),false⟩:St)=x;have hxs:s.take (s.length-4)=x.s:=by rw[<-hx]
 have xa:false=x.bad:=by rw[<-hx]
 have Yb:rr s=if (gk x).2.bad=true\/(gk x).2.s≠[]\/bL (gk x).1=false then none else some (gk x).1:=by
  unfold rr;rw[if_neg (by omega),if_neg (by rw[aHT];simp),<-hx]
 rw[hxs]at hxl ⊢
 refine aS ?_;intro w2 bP;have bP:mN w1.drew w2 172 [str x.s,.bool x.bad]:=by rw[<-xa];exact bP
 have EE:w2.heap.size=w1.heap.size+1:=bP.size;have gy:Ih w2 w1.heap.size x:=bP.aL;have AP:aN w2 w.heap.size 71 [.slice none 0 0,.bool false]:=aU.aL.drew.kept (Kept.new bP (X:=λ_=>False)) id;have hL2:Below w.heap.size w w2:=aU.below.drew.trans (bP.below.mono (by show w.heap.size<=w1.heap.size;omega))
 push_cast -dsimp;refine aA (aAf x w1.heap.size w2 hxl gy) ?_;rintro _ w3 ⟨rfl,dA⟩;have PA:=dA.size;push_cast -dsimp;refine ah (z:=[.slice none 0 0,.bool false]) (by kernel_rfl) ?_;intro w4 aj;have Mn:=aj.size;push_cast -dsimp;refine aI (n:=2) (by kernel_rfl) aj.aL rfl (by simp) (by simp[Value.oneCell']) ?_;intro w5 cG;have PC:=cG.size;have Hd:Ih w5 w1.heap.size (eT x).2:=(dA.aL.kept (Kept.new aj (X:=λ_=>False)) id).kept cG.kept (by show ¬w1.heap.size=w3.heap.size;omega)
 have hlb:=DI x;push_cast -dsimp;refine aA (Ao (eT x).2 w1.heap.size w5 (by omega) Hd) ?_;rintro _ w6 ⟨rfl,bW⟩;have MN:=bW.size;have hP6:aN w6 w3.heap.size 71 [.slice none 0 0,.bool (eT x).1]:=cG.aL.kept bW.kept (by show ¬w3.heap.size=w1.heap.size;omega)
 have hR6:aN w6 w.heap.size 71 [.slice none 0 0,.bool false]:=(((AP.kept dA.kept (by show ¬w.heap.size=w1.heap.size;omega)).kept (Kept.new aj (X:=λ_=>False)) id).kept cG.kept (by show ¬w.heap.size=w3.heap.size;omega)).kept bW.kept (by show ¬w.heap.size=w1.heap.size;omega)
 have hL6:Below w.heap.size w w6:=hL2.trans ((dA.kept.below (by omega) (λ_ h=>by omega)).trans ((aj.below.mono (by omega)).trans ((cG.kept.below (by omega) (λ_ h=>by omega)).trans (bW.kept.below (by omega) (λ_ h=>by omega)))));have hmv:=sw (eT x).2;have hml:=pT (eT x).2;have hmf:=su (eT x).2;push_cast -dsimp;refine aK [8,59,60,61,62,63,64,65,66,67,68,69,70,71,72,73,74,75,76] (λz wx=>∃(i:Nat) (y:St) (rules:List bo) (pvs:List PV) (rv:SV),z 59=.int .i64 i/\i<=(cW (eT x).2).1/\y.s.length<=x.s.length/\rules++(fF mL ((cW (eT x).2).1-i) y).1=(DS (eT x).2).1/\(fF mL ((cW (eT x).2).1-i) y).2=(DS (eT x).2).2 /\
  Ih wx w1.heap.size y/\aN wx w3.heap.size 71 [rv.v,.bool (eT x).1]/\aN wx w.heap.size 71 [.slice none 0 0,.bool false]/\Vc.Own w6.heap.size 129 5 gi wx rv.v pvs/\pvs.length=rules.length/\rules.length=i /\
  (∀(j:Nat) (r:bo),rules[j]?=some r->∃u,pvs[j]?=some u/\eL (λj=>j<w6.heap.size\/rv.v.ownBlock=some j) wx (gi u) r)/\Below w.heap.size w wx/\w6.heap.size<=wx.heap.size) (λz _=>(cW (eT x).2).1-(intOf (z 59)).toNat) ?_ ?_
 ·exact⟨0,(cW (eT x).2).2,[],[],⟨none,0,0⟩,rfl,Nat.zero_le _,by omega,rfl,rfl,bW.aL,hP6,hR6,Vc.Own.nil (enc:=gi) _ _ (λ_=>rfl) _,rfl,rfl,by simp,hL6,Nat.le_refl _⟩
 intro z wx hI;obtain⟨i,y,rules,pvs,rv,h59,hi,hy,x9,rZ,lr,hPx,vh,eU,hlen,Hw,tf,hLx,aRb⟩:=hI;push_cast -dsimp[h59];refine⟨λaq=>?_,λeo=>?_⟩
 ·refine aA (aAf y w1.heap.size wx (by omega) lr) ?_;rintro _ wa ⟨rfl,eB⟩;have Vp:=eB.size;have hya:=DI y;push_cast -dsimp;refine ah (z:=[.bool false,.slice none 0 0,.slice none 0 0,.slice none 0 0,.slice none 0 0]) (by kernel_rfl) ?_;intro wb cH;have PD:=cH.size;push_cast -dsimp;refine aI (n:=5) (by kernel_rfl) cH.aL rfl (by simp) (by simp[Value.oneCell']) ?_;intro wc fV;have szc:=fV.size;have hBc:Ih wc w1.heap.size (eT y).2:=(eB.aL.kept (Kept.new cH (X:=λ_=>False)) id).kept fV.kept (by omega);push_cast -dsimp;refine aA (RC (eT y).2 w1.heap.size wc (by omega) hBc) ?_;rintro cv1 wd ⟨aCN,Bl,yp⟩;have szd:=yp.size;have hyd:=xR (eT y).2;have aLF:=aCN;obtain⟨sv1,iv1,rfl,gE,QR⟩:=aCN;have Yh:=gE.shape;obtain⟨Vn,Vo,rfl,_⟩:=Yh;have Hy:=QR.shape;obtain⟨ia1,T0,rfl,_⟩:=Hy;have hqd:aN wd wa.heap.size 129 [.bool (eT y).1,.slice none 0 0,.slice none 0 0,.slice none 0 0,.slice none 0 0]:=aN.kept fV.aL yp (by omega);push_cast -dsimp;refine aI (n:=2) (by kernel_rfl) hqd rfl (by simp) (by simp[Value.oneCell']) ?_;intro we mI;have Mo:=mI.size;have hBe:Ih we w1.heap.size (iP (eT y).2).2:=aN.kept (e:=172) Bl mI.kept (by omega);push_cast -dsimp;refine aA (RC (iP (eT y).2).2 w1.heap.size we (by omega) hBe) ?_;rintro cv2 wf ⟨aCO,hBf,JS⟩;have szf:=JS.size;have hyf:=xR (iP (eT y).2).2;have aLG:=aCO;obtain⟨sv2,iv2,rfl,iC,QS⟩:=aCO;have aQ2:=iC.shape;obtain⟨Ip,Ir,rfl,_⟩:=aQ2;have aQ3:=QS.shape;obtain⟨ia2,T3,rfl,_⟩:=aQ3;have hqf:=mI.aL.kept JS (by show ¬wa.heap.size=w1.heap.size;omega)
  push_cast -dsimp;refine aI (n:=2) (by kernel_rfl) hqf rfl (by simp) (by simp[Value.oneCell']) ?_;intro wg mJ;have szg:=mJ.size;have aP1:∃u:PV,u=(⟨(eT y).1,⟨Vn,(iP (eT y).2).1.sets.length,Vo⟩,⟨ia1,(iP (eT y).2).1.ins.length,T0⟩,⟨Ip,(iP (iP (eT y).2).2).1.sets.length,Ir⟩,⟨ia2,(iP (iP (eT y).2).2).1.ins.length,T3⟩⟩:PV):=⟨_,rfl⟩;obtain⟨u,hu⟩:=aP1;have hqg:aN wg wa.heap.size 129 (gi u):=by
   have h:=mJ.aL;simp only[List.take_succ_cons,List.take_zero,List.drop_succ_cons,List.drop_zero,List.cons_append,List.nil_append,Nat.reduceAdd]at h;rw[hu];exact h
  have k1:Kept (λk=>k=w1.heap.size\/wx.heap.size<=k) wx wa:=eB.kept.weaken (λ_ _ h=>.inl h);have k2:Kept (λk=>k=w1.heap.size\/wx.heap.size<=k) wa wb:=Kept.new cH;have k3:Kept (λk=>k=w1.heap.size\/wx.heap.size<=k) wb wc:=fV.kept.weaken (λ_ _ h=>.inr (by omega));have k4:Kept (λk=>k=w1.heap.size\/wx.heap.size<=k) wc wd:=yp.weaken (λ_ _ h=>.inl h);have k5:Kept (λk=>k=w1.heap.size\/wx.heap.size<=k) wd we:=mI.kept.weaken (λ_ _ h=>.inr (by omega));have k6:Kept (λk=>k=w1.heap.size\/wx.heap.size<=k) we wf:=JS.weaken (λ_ _ h=>.inl h);have k7:Kept (λk=>k=w1.heap.size\/wx.heap.size<=k) wf wg:=mJ.kept.weaken (λ_ _ h=>.inr (by omega));have kx:Kept (λk=>k=w1.heap.size\/wx.heap.size<=k) wx wg:=(((((k1.trans k2 (λ_ _ h=>h)).trans k3 (λ_ _ h=>h)).trans k4 (λ_ _ h=>h)).trans k5 (λ_ _ h=>h)).trans k6 (λ_ _ h=>h)).trans k7 (λ_ _ h=>h);have hPg:=hPx.kept kx (by show ¬(w3.heap.size=w1.heap.size\/wx.heap.size<=w3.heap.size);omega)
  have hRg:=vh.kept kx (by show ¬(w.heap.size=w1.heap.size\/wx.heap.size<=w.heap.size);omega)
  have yx:=eU.aH kx (λg hg h=>by have:=eU.block g hg;omega);have hBg:Ih wg w1.heap.size (mL y).2:=aN.kept (e:=172) hBf mJ.kept (by omega);have aPX:∀(j:Nat) (r:bo),rules[j]?=some r->∃u,pvs[j]?=some u/\eL (λj=>j<w6.heap.size\/rv.v.ownBlock=some j) wg (gi u) r:=λj r hj=>by
   obtain⟨u,h1,h2⟩:=tf j r hj;exact⟨u,h1,h2.mono (λb hb aq=>kx.block b aq (λhh=>by
    rcases hh with hh|hh
    ·exact hb (.inl (by omega))
    omega)) (λ_ h=>h)⟩
  have No:∀b,(b<w6.heap.size\/rv.v.ownBlock=some b)->b<wx.heap.size:=λb hb=>by
   rcases hb with hb|hb
   ·omega
   exact(eU.block b hb).2
  have TP:eL (λj=>j<w6.heap.size\/rv.v.ownBlock=some j) wg (gi u) (mL y).1:=by
   subst hu;refine⟨_,_,_,_,rfl,?_,?_⟩
   ·have kd:Kept (λk=>k=w1.heap.size\/k=wa.heap.size) wd wg:=((mI.kept.weaken (λ_ _ h=>.inr h)).trans (JS.weaken (λ_ _ h=>.inl h)) (λ_ _ h=>h)).trans (mJ.kept.weaken (λ_ _ h=>.inr h)) (λ_ _ h=>h);exact(cz.kept aLF kd (λk hk=>by omega)).narrow (λb _ hb=>by have:=No b hb;omega)
   exact(cz.kept aLG mJ.kept (λk hk=>by omega)).narrow (λb _ hb=>by have:=No b hb;omega)
  have aHg:=uB (Pr:=λ_ (u:PV) r=>eL (λj=>j<w6.heap.size\/rv.v.ownBlock=some j) wg (gi u) r) hlen aPX TP;have f0:wg.cell? ⟨w3.heap.size,0,none⟩=some rv.v:=hPg.cell rfl;have f1:aB wg ⟨wa.heap.size,0,none⟩ 0 5=some (gi u):=hqg.aB;have f2:Value.agg (gi u).toArray=.agg #[.bool u.b,u.s1.v,u.i1.v,u.s2.v,u.i2.v]:=rfl;push_cast -dsimp[f0,f1,f2];refine cF xl rfl rfl (by omega) ?_;intro wh Ml;have szh:=Ml.size;push_cast -dsimp;refine aP (base:=w6.heap.size) [u] (enc:=gi) xl (yx.new Ml) rfl (λj u hu=>by simpa using Ml.cell hu) xm (by simp only[List.length_cons,List.length_nil];omega) (by omega) ?_;intro v' wi hoi K8 cf;have Ke:Kept (λk=>rv.v.ownBlock=some k) wh wi:=Kept.grown K8 (λ_ h=>h);have aQ4:=hoi.slice;obtain⟨a',c',rfl⟩:=aQ4;have tN:∀g,rv.v.ownBlock=some g->w6.heap.size<=g:=λg hg=>(eU.block g hg).1;have hPi:=(hPg.kept (Kept.new Ml (X:=λ_=>False)) id).kept Ke (λh=>by have:=tN _ h;omega);have hRi:=(hRg.kept (Kept.new Ml (X:=λ_=>False)) id).kept Ke (λh=>by have:=tN _ h;omega);have hBi:Ih wi w1.heap.size (mL y).2:=(aN.kept (e:=172) hBg (Kept.new Ml (X:=λ_=>False)) id).kept Ke (λh=>by have:=tN _ h;omega);push_cast -dsimp;refine aC hPi (by simp) rfl ?_;intro wj gF;have szi:=Ke.size;have szj:=gF.size;push_cast -dsimp;have bm:=qT (f:=mL) (i:=i) (by omega) x9 rZ
  refine⟨⟨by omega,by omega⟩,⟨i+1,(mL y).2,rules++[(mL y).1],pvs++[u],⟨a',(pvs++[u]).length,c'⟩,rfl,by omega,?_,bm.1,bm.2,aN.kept (e:=172) hBi gF.kept (by omega),gF.aL,hRi.kept gF.kept (by show ¬w.heap.size=w3.heap.size;omega),hoi.aH gF.kept (λg hg h=>?_),by simp[hlen],by simp[Hw],?_,?_,by omega⟩,by rw[h59];simp only[intOf];omega⟩
  ·have:=Lw y;omega
  ·rcases cf g hg with h'|h'
   ·have:=tN g h';omega
   omega
  ·intro j r hj;obtain⟨u',h1,h2⟩:=aHg j r hj;refine⟨u',h1,?_⟩;have h3:eL (λj=>(j<w6.heap.size\/rv.v.ownBlock=some j)\/(Value.slice a' (pvs++[u]).length c').ownBlock=some j) wh (gi u') r :=
    (h2.mono (λb _ aq=>(Kept.new Ml (X:=λ_=>False)).block b aq id) (λ_ h=>h)).narrow (λb hb hh=>by
     rcases hh with hh|hh
     ·exact hh
     rcases cf b hh with h'|h'
     ·exact .inr h'
     omega)
   have h4:=h3.mono (λb hb aq=>Ke.block b aq (λhh=>hb (.inl (.inr hh)))) (λ_ h=>h);have h5:=h4.mono (λb hb aq=>gF.kept.block b aq (λhh=>hb (.inl (.inl (by omega))))) (λ_ h=>h);exact h5.mono (λ_ _ _=>rfl) (λb hb=>by
    rcases hb with hb|hb
    ·exact .inl (.inl hb)
    exact .inr hb)
  refine hLx.trans ((kx.below (by omega) (λk hk=>by omega)).trans ((Ml.below.mono (by omega)).trans ((Ke.below (by omega) (λk hk=>by have:=tN k hk;omega)).trans (gF.kept.below (by omega) (λk hk=>by omega)))))
 have jG:=qS (f:=mL) (i:=i) (by omega) x9 rZ;have iW:=jG.1;have hye:=jG.2;subst iW;subst hye;have aKB:aN wx w1.heap.size 172 [str (gk x).2.s,.bool (gk x).2.bad]:=lr;have f1:wx.cell? ⟨w1.drew.heap.size,1,none⟩=some (.bool (gk x).2.bad):=aKB.cell rfl;have f0:wx.cell? ⟨w1.drew.heap.size,0,none⟩=some (str (gk x).2.s):=aKB.cell rfl;have f2:aB wx ⟨w3.heap.size,0,none⟩ 0 2=some [rv.v,.bool (gk x).1.els]:=hPx.aB;have hv:iz (λj=>j<w6.heap.size) wx (.agg #[rv.v,.bool (gk x).1.els]) (gk x).1:=by
  refine⟨rv.v,rfl,?_⟩;refine Sl.narrow (xD (R:=eL (λj=>j<w6.heap.size\/rv.v.ownBlock=some j) wx) eU hlen tf) (by omega) (λcs r h=>?_) (λb _ hb=>by omega);exact h.mono (λ_ _ _=>rfl) (λb hb=>.inl hb)
 have Kh:=Ol x;have vn:∀w',aN w' w.heap.size 71 [.slice none 0 0,.bool false]->((gk x).2.bad=true\/(gk x).2.s≠[]\/bL (gk x).1=false)->Below w.heap.size w w'->xc w.heap.size s (.tuple #[.agg #[.slice none 0 0,.bool false],.iface 74 (.int .i64 3)]) w'/\Below w.heap.size w w':=λw' hb hc hbl=>Y3 w' hb (by rw[Yb,if_pos hc]) hbl;cases qp:(gk x).2.bad with
 | true =>
  rw[qp]at f1;push_cast -dsimp[f1];refine aI (n:=2) (by kernel_rfl) vh rfl (by simp) (by simp[Value.oneCell']) ?_;intro w7 fQ;have c2:aB w7 ⟨w.heap.size,0,none⟩ 0 2=some [.slice none 0 0,.bool false]:=fQ.aL.aB;push_cast -dsimp[c2];exact vn w7 fQ.aL (.inl qp) (hLx.trans (fQ.kept.below (by omega) (λ_ h=>by omega)))
 | false =>
  rw[qp]at f1;push_cast -dsimp[f1,f0];refine⟨λhs0=>?_,λgE=>?_⟩
  ·have hs0:(gk x).2.s=[]:=Classical.byContradiction hs0;push_cast -dsimp[f2];refine aA (jz (gk x).1 Kh (λj=>j<w6.heap.size) _ wx hv) ?_;rintro _ w7 ⟨rfl,lV⟩;have MO:=lV.size;have hL7:=hLx.trans (lV.mono (by omega));have KV:=vh.below lV (by omega);cases hpr:bL (gk x).1 with
   | true =>
    have f7:aB w7 ⟨w3.heap.size,0,none⟩ 0 2=some [rv.v,.bool (gk x).1.els]:=(hPx.below lV (by omega)).aB;push_cast -dsimp[f7];refine aI (n:=2) (by kernel_rfl) KV rfl (by simp) (by simp[SV.v,Value.oneCell']) ?_;intro w8 n9;have c8:aB w8 ⟨w.heap.size,0,none⟩ 0 2=some [rv.v,.bool (gk x).1.els]:=n9.aL.aB;push_cast -dsimp[c8];refine⟨?_,hL7.trans (n9.kept.below (by omega) (λ_ h=>by omega))⟩;unfold xc;rw[Yb,if_neg (by rw[qp,hs0,hpr];simp)];exact⟨_,rfl,(hv.below lV).mono (λb hb aq=>n9.kept.block b aq (λhh=>hb (by omega))) (λb hb=>by omega)⟩
   | false =>
    push_cast -dsimp;refine aI (n:=2) (by kernel_rfl) KV rfl (by simp) (by simp[Value.oneCell']) ?_;intro w8 n9;have c2:aB w8 ⟨w.heap.size,0,none⟩ 0 2=some [.slice none 0 0,.bool false]:=n9.aL.aB;push_cast -dsimp[c2];exact vn w8 n9.aL (.inr (.inr hpr)) (hL7.trans (n9.kept.below (by omega) (λ_ h=>by omega)))
  have gE:(gk x).2.s≠[]:=gE;refine aI (n:=2) (by kernel_rfl) vh rfl (by simp) (by simp[Value.oneCell']) ?_;intro w7 fQ;have c2:aB w7 ⟨w.heap.size,0,none⟩ 0 2=some [.slice none 0 0,.bool false]:=fQ.aL.aB;push_cast -dsimp[c2];exact vn w7 fQ.aL (.inr (.inl gE)) (hLx.trans (fQ.kept.below (by omega) (λ_ h=>by omega)))
end
end Go.Proofs.YtemjejfpadnljaaGreatDoor
