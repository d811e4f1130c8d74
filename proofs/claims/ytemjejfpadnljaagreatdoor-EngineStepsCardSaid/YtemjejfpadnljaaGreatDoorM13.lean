/- Texts of this claim, merged: Vb, En1, En2, En3, Img1, Img2, Cby, Img3, Img4, Img5, Img6. -/
import Derived.Test.YtemjejfpadnljaaGreatDoorM12
set_option maxRecDepth 100000
set_option linter.unusedSimpArgs false
set_option linter.unusedVariables false
set_option maxHeartbeats 8000000
section
namespace Go.Proofs.YtemjejfpadnljaaGreatDoor
open Go.Vc Go.Proofs Go.RowKit Cae
attribute [local irreducible] cg aa ag aX runK ar Sl Vc.Own vc aQ br a7
attribute [local irreducible] bX eZ nF fM aS e9
theorem NJ (p:bM)(ps:List Int)(hl:jo p)(sj:ps.length<1000000)(X Xp:Nat->Prop)(v pv:Value)(w:World)(hv:gb X w v p)(Yx:Sl Xp 1 (En p3) w pv ps)(sZ:Arg pv) :
  ar Tryz.prog 29 [v,pv] w λr w'=>(if bB p then ∃u,r=.tuple #[u,.nilIface]/\Vc.Own w.heap.size 3 1 bT w' u (fF p ps) else r=.tuple #[.slice none 0 0,.iface 74 (.int .i64 1)])/\Below w.heap.size w w':=by
 obtain⟨rv,rfl,hr⟩:=hv;obtain⟨a,c,rfl,hc⟩:=hr.shape;obtain⟨a3,c3,rfl,hc3⟩:=Yx.shape;refine aE Tryz.func29 rfl (by kernel_rfl) [4,5] rfl ?_;push_cast -dsimp(maxSteps:=4000000) [Tryz.ntmps29];refine aR ?_;intro w1 aV;have aV:mg w w1 71 [.slice a p.rules.length c,.bool p.dD]:=aV;have ph:=aV.size;have d1:aB w1 ⟨w.heap.size,0,none⟩ 0 2=some [.slice a p.rules.length c,.bool p.dD]:=aV.aM.aB;push_cast -dsimp[d1];refine aA (j0 p hl X _ w1 ⟨_,rfl,oW.below hr aV.below⟩) ?_;rintro _ w2 ⟨rfl,dt⟩;have BV:=dt.size;have hL2:=aV.below.trans (dt.mono (by omega));cases hR:bB p with
 | false =>
  push_cast -dsimp[Bool.false_eq_true,if_false];exact hL2
 | true =>
  have W5:=eD hR;obtain⟨hlen,dA⟩:=W5;push_cast -dsimp;refine aK [4,5,6,7,8,9,11,12,13,14,15,16,17,22,23,24,25,26,27,28,29,30,31,32,33,34,35,36,37,38,39,40,41,42,43,44,45,46,47,48,49,50,51,52,53,54,55,56,57,58,59,60,61,62,63,64,65,66,67,68,69,70,71,72,73,74,75,76,77,78,79,80,81,82,83,84,85,86,87,88,89,90,91,92,93] (λz wx=>∃(i:Nat) (u:Value),z 7=.int .i64 i/\z 6=u/\i<=ps.length+1/\(ps=[]->i=0)/\Vc.Own w1.heap.size 3 1 bT wx u (bX p ps i)/\Below w1.heap.size w1 wx) (λz _=>ps.length+1-(intOf (z 7)).toNat) ?_ ?_
  ·refine⟨0,_,rfl,rfl,by omega,λ_=>rfl,?_,dt⟩;rw[rr];exact Vc.Own.nil (enc:=bT) _ _ (λ_=>rfl) _
  intro z wx hI;obtain⟨i,u,h7,h6,hi,AG,ho,eW⟩:=hI;have oh:=ho.slice;obtain⟨ua,uc,rfl⟩:=oh;have N7:Below w.heap.size w wx:=aV.below.trans (eW.mono (by omega));have yS:=eW.size;have hbl:=tk p ps i;push_cast -dsimp[h7,h6];have ja:(ps=[]\/ps.length<i)->bX p ps i=fF p ps:=λh=>by
   unfold fF;by_cases h0:ps=[]
   ·rw[if_pos h0,AG h0];exact rr p ps
   rw[if_neg h0];have:i=ps.length+1:=by
    rcases h with h|h
    ·exact absurd h h0
    omega
   rw[this]
  refine⟨λhle=>⟨λyJ=>?_,λhzero=>?_⟩,λHJ=>?_⟩
  ·have yF:i<=ps.length:=by omega
   have hpx:=Yx.below N7;refine YV hpx yF ?_;intro ft;push_cast -dsimp;refine aA (Z3 (ps.take i) (by rw[List.length_take];omega) Xp _ wx ft (λn c h=>by
    have:=sZ ps.length c3 (by cases h;rfl);cases h;omega)) ?_
   rintro v1 w3 ⟨uN,gV⟩;have Kf:=gV.size;push_cast -dsimp;refine aA (SO (ps.take i) wx.heap.size v1 w3 (by rw[List.length_take];omega) uN (by omega)) ?_;rintro _ w4 ⟨lC,nd⟩;have KB:=nd.size;have aEz:Below wx.heap.size wx w4:=gV.trans nd;have aN7:=lC.sl;have aEA:Below w1.heap.size w1 w4:=eW.trans (aEz.mono (by omega));have hP4:aL w4 w.heap.size 71 [.slice a p.rules.length c,.bool p.dD]:=aV.aM.below aEA (by omega);have e0:w4.cell? ⟨w.heap.size,0,none⟩=some (.slice a p.rules.length c):=hP4.cell rfl;have e1:w4.cell? ⟨w.heap.size,1,none⟩=some (.bool p.dD):=hP4.cell rfl;have hL4:=N7.trans (aEz.mono (by omega));have mK:=ho.below (aEz.mono (Nat.le_refl _));have uP:∃sb,eZ p ps i 0=sb:=⟨_,rfl⟩;obtain⟨sb,uP⟩:=uP;have yM:(sb=true\/i=0\/i=ps.length)->bX p ps (i+1)=bX p ps i++[i]:=λh=>by
    rw[rq,if_pos];unfold nF;rw[uP];rcases h with h|h|h
    ·rw[h];rfl
    ·rw[decide_eq_true h,Bool.or_true,Bool.true_or]
    rw[decide_eq_true h,Bool.or_true]
   have gG:sb=false->i≠0->i≠ps.length->bX p ps (i+1)=bX p ps i:=λh1 h2 h3=>by
    rw[rq,if_neg];unfold nF;rw[uP,h1,decide_eq_false h2,decide_eq_false h3];simp
   have xD:ps=[]->i+1=0:=λh=>by subst h;simp at yJ
   push_cast -dsimp[e0,e1];refine aK [4,5,9,11,12,13,14,15,16,17,44,45,46,47,48,49,50,51,52,53,54,55,56,57,58,59,60,61,62,63,64,65,66,67,68,69,70,71,72,73,74,75,76,77,78] (λz' wy=>∃(k:Nat),z' 44=.int .i64 k/\z' 9=.bool p.dD/\k<=p.rules.length/\eZ p ps i 0=eZ p ps i k/\Below w4.heap.size w4 wy) (λz' _=>p.rules.length-(intOf (z' 44)).toNat) ?_ ?_
   ·exact⟨0,rfl,rfl,Nat.zero_le _,rfl,Below.refl _ _⟩
   intro z' wy hI;obtain⟨k,h44,h9,hk,Im,yB⟩:=hI;have szy:=yB.size;have hLy:Below w.heap.size w wy:=hL4.trans (yB.mono (by omega));have aMz:Below w1.heap.size w1 wy:=aEA.trans (yB.mono (by omega));rcases Nat.lt_or_ge k p.rules.length with aj|eo
   ·have hg:=ah (l:=p.rules) (i:=k) aj;obtain⟨r,hrk,Cl,_⟩:=hg;have hg:=Sl.xw (oW.below hr hLy) hrk;obtain⟨b,o,cs,rfl,hX,CC,aU,hRr⟩:=hg;obtain⟨s1,i1,s2,i2,rfl,h1,h2⟩:=hRr;have ce:aB wy ⟨b,o+k*5,none⟩ 0 5=some [.bool r.brk,s1,i1,s2,i2]:=ak [.bool r.brk,s1,i1,s2,i2] 0 (λj u hu=>by simpa using aU j u hu);push_cast -dsimp[h44,h9,ce];refine⟨λ_=>⟨⟨by omega,by omega⟩,?_⟩,λh=>absurd h (by omega)⟩;have HI:=dA r Cl;have hlr:=hl.2 r Cl;refine ao (z:=[.bool false,.slice none 0 0,.slice none 0 0,.slice none 0 0,.slice none 0 0]) (by kernel_rfl) ?_;intro wa fu;push_cast -dsimp;refine aH (n:=5) (by kernel_rfl) fu.aM rfl (by simp) (by
     obtain⟨_,_,e1,g1,g2⟩:=h1;cases e1;obtain⟨_,_,rfl,_⟩:=g1.shape;obtain⟨_,_,rfl,_⟩:=g2.shape;obtain⟨_,_,e2,g3,g4⟩:=h2;cases e2;obtain⟨_,_,rfl,_⟩:=g3.shape;obtain⟨_,_,rfl,_⟩:=g4.shape;simp[Value.oneCell']) ?_
    intro wb dE;have T0:=fu.size;have Ms:=dE.size;have aAn:Below wy.heap.size wy wb:=fu.below.trans (dE.kept.below (by omega) (λ_ h=>by omega));have hBb:aL wb wy.heap.size 129 [.bool r.brk,s1,i1,s2,i2]:=dE.aM;have f1:aB wb ⟨wy.heap.size,1,none⟩ 0 2=some [s1,i1]:=jr (n:=2) (xs:=[s1,i1]) hBb 1 rfl rfl;have hLb:=hLy.trans (aAn.mono (by omega));have Vv:Below w4.heap.size w4 wb:=yB.trans (aAn.mono szy);have yC:=OH r.before (ps.take i).reverse hlr.1.1 hlr.1.2.1 hlr.1.2.2 (by rw[List.length_reverse,List.length_take];omega) X _ _ v1 wb (h1.below aAn) (aN7.below Vv);unfold sN at yC;rw[if_pos HI.1]at yC;have e1:(e9 r.before (ps.take i).reverse).1=decide ((e9 r.before (ps.take i).reverse).1=true):=by simp
    rw[e1]at yC;push_cast -dsimp[f1];refine aA yC ?_;rintro _ wc ⟨rfl,vh⟩;have ZA:=vh.size;have hBc:=hBb.below vh (by omega);have aEB:Below w4.heap.size w4 wc:=Vv.trans (vh.mono (by omega));have cI:=DD (ps:=ps) (i:=i) hrk;have aJU:(e9 r.before (ps.take i).reverse).1=true->(e9 r.after (ps.drop i)).1=true->r.brk=sb:=λh1 h2=>by
     rw[<-uP,Im,cI,if_pos];unfold fM;rw[h1,h2];rfl
    have aJk:((e9 r.before (ps.take i).reverse).1≠true\/(e9 r.after (ps.drop i)).1≠true)->eZ p ps i 0=eZ p ps i (k+1):=λh=>by
     rw[Im,cI,if_neg];unfold fM;rw[Bool.and_eq_true];rintro⟨h1,h2⟩;rcases h with h|h
     ·exact h h1
     exact h h2
    push_cast -dsimp;refine⟨λsE=>⟨⟨by omega,by omega⟩,⟨k+1,rfl,by omega,aJk (.inl sE),aEB⟩,by rw[h44];simp only[intOf];omega⟩,λsE=>?_⟩;have sE:(e9 r.before (ps.take i).reverse).1=true:=Classical.byContradiction sE;refine ba (λw'=>aL w' wy.heap.size 129 [.bool r.brk,s1,i1,s2,i2]) mixed (by kernel_rfl) hBc.drew ?_;have f2:∀w':World,aL w' wy.heap.size 129 [.bool r.brk,s1,i1,s2,i2]->aB w' ⟨wy.heap.size,3,none⟩ 0 2=some [s2,i2]:=λw' h=>jr (n:=2) (xs:=[s2,i2]) h 3 rfl rfl;have f2d:=f2 wc.drew hBc.drew;have hLc:Below w.heap.size w wc.drew:=(hL4.trans (aEB.mono (by omega))).drew;push_cast -dsimp[f2d];refine⟨λbE hC=>by rw[f2 bE hC];exact rfl,?_⟩;refine YW (Yx.below hLc) yF ?_;intro a' c' gY;push_cast -dsimp;have yC:=OH r.after (ps.drop i) hlr.2.1 hlr.2.2.1 hlr.2.2.2 (by rw[List.length_drop];omega) X _ _ _ wc.drew (h2.below (aAn.trans ((vh.mono (by omega)).drew))) gY;unfold sN at yC;rw[if_pos HI.2]at yC;have e2:(e9 r.after (ps.drop i)).1=decide ((e9 r.after (ps.drop i)).1=true):=by simp
    rw[e2]at yC;refine aA yC ?_;rintro _ we ⟨rfl,aMD⟩;have aEE:Below wc.heap.size wc we:=(Below.refl _ _).drew.trans aMD;have aUF:=aEE.size;have hBe:=hBc.below aEE (by omega);refine⟨hBe,?_⟩;have QZ:Below w4.heap.size w4 we:=aEB.trans (aEE.mono (by omega));push_cast -dsimp;refine⟨λeE=>?_,λeE=>⟨⟨by omega,by omega⟩,⟨k+1,rfl,by omega,aJk (.inr eE),QZ⟩,by rw[h44];simp only[intOf];omega⟩⟩;have hc0:we.cell? ⟨wy.heap.size,0,none⟩=some (.bool r.brk):=hBe.cell rfl;rw[aJU sE eE]at hc0;have kQ:=mK.below (QZ.mono (Nat.le_refl _));have s9:Below w1.heap.size w1 we:=aEA.trans (QZ.mono (by omega));have Kg:=s9.size;cases sb with
    | true =>
     push_cast -dsimp[hc0];have hy:=yM (.inl rfl);refine cG bm rfl rfl (by omega) ?_;intro w6 bQ;have KC:=bQ.size;push_cast -dsimp;refine aW (base:=w1.heap.size) [i] (enc:=bT) bm (kQ.new bQ) (by rfl) (λj u hu=>by simpa[bT] using bQ.cell hu) (by simp[bT,Value.oneCell']) (by simp only[List.length_cons,List.length_nil];omega) (by omega) ?_;intro v' w7 mL vk hn7;have pk:Kept (λj=>(Value.slice ua (bX p ps i).length uc).ownBlock=some j) w6 w7:=Kept.grown vk (λ_ h=>h);have kr:Below w1.heap.size w1 w7:=s9.trans ((bQ.below.mono Kg).trans (pk.below (by omega) (λg h=>(kQ.block g h).1)));push_cast -dsimp;rw[<-hy]at mL;exact⟨⟨by omega,by omega⟩,⟨i+1,_,rfl,rfl,by omega,xD,mL,kr⟩,by rw[h7];simp only[intOf];omega⟩
    | false =>
     push_cast -dsimp[hc0];refine⟨λhi0=>⟨λI6=>?_,λI6=>?_⟩,λhi0=>?_⟩
     ·have hy:=yM (.inr (.inr (by omega)));refine cG bm rfl rfl (by omega) ?_;intro w6 bQ;have KC:=bQ.size;push_cast -dsimp;refine aW (base:=w1.heap.size) [i] (enc:=bT) bm (kQ.new bQ) (by rfl) (λj u hu=>by simpa[bT] using bQ.cell hu) (by simp[bT,Value.oneCell']) (by simp only[List.length_cons,List.length_nil];omega) (by omega) ?_;intro v' w7 mL vk hn7;have pk:Kept (λj=>(Value.slice ua (bX p ps i).length uc).ownBlock=some j) w6 w7:=Kept.grown vk (λ_ h=>h);have kr:Below w1.heap.size w1 w7:=s9.trans ((bQ.below.mono Kg).trans (pk.below (by omega) (λg h=>(kQ.block g h).1)));push_cast -dsimp;rw[<-hy]at mL;exact⟨⟨by omega,by omega⟩,⟨i+1,_,rfl,rfl,by omega,xD,mL,kr⟩,by rw[h7];simp only[intOf];omega⟩
     ·have hy:=gG rfl (by omega) (by omega);have CF:Vc.Own w1.heap.size 3 1 bT we (.slice ua (bX p ps i).length uc) (bX p ps (i+1)):=by rw[hy];exact kQ
      exact⟨⟨by omega,by omega⟩,⟨i+1,_,rfl,rfl,by omega,xD,CF,s9⟩,by rw[h7];simp only[intOf];omega⟩
     have hy:=yM (.inr (.inl (by omega)));refine cG bm rfl rfl (by omega) ?_;intro w6 bQ;have KC:=bQ.size;push_cast -dsimp;refine aW (base:=w1.heap.size) [i] (enc:=bT) bm (kQ.new bQ) (by rfl) (λj u hu=>by simpa[bT] using bQ.cell hu) (by simp[bT,Value.oneCell']) (by simp only[List.length_cons,List.length_nil];omega) (by omega) ?_;intro v' w7 mL vk hn7;have pk:Kept (λj=>(Value.slice ua (bX p ps i).length uc).ownBlock=some j) w6 w7:=Kept.grown vk (λ_ h=>h);have kr:Below w1.heap.size w1 w7:=s9.trans ((bQ.below.mono Kg).trans (pk.below (by omega) (λg h=>(kQ.block g h).1)));push_cast -dsimp;rw[<-hy]at mL;exact⟨⟨by omega,by omega⟩,⟨i+1,_,rfl,rfl,by omega,xD,mL,kr⟩,by rw[h7];simp only[intOf];omega⟩
   have eQ:p.dD=sb:=by rw[<-uP,Im,Gn p ps i k eo]
   rw[eQ]at h9;push_cast -dsimp[h44,h9];refine⟨λh=>absurd h (by omega),λ_=>?_⟩;have kQ:=mK.below (yB.mono (Nat.le_refl _));have s9:=aMz;have Kg:=s9.size;cases sb with
   | true =>
    push_cast -dsimp[h44];have hy:=yM (.inl rfl);refine cG bm rfl rfl (by omega) ?_;intro w6 bQ;have KC:=bQ.size;push_cast -dsimp;refine aW (base:=w1.heap.size) [i] (enc:=bT) bm (kQ.new bQ) (by rfl) (λj u hu=>by simpa[bT] using bQ.cell hu) (by simp[bT,Value.oneCell']) (by simp only[List.length_cons,List.length_nil];omega) (by omega) ?_;intro v' w7 mL vk hn7;have pk:Kept (λj=>(Value.slice ua (bX p ps i).length uc).ownBlock=some j) w6 w7:=Kept.grown vk (λ_ h=>h);have kr:Below w1.heap.size w1 w7:=s9.trans ((bQ.below.mono Kg).trans (pk.below (by omega) (λg h=>(kQ.block g h).1)));push_cast -dsimp;rw[<-hy]at mL;exact⟨⟨by omega,by omega⟩,⟨i+1,_,rfl,rfl,by omega,xD,mL,kr⟩,by rw[h7];simp only[intOf];omega⟩
   | false =>
    push_cast -dsimp[h44];refine⟨λhi0=>⟨λI6=>?_,λI6=>?_⟩,λhi0=>?_⟩
    ·have hy:=yM (.inr (.inr (by omega)));refine cG bm rfl rfl (by omega) ?_;intro w6 bQ;have KC:=bQ.size;push_cast -dsimp;refine aW (base:=w1.heap.size) [i] (enc:=bT) bm (kQ.new bQ) (by rfl) (λj u hu=>by simpa[bT] using bQ.cell hu) (by simp[bT,Value.oneCell']) (by simp only[List.length_cons,List.length_nil];omega) (by omega) ?_;intro v' w7 mL vk hn7;have pk:Kept (λj=>(Value.slice ua (bX p ps i).length uc).ownBlock=some j) w6 w7:=Kept.grown vk (λ_ h=>h);have kr:Below w1.heap.size w1 w7:=s9.trans ((bQ.below.mono Kg).trans (pk.below (by omega) (λg h=>(kQ.block g h).1)));push_cast -dsimp;rw[<-hy]at mL;exact⟨⟨by omega,by omega⟩,⟨i+1,_,rfl,rfl,by omega,xD,mL,kr⟩,by rw[h7];simp only[intOf];omega⟩
    ·have hy:=gG rfl (by omega) (by omega);have CF:Vc.Own w1.heap.size 3 1 bT wy (.slice ua (bX p ps i).length uc) (bX p ps (i+1)):=by rw[hy];exact kQ
     exact⟨⟨by omega,by omega⟩,⟨i+1,_,rfl,rfl,by omega,xD,CF,s9⟩,by rw[h7];simp only[intOf];omega⟩
    have hy:=yM (.inr (.inl (by omega)));refine cG bm rfl rfl (by omega) ?_;intro w6 bQ;have KC:=bQ.size;push_cast -dsimp;refine aW (base:=w1.heap.size) [i] (enc:=bT) bm (kQ.new bQ) (by rfl) (λj u hu=>by simpa[bT] using bQ.cell hu) (by simp[bT,Value.oneCell']) (by simp only[List.length_cons,List.length_nil];omega) (by omega) ?_;intro v' w7 mL vk hn7;have pk:Kept (λj=>(Value.slice ua (bX p ps i).length uc).ownBlock=some j) w6 w7:=Kept.grown vk (λ_ h=>h);have kr:Below w1.heap.size w1 w7:=s9.trans ((bQ.below.mono Kg).trans (pk.below (by omega) (λg h=>(kQ.block g h).1)));push_cast -dsimp;rw[<-hy]at mL;exact⟨⟨by omega,by omega⟩,⟨i+1,_,rfl,rfl,by omega,xD,mL,kr⟩,by rw[h7];simp only[intOf];omega⟩
  ·have h0:ps=[]:=List.eq_nil_of_length_eq_zero (by omega);rw[<-ja (.inl h0)];exact⟨⟨_,rfl,ho.mono (by omega)⟩,N7⟩
  rw[<-ja (.inr (by omega))];exact⟨⟨_,rfl,ho.mono (by omega)⟩,N7⟩
end Go.Proofs.YtemjejfpadnljaaGreatDoor
end
section
namespace Go.Proofs.YtemjejfpadnljaaGreatDoor
open Go.Vc Go.Proofs Go.RowKit Cae
attribute [local irreducible] cg aa ag aX runK ar Sl Vc.Own vc aQ br a7
def fo (s:List UInt8)(k:Nat):Nat:=if k=(j7 0 s).length then s.length else ((j7 0 s).getD k ⟨0,0,0⟩).at_
def bS (s:List UInt8):List Int:=(j7 0 s).map λu=>(u.p:Int)
def dK (p:bM)(s:List UInt8):List Nat:=(fF p (bS s)).map (fo s)
structure me (X:Nat->Prop)(w:World)(eb:Nat)(p:bM)(t:List UInt8)(at_:List Nat):Prop where
 st:∃rv av,aL w eb 73 [rv,.bool p.dD,str t,av]/\gb X w (.agg #[rv,.bool p.dD]) p/\Sl X 1 (En bT) w av at_/\Arg av
theorem vR (p:bM)(ps:List Int):(fF p ps).length<=ps.length+1/\∀k∈fF p ps,k<=ps.length:=by
 unfold fF;split
 ·exact⟨Nat.zero_le _,λk h=>by cases h⟩
 refine⟨tk _ _ _,λk h=>?_⟩;unfold bX at h
 have:=List.mem_range.1 (List.mem_filter.1 h).1;omega
theorem vU (p:bM)(hr:bB p=true)(hl:jo p)(s:List UInt8)(hs:s.length<1000000)(eb:Nat)(X:Nat->Prop)(t:List UInt8)(at_:List Nat)(w:World)(hg:pw w)(he:me X w eb p t at_) :
  ar Tryz.prog 13 [.pointer (some ⟨eb,0,none⟩),str s] w λr w'=>Vc.Own w.heap.size 3 1 bT w' r (dK p s)/\Below w.heap.size w w':=by
 obtain⟨rv,av,hB,hP,hA,hAa⟩:=he.st;refine aE Tryz.func13 rfl (by kernel_rfl) [4] rfl ?_;push_cast -dsimp(maxSteps:=4000000) [Tryz.ntmps13];refine aA (Ut s hs w hg) ?_;rintro v w1 ⟨ho,hb⟩;have ph:=hb.size;have hlen:=xc s.length s 0 rfl;have oh:=ho.sl;have fa:=oh.shape;obtain⟨a,c,rfl,hc⟩:=fa;have hgU:∃us,j7 0 s=us:=⟨_,rfl⟩;obtain⟨us,hU⟩:=hgU;rw[hU]at oh hc hlen;push_cast -dsimp[hU];refine aK [6,8,18,19,20,21,22,23,24,25,26,27] (λz wx=>∃(i:Nat) (ov:Value),z 18=.int .i64 i/\z 6=ov/\i<=us.length/\Vc.Own w1.heap.size 3 1 p3 wx ov ((us.take i).map λu=>(u.p:Int))/\Below w1.heap.size w1 wx) (λz _=>us.length-(intOf (z 18)).toNat) ?_ ?_
 ·exact⟨0,_,rfl,rfl,Nat.zero_le _,Vc.Own.nil (enc:=p3) _ _ (λ_=>rfl) _,Below.refl _ _⟩
 intro z wx hI;obtain⟨i,ov,h18,h6,hi,eG,eW⟩:=hI;have yS:=eW.size;push_cast -dsimp[h18,h6];refine⟨λaj=>?_,λeo=>?_⟩
 ·have oU:=ah (l:=us) (i:=i) (by omega);obtain⟨x,hx,mm,hd,ht⟩:=oU;have oU:=(oh.below eW).get hx;obtain⟨b,o,rfl,hX,aU⟩:=oU;have c0:aB wx ⟨b,o+i*3,none⟩ 0 3=some [.int .i64 x.p,.int .i64 x.at_,.int .i64 x.n]:=ak (Ey x) 0 (λj u hu=>by simpa using aU j u hu);have fa:=eG.slice;obtain⟨oa,oc,rfl⟩:=fa;push_cast -dsimp[c0];refine⟨⟨by omega,by omega⟩,?_⟩;refine ao (z:=[.int .i64 0,.int .i64 0,.int .i64 0]) (by kernel_rfl) ?_;intro w2 bH;have BV:=bH.size;push_cast -dsimp;refine aH (n:=3) (by kernel_rfl) bH.aM rfl (by simp) (by simp[Value.oneCell']) ?_;intro w3 cM;have Kf:=cM.size;have d0:w3.cell? ⟨wx.heap.size,0,none⟩=some (.int .i64 x.p):=cM.aM.cell rfl;have k3:Kept (λj=>j=wx.heap.size) wx w3:=(Kept.new bH).trans cM.kept (λ_ _ h=>h);have mK:=eG.aJ k3 (λg hg h=>by have:=eG.block g hg;omega);have gV:Below w1.heap.size w1 w3:=eW.trans (k3.below yS (λ_ h=>by omega));push_cast -dsimp[d0];refine cG bm rfl rfl (by omega) ?_;intro w4 ae;have KB:=ae.size;have kQ:=mK.new ae;push_cast -dsimp;refine aW (base:=w1.heap.size) [(x.p:Int)] (enc:=p3) bm kQ (by rfl) (λj u hu=>by simpa[p3] using ae.cell hu) (by simp[p3,Value.oneCell']) (by simp only[List.length_map,List.length_take,List.length_cons,List.length_nil];omega) (by omega) ?_;intro v5 w5 CF yD _;have mj:Below w1.heap.size w1 w5:=(gV.trans (ae.below.mono (by omega))).trans ((Kept.grown yD (λ_ h=>h)).below (by omega) (λj h=>(kQ.block j h).1))
  have e5:((us.take i).map λu=>(u.p:Int))++[(x.p:Int)]=(us.take (i+1)).map λu=>(u.p:Int):=by rw[ht,List.map_append];rfl
  rw[e5]at CF;push_cast -dsimp;exact⟨⟨by omega,by omega⟩,⟨i+1,_,rfl,rfl,by omega,CF,mj⟩,by rw[h18];simp only[intOf];omega⟩
 rw[List.take_of_length_le (by omega)]at eG;have hpE:us.map (λu=>(u.p:Int))=bS s:=by unfold bS;rw[hU]
 rw[hpE]at eG;have HQ:(bS s).length=us.length:=by rw[<-hpE,List.length_map]
 have Lg:=hb.trans (eW.mono ph);have fx:=hB.below Lg hB.lt;have Yo:=hP.below Lg;have b0:aB wx ⟨eb,0,none⟩ 0 2=some [rv,.bool p.dD]:=ak [rv,.bool p.dD] 0 (λj u hu=>by
  rw[Nat.zero_add,Nat.zero_add];refine fx.cell ?_;match j,hu with
  | 0,hu=>exact hu
  | 1,hu=>exact hu
  | j+2,hu=>cases hu)
 push_cast -dsimp[b0];refine aA (NJ p (bS s) hl (by omega) X _ _ _ wx Yo eG.sl eG.kT) ?_;rintro _ w2 ⟨aJz,dt⟩;rw[if_pos hr]at aJz;obtain⟨u,rfl,hou⟩:=aJz;have BV:=dt.size;have iP:=Lg.trans (dt.mono Lg.size);have hgk:∃ks,fF p (bS s)=ks:=⟨_,rfl⟩;obtain⟨ks,hk⟩:=hgk;have WR:=vR p (bS s);rw[hk]at hou WR;have fa:=hou.slice;obtain⟨ka,kc,rfl⟩:=fa;have hks:=hou.sl;have pq:=(oh.below eW).below dt;push_cast -dsimp;refine aK [11,13,41,42,43,44,45,46,47,48,49,50,51,52,53,54,55,56,57,58,59,60,61,62] (λz wy=>∃(i:Nat) (ov:Value),z 41=.int .i64 i/\z 11=ov/\i<=ks.length/\Vc.Own w2.heap.size 3 1 bT wy ov ((ks.take i).map (fo s))/\Below w2.heap.size w2 wy) (λz _=>ks.length-(intOf (z 41)).toNat) ?_ ?_
 ·exact⟨0,_,rfl,rfl,Nat.zero_le _,Vc.Own.nil (enc:=bT) _ _ (λ_=>rfl) _,Below.refl _ _⟩
 intro y wy hJ;obtain⟨i,ov,h41,Vf,hi,si,yB⟩:=hJ;have szy:=yB.size;push_cast -dsimp[h41,Vf];refine⟨λaj=>?_,λeo=>?_⟩
 ·have oU:=ah (l:=ks) (i:=i) (by omega);obtain⟨k,CD,vK,hkd,hkt⟩:=oU;have aTp:=WR.2 k vK;have oU:=(hks.below yB).get CD;obtain⟨b,o,rfl,hX,aU⟩:=oU;have c0:wy.cell? ⟨b,o+i,none⟩=some (.int .i64 k):=by simpa[bT] using aU 0 _ rfl
  have fa:=si.slice;obtain⟨oa,oc,rfl⟩:=fa;have e5:(ks.take i).map (fo s)++[fo s k]=(ks.take (i+1)).map (fo s):=by rw[hkt,List.map_append];rfl
  have I6:((ks.take i).map (fo s)).length=i:=by rw[List.length_map,List.length_take];omega
  rw[I6];push_cast -dsimp[c0];refine⟨⟨by omega,by omega⟩,λAE=>?_,λgG=>?_⟩
  ·have HQ:fo s k=s.length:=by unfold fo;rw[hU,if_pos (by omega)]
   rw[HQ]at e5;refine cG bm rfl rfl (by omega) ?_;intro w4 ae;have KB:=ae.size;have kQ:=(si).new ae;push_cast -dsimp;rw[I6]at kQ;refine aW (base:=w2.heap.size) [(s.length:Nat)] (enc:=bT) bm kQ (by rfl) (λj u hu=>by simpa[bT] using ae.cell hu) (by simp[bT,Value.oneCell']) (by simp only[List.length_map,List.length_take,List.length_cons,List.length_nil];omega) (by omega) ?_;intro v5 w5 CF yD _;have mj:Below w2.heap.size w2 w5:=(yB.trans (ae.below.mono (by omega))).trans ((Kept.grown yD (λ_ h=>h)).below (by omega) (λj h=>(kQ.block j h).1));rw[e5]at CF;push_cast -dsimp;exact⟨⟨by omega,by omega⟩,⟨i+1,_,rfl,rfl,by omega,CF,mj⟩,by rw[h41];simp only[intOf];omega⟩
  have oU:=ah (l:=us) (i:=k) (by omega);obtain⟨x,hx,_⟩:=oU;have HQ:fo s k=x.at_:=by unfold fo;rw[hU,if_neg (by omega),List.getD_eq_getElem?_getD,hx];rfl
  rw[HQ]at e5;have oU:=(pq.below yB).get hx;obtain⟨b',o',rfl,_,hcu⟩:=oU;have cu:wy.cell? ⟨b',o'+k*3+1,none⟩=some (.int .i64 x.at_):=hcu 1 _ rfl;push_cast -dsimp[cu];refine⟨⟨by omega,by omega⟩,?_⟩;refine cG bm rfl rfl (by omega) ?_;intro w4 ae;have KB:=ae.size;have kQ:=(si).new ae;push_cast -dsimp;rw[I6]at kQ;refine aW (base:=w2.heap.size) [(x.at_:Nat)] (enc:=bT) bm kQ (by rfl) (λj u hu=>by simpa[bT] using ae.cell hu) (by simp[bT,Value.oneCell']) (by simp only[List.length_map,List.length_take,List.length_cons,List.length_nil];omega) (by omega) ?_;intro v5 w5 CF yD _;have mj:Below w2.heap.size w2 w5:=(yB.trans (ae.below.mono (by omega))).trans ((Kept.grown yD (λ_ h=>h)).below (by omega) (λj h=>(kQ.block j h).1));rw[e5]at CF;push_cast -dsimp;exact⟨⟨by omega,by omega⟩,⟨i+1,_,rfl,rfl,by omega,CF,mj⟩,by rw[h41];simp only[intOf];omega⟩
 rw[List.take_of_length_le (by omega)]at si;have hE:dK p s=ks.map (fo s):=by unfold dK;rw[hk]
 rw[hE];exact⟨si.mono (by omega),iP.trans (yB.mono iP.size)⟩
def ts (t:List UInt8)(a o:Int):Prop:=a<0\/o<0\/(t.length:Int)<a\/(t.length:Int)-a<o
def zV (t:List UInt8)(a o:Int)(i:List UInt8):List UInt8:=t.take a.toNat++i++t.drop (a+o).toNat
section
variable (p:bM) (i:List UInt8) (hi:i.length<100000) (a o:Int) (eb:Nat) (X:Nat->Prop) (t:List UInt8) (ht:t.length<=400) (bs:List Nat) (w:World) (he:me X w eb p t bs)
include hi ht he
theorem LO (hr:bB p=true)(hl:jo p)(hg:pw w)(hX:X eb)(IU:∀b,X b->b<w.heap.size)(TN:0≠eb)(h:¬ts t a o)(h2:¬(400:Int)<(t.length:Int)-o+i.length) :
  ar Tryz.prog 10 [.pointer (some ⟨eb,0,none⟩),.int .i64 a,.int .i64 o,str i] w λr w'=>r=.nilIface/\me X w' eb p (zV t a o i) (dK p (zV t a o i))/\Kept (·=eb) w w':=by
 obtain⟨rv,av,hB,hP,hA,hAa⟩:=he.st;unfold ts at h;have d2:w.cell? ⟨eb,2,none⟩=some (str t):=hB.cell rfl;refine aE Tryz.func10 rfl (by kernel_rfl) [8] rfl ?_;push_cast -dsimp(maxSteps:=4000000) [Tryz.ntmps10];push_cast -dsimp[d2];refine⟨λn1=>⟨λn2=>⟨λn3=>⟨⟨by omega,by omega⟩,λ_=>by omega,λn4=>⟨⟨by omega,by omega⟩,⟨by omega,by omega⟩,λ_=>by omega,λ_=>?_⟩⟩,λ_=>by omega⟩,λ_=>by omega⟩,λ_=>by omega⟩;have d2':w.drew.cell? ⟨eb,2,none⟩=some (str t):=d2;refine dU (λw'=>aL w' eb 73 [rv,.bool p.dD,str t,av]) mixed (by kernel_rfl) (List.cons_ne_nil _ _) hB.drew ?_;have L:∀bE:World,aL bE eb 73 [rv,.bool p.dD,str t,av]->mR (bE.cell? ⟨eb,2,none⟩) (λx=>x=str t) .mk:=λbE h=>fX h rfl;push_cast -dsimp[d2'];have HJ:∃t',t.take a.toNat++i++t.drop (a+o).toNat=t':=⟨_,rfl⟩;obtain⟨t',Nr⟩:=HJ;have hl':t'.length<=400:=by
  rw[<-Nr,List.length_append,List.length_append,List.length_take,List.length_drop];omega
 refine⟨L,⟨by omega,by omega⟩,by rw[List.length_take];omega,L,⟨by omega,by omega⟩,⟨by omega,by omega⟩,by rw[List.length_append,List.length_take,List.length_drop];omega,?_⟩;rw[Nr];refine aC hB.drew (by simp) rfl ?_;intro w2 bH;have BV:w2.heap.size=w.heap.size:=bH.size;have jI:Kept (·=eb) w w2:=((Kept.refl (λj=>j=eb) w).drew).trans bH.kept (λ_ _ h=>h);have B2:aL w2 eb 73 [rv,.bool p.dD,str t',av]:=bH.aM;have P2:gb X w2 (.agg #[rv,.bool p.dD]) p:=hP.mono (λb hb aj=>jI.block b aj (λh=>hb (h▸hX))) (λ_ h=>h);have A2:Sl X 1 (En bT) w2 av bs:=hA.kept jI (λb h=>h▸hX);have E2:me X w2 eb p t' bs:=⟨⟨rv,av,B2,P2,A2,hAa⟩⟩;have g2:pw w2:=λk hk=>jI.cell (hg k hk) TN;have e2:w2.cell? ⟨eb,2,none⟩=some (str t'):=B2.cell rfl;refine⟨trivial,?_⟩;push_cast -dsimp[e2];refine aA (vU p hr hl t' (by omega) eb X t' bs w2 g2 E2) ?_;rintro r w3 ⟨o3,gV⟩;have Kf:=gV.size;have lt2:=hB.lt;have B3:=B2.below gV (by omega);have fa:=o3.slice;obtain⟨ra,rc,rfl⟩:=fa;push_cast -dsimp;refine aC B3 (by simp) rfl ?_;intro w4 ae;have KB:w4.heap.size=w3.heap.size:=ae.size;have TO:Kept (·=eb) w w4:=(jI.trans (Kept.aN gV (X:=λ_=>False) (λk h1 h2=>by omega)) (λ_ _ h=>h.elim)).trans ae.kept (λ_ _ h=>h);have B4:aL w4 eb 73 [rv,.bool p.dD,str t',.slice ra (dK p t').length rc]:=ae.aM;have P4:gb X w4 (.agg #[rv,.bool p.dD]) p:=hP.mono (λb hb aj=>TO.block b aj (λh=>hb (h▸hX))) (λ_ h=>h);have o4:=o3.aJ ae.kept (λg hg h=>by have:=(o3.block g hg).1;omega);have hed:zV t a o i=t':=Nr;push_cast -dsimp;rw[hed]
 exact⟨⟨⟨rv,_,B4,P4,o4.sl.weaken (λb h=>by have:=IU b h;omega),o4.kT⟩⟩,TO⟩
end
theorem N0 (p:bM)(eb:Nat)(X:Nat->Prop)(t:List UInt8)(bs:List Nat)(hbl:bs.length<1000000)(w:World)(he:me X w eb p t bs) :
  ar Tryz.prog 11 [.pointer (some ⟨eb,0,none⟩)] w λr w'=>(∃v,r=.tuple #[str t,v]/\Vc.Own w.heap.size 3 1 bT w' v bs)/\Below w.heap.size w w':=by
 obtain⟨rv,av,hB,hP,hA,hAa⟩:=he.st;refine aE Tryz.func11 rfl (by kernel_rfl) [2,3] rfl ?_;push_cast -dsimp(maxSteps:=4000000) [Tryz.ntmps11];have d2:w.drew.cell? ⟨eb,2,none⟩=some (str t):=hB.cell rfl;refine ba (λw'=>Below w.heap.size w w') mixed (by kernel_rfl) (Below.refl _ _).drew ?_;have L2:∀bE:World,Below w.heap.size w bE->mR (bE.cell? ⟨eb,2,none⟩) (λx=>x=str t) .mk:=λbE h=>fX (hB.below h hB.lt) rfl;have L3:∀bE:World,Below w.heap.size w bE->mR (bE.cell? ⟨eb,3,none⟩) (λx=>x=av) .mk:=λbE h=>fX (hB.below h hB.lt) rfl;push_cast -dsimp[d2];refine⟨L2,?_⟩;refine cG bm rfl rfl (by omega) ?_;intro w1 aV;have gU:Below w.heap.size w w1:=(Below.refl _ _).drew.trans aV.below;have d3:w1.cell? ⟨eb,3,none⟩=some av:=(hB.below gU hB.lt).cell rfl;have o1:=aV.own (base:=w.heap.size) (k:=1) (n:=0) (enc:=bT) (l:=[]) rfl rfl (λ_=>rfl) (Nat.le_refl _) (by omega);refine⟨gU,?_⟩;push_cast -dsimp[d3];refine⟨L3,?_⟩;refine lh (base:=w.heap.size) (enc:=bT) (ys:=bs) bm o1 (hA.below gU) hAa (by simp[bT,Value.oneCell']) (by simp only[List.length_nil];omega) gU.size ?_;intro v2 w2 o2 _ dt;rw[List.nil_append]at o2;have fx:=gU.trans dt;refine⟨fx,?_⟩;push_cast -dsimp;exact⟨⟨_,rfl,o2⟩,fx⟩
end Go.Proofs.YtemjejfpadnljaaGreatDoor
end
section
namespace Go.Proofs.YtemjejfpadnljaaGreatDoor
open Go.Vc Go.Proofs Go.RowKit Cae
attribute [local irreducible] cg aa ag aX runK ar Sl Vc.Own vc aQ br a7
def firstIdx (g:Nat->Bool)(l:List Nat):Int:=if l.findIdx g<l.length then (l.findIdx g:Int) else -1
def gtB (a:Int)(x:Nat):Bool:=decide (a<(x:Int))
def q9 (l:List Nat)(a:Int):Value:=if firstIdx (gtB a) l<0 then .tuple #[.int .i64 0,.bool false] else .tuple #[.int .i64 (l.getD (firstIdx (gtB a) l).toNat 0:Nat),.bool true]
theorem aDv (a b:Nat):((a:Int).tmod (b:Int))=((a % b:Nat):Int):=by
 rw[Int.tmod_eq_emod_of_nonneg (Int.natCast_nonneg _)];rfl
theorem mr {x y:Nat}(hx:x<4294967296)(hy:y<4294967296):cD .or .u32 x y=((x ||| y:Nat):Int):=by
 simp only[cD,ll,BitVec.toNat_or,BitVec.toNat_ofNat];rw[Nat.mod_eq_of_lt (show x<2 ^ IntKind.u32.bits by show x<2 ^ 32;omega),Nat.mod_eq_of_lt (show y<2 ^ IntKind.u32.bits by show y<2 ^ 32;omega),eT,Nat.mod_eq_of_lt (Nat.or_lt_two_pow (n:=32) hx hy)]
theorem aDs (s:List UInt8)(hs:s.length<9223372036854775807)(w:World):ar Tryz.prog 78 [str s] w λr w'=>r=.int .u32 (wJ s)/\w'=w:=by
 refine aE Tryz.func78 rfl (by kernel_rfl) [2] rfl ?_;push_cast -dsimp(maxSteps:=4000000) [Tryz.ntmps78];refine aK [3,4,5,8,9,10,11,12,13,14,15,16,17,18,19,20,21,22] (λz wx=>∃(i a b:Nat),z 8=.int .i64 i/\z 3=.int .u32 a/\z 4=.int .u32 b/\i<=s.length/\a<65521/\b<65521/\pV a b (s.drop i)=pV 1 0 s/\wx=w) (λz _=>s.length-(intOf (z 8)).toNat) ?_ ?_
 ·exact⟨0,1,0,rfl,rfl,rfl,Nat.zero_le _,by omega,by omega,rfl,rfl⟩
 intro z wx hI;obtain⟨i,a,b,h8,h3,h4,hi,ha,hb,hg,hw⟩:=hI;push_cast -dsimp[h8,h3,h4];refine⟨λaj=>?_,λeo=>?_⟩
 ·obtain⟨c,hc,_,hd,_⟩:=ah (l:=s) (i:=i) (by omega);rw[hd,pV]at hg;have iQ:=c.toNat_lt;have TM:s.getD i 0=c:=by rw[List.getD_eq_getElem?_getD,hc];rfl
  rw[TM,eT,Nat.mod_eq_of_lt (by omega),show (a:Int)+(c.toNat:Int)=((a+c.toNat:Nat):Int) by omega,eT,Nat.mod_eq_of_lt (show a+c.toNat<4294967296 by omega)]
  rw[show (65521:Int)=((65521:Nat):Int) from rfl,aDv]
  have hm:=Nat.mod_lt (a+c.toNat) (show 0<65521 by omega)
  generalize (a+c.toNat) % 65521=m at hm hg ⊢
  rw[show (b:Int)+(m:Int)=((b+m:Nat):Int) by omega,eT,Nat.mod_eq_of_lt (show b+m<4294967296 by omega),aDv]
  have eE:=Nat.mod_lt (b+m) (show 0<65521 by omega)
  generalize (b+m) % 65521=m2 at eE hg ⊢
  exact⟨⟨by omega,by omega⟩,⟨by omega,by omega⟩,⟨i+1,m,m2,rfl,rfl,rfl,by omega,hm,eE,hg,hw⟩,by simp only[intOf];omega⟩
 rw[List.drop_eq_nil_of_le (by omega),pV]at hg;have hp:wJ s=b*65536+a:=by unfold wJ;rw[<-hg]
 refine⟨?_,hw⟩;congr 1;rw[hp,show min 16 IntKind.u32.bits=16 from rfl,show ((b:Int)*2 ^ 16)=((b*2 ^ 16:Nat):Int) by simp,eT,Nat.mod_eq_of_lt (by omega),mr (by omega) (by omega),pG (k:=16) (by omega)]
def Grow (w w':World)(v v':Value):Prop:=Kept (λj=>v.ownBlock=some j) w w'/\∀g,v'.ownBlock=some g->v.ownBlock=some g\/w.heap.size<=g
theorem Grow.refl (w:World)(v:Value):Grow w w v v:=⟨Kept.refl _ _,λ_ h=>.inl h⟩
theorem Grow.trans {a b c:World}{u v x:Value}(h:Grow a b u v)(k:Grow b c v x):Grow a c u x:=by
 have hs:=h.1.size;refine⟨h.1.trans k.1 (λi hi hv=>?_),λg hg=>?_⟩
 ·rcases h.2 i hv with h'|h'
  ·exact h'
  omega
 rcases k.2 g hg with h'|h'
 ·exact h.2 g h'
 exact .inr (by omega)
theorem Grow.still {a b:World}(v:Value)(h:Kept (λ_=>False) a b):Grow a b v v:=⟨h.weaken (λ_ _ h=>h.elim),λ_ h=>.inl h⟩
theorem Grow.put {a b c:World}{u v:Value}{e:TypeId}{p:Nat}{cs:List Value}(h:Grow a b u v)(hn:yV b c p e cs)(hp:a.heap.size<=p):Grow a c u v :=
 ⟨h.1.trans hn.kept (λi hi hh=>by omega),h.2⟩
theorem Grow.below {a b:World}{u v:Value}{base:Nat}{e:TypeId}{k:Nat}{α:Type}{enc:α->List Value}{l:List α}(h:Grow a b u v)(ho:Vc.Own base e k enc a u l)(hb:base<=a.heap.size):Below base a b :=
 h.1.below hb λi hi=>(ho.block i hi).1
theorem Grow.apart {a b:World}{u v:Value}(h:Grow a b u v){p:Nat}(hp:p<a.heap.size)(hu:u.ownBlock≠some p):v.ownBlock≠some p:=λhv=>by
 rcases h.2 p hv with h'|h'
 ·exact hu h'
 omega
theorem uq {α:Type}{a b:World}{u:Value}{base:Nat}{e:TypeId}{k:Nat}{enc:α->List Value}{l:List α}(ho:Vc.Own base e k enc a u l)(h:Kept (λ_=>False) a b):Vc.Own base e k enc b u l:=ho.aJ h (λ_ _ hh=>hh)
theorem tf {P:Program}{t:Fr}{w:World}{K:VK}{Q:EP}{bt ty e:TypeId}{base n c:Nat}{v:Value}{l:List UInt8}{w0:World}(ys:List UInt8){p}(hE:Bq P bt=some (e,1,1))(ho:Vc.Own base e 1 jH w0 v l)(hw:mg w0 w e (ys.flatMap jH))
  (hn:ys.length=n) (hlen:l.length+ys.length<100000000000000) (hb:base<=w0.heap.size) (kk:∀v' w',Vc.Own base e 1 jH w' v' (l++ys)->Grow w0 w' v v'->K v' w') :
  ag P (Builtin.append_ #[bt,bt] ty [v,.slice (some ⟨w0.heap.size,0,none⟩) n c].toArray) t w K Q p :=
 aW (base:=base) ys hE (ho.new hw) hn (λj u hu=>by simpa using hw.cell hu) (by simp[jH,Value.oneCell']) (by omega) (by have:=hw.size;omega) λv' w2 lC C0 Yw =>
  kk v' w2 lC ⟨(Kept.new hw (X:=λj=>v.ownBlock=some j)).trans (Kept.grown C0 λ_ h=>h) (λ_ _ h=>h),λg hg=>by
   rcases Yw g hg with h|h
   ·exact .inl h
   exact .inr (by have:=hw.size;omega)⟩
theorem JX {n:Nat}(h:n<4294967296):cD .or .u8 (IntKind.u8.wrap (cD .and .i64 (n:Int) 127)) 128=(((bt (n % 128+128)).toNat:Nat):Int):=by
 have hm:=Nat.mod_lt n (show 0<128 by omega)
 rw[show (127:Int)=((2 ^ 7-1:Nat):Int) from rfl,lL (by omega) (by omega),lz,fR,show n % 2 ^ 7=n % 128 from rfl,Nat.mod_eq_of_lt (by omega),show (128:Int)=((128:Nat):Int) from rfl,Kx (by omega) (by omega),iJ (by omega)]
 have:=pG (p:=1) (x:=n % 128) (k:=7) (by omega);rw[Nat.or_comm];rw[show 1*2 ^ 7=128 from rfl]at this
 rw[this,Nat.add_comm]
theorem qg (base n:Nat)(l:List UInt8)(hn:n<2147483648)(WS:l.length+(dw n).length<10000000000000)(v:Value)(w:World)(ho:Vc.Own base 5 1 jH w v l)(hb:base<=w.heap.size) :
  ar Tryz.prog 75 [v,.int .i64 n] w λv' w'=>Vc.Own base 5 1 jH w' v' (l++dw n)/\Grow w w' v v':=by
 refine aE Tryz.func75 rfl (by kernel_rfl) [4] rfl ?_;push_cast -dsimp(maxSteps:=4000000) [Tryz.ntmps75];refine aK [0,1,5,6,7,8,9,10,11,12,13,14,15] (λz wx=>∃(m:Nat) (l':List UInt8),z 1=.int .i64 m/\m<=n/\l'++dw m=l++dw n/\Vc.Own base 5 1 jH wx (z 0) l'/\Grow w wx v (z 0)) (λz _=>(intOf (z 1)).toNat) ?_ ?_
 ·exact⟨n,l,rfl,Nat.le_refl _,rfl,ho,Grow.refl _ _⟩
 intro z wx hI;obtain⟨m,l',h1,hm,hl',eG,oU⟩:=hI;have hlen:=congrArg List.length hl';have hml:=qe m;simp only[List.length_append]at hlen;have ny:=oU.1.size;push_cast -dsimp[h1];refine⟨λeo=>?_,λaj=>?_⟩
 ·refine cG nT rfl rfl (by omega) ?_;intro w1 aV;rw[JX (by omega)]at aV;push_cast -dsimp;refine tf (base:=base) [bt (m % 128+128)] nT eG aV rfl (by simp only[List.length_cons,List.length_nil];omega) (by omega) ?_;intro v' w2 lC C0;push_cast -dsimp;have es:((m:Int).fdiv (2 ^ min 7 IntKind.i64.bits))=((m / 2 ^ 7:Nat):Int):=yi (b:=7) rfl (by show 7<=64;omega)
  rw[es,show m / 2 ^ 7=m / 128 from rfl]
  refine⟨⟨m / 128,_,rfl,by omega,?_,lC,oU.trans C0⟩,by rw[h1];simp only[intOf];omega⟩;rw[<-hl',G4 (n:=m) (by omega),List.append_assoc];rfl
 refine cG nT rfl rfl (by omega) ?_;intro w1 aV;rw[fR,Nat.mod_eq_of_lt (by omega)]at aV;have e1:((m:Nat):Int)=(((bt m).toNat:Nat):Int):=by rw[iJ (by omega)]
 rw[e1]at aV;push_cast -dsimp;refine tf (base:=base) [bt m] nT eG aV rfl (by simp only[List.length_cons,List.length_nil];omega) (by omega) ?_;intro v' w2 lC C0;push_cast -dsimp;rw[<-hl',rN (by omega)];exact⟨lC,oU.trans C0⟩
theorem aCy (base:Nat)(b:Bool)(l:List UInt8)(WS:l.length<10000000000000)(v:Value)(w:World)(ho:Vc.Own base 5 1 jH w v l)(hb:base<=w.heap.size) :
  ar Tryz.prog 76 [v,.bool b] w λv' w'=>Vc.Own base 5 1 jH w' v' (l++r7 b)/\Grow w w' v v':=by
 refine aE Tryz.func76 rfl (by kernel_rfl) [4] rfl ?_;push_cast -dsimp(maxSteps:=4000000) [Tryz.ntmps76];cases b with
 | true =>
  push_cast -dsimp;refine cG nT rfl rfl (by omega) ?_;intro w1 aV;push_cast -dsimp;refine tf (base:=base) [1] nT ho aV rfl (by simp only[List.length_cons,List.length_nil];omega) (by omega) ?_;intro v' w2 lC C0;push_cast -dsimp;exact⟨lC,C0⟩
 | false =>
  push_cast -dsimp;refine cG nT rfl rfl (by omega) ?_;intro w1 aV;push_cast -dsimp;refine tf (base:=base) [0] nT ho aV rfl (by simp only[List.length_cons,List.length_nil];omega) (by omega) ?_;intro v' w2 lC C0;push_cast -dsimp;exact⟨lC,C0⟩
theorem qJ {α:Type}{f:α->List UInt8}:∀{l:List α} {i:Nat} {x:α},l[i]?=some x->((l.take i).flatMap f).length+(f x).length<=(l.flatMap f).length
 | [],i,x,h=>by simp at h
 | y::l,0,x,h=>by simp at h;subst h;simp
 | y::l,i+1,x,h=>by
  have:=qJ (f:=f) (l:=l) (i:=i) (x:=x) (by simpa using h);simp only[List.take_succ_cons,List.flatMap_cons,List.length_append];omega
theorem rH {α:Type}{f:α->List UInt8}{l:List α}{i:Nat}{x:α}(h:l.take (i+1)=l.take i++[x]):(l.take (i+1)).flatMap f=(l.take i).flatMap f++f x:=by
 rw[h,List.flatMap_append];simp
theorem oE (base:Nat)(z:Int)(l:List UInt8)(h0:0<=z)(hz:z<2147483648)(WS:l.length+(dw z.toNat).length<10000000000000)(v:Value)(w:World)(ho:Vc.Own base 5 1 jH w v l)(hb:base<=w.heap.size) :
  ar Tryz.prog 75 [v,.int .i64 z] w λv' w'=>Vc.Own base 5 1 jH w' v' (l++dw z.toNat)/\Grow w w' v v':=by
 have e:z=((z.toNat:Nat):Int):=by omega
 have:=qg base z.toNat l (by omega) WS v w ho hb;rwa [<-e]at this
theorem D6 {c:aD}(h:aS c=true){x:I3}(hx:x∈c.ins):(0<=x.op/\x.op<2147483648)/\(0<=x.a/\x.a<2147483648)/\(0<=x.b/\x.b<2147483648):=by
 have hc:=CR.of h;obtain⟨i,hi⟩:=List.getElem?_of_mem hx;have hr:=cJ (hc.ins i x hi)
 have:=hc.sets
 have:=hc.many;omega
theorem xX {c:aD}(h:aS c=true){s:List Rg}(hs:s∈c.sets){r:Rg}(hr:r∈s):(0<=r.1/\r.1<2147483648)/\(0<=r.2/\r.2<2147483648):=by
 have hc:=CR.of h;obtain⟨i,hi⟩:=List.getElem?_of_mem hr;obtain⟨h1,h2,h3,_⟩:=bx s (-2) (hc.set s hs) i r hi;omega
theorem Ou (base:Nat)(c:aD)(hc:aS c=true)(l:List UInt8)(WS:l.length+(kp c).length<10000000000000)(v cv:Value)(w:World)(ho:Vc.Own base 5 1 jH w v l)(hb:base<=w.heap.size)
  (TK:cL (λj=>base<=j) w cv c):ar Tryz.prog 77 [v,cv] w λv' w'=>Vc.Own base 5 1 jH w' v' (l++kp c)/\Grow w w' v v':=by
 obtain⟨sv,iv,rfl,so,tS⟩:=TK;obtain⟨a1,c1,rfl,Fz⟩:=so.shape;obtain⟨a2,c2,rfl,uI⟩:=tS.shape;have HI:=CR.of hc;have il:=HI.sets;have tR:=HI.many;have Lu:∀i,v.ownBlock=some i->base<=i:=λi hi=>(ho.block i hi).1;have GI:v.ownBlock≠some w.heap.size:=λh=>by have:=(ho.block _ h).2;omega
 have iQ:(kp c).length=(dw c.sets.length).length+(c.sets.flatMap pM).length+(dw c.ins.length).length+(c.ins.flatMap ri).length:=by simp only[kp,List.length_append]
 refine aE Tryz.func77 rfl (by kernel_rfl) [4] rfl ?_;push_cast -dsimp(maxSteps:=4000000) [Tryz.ntmps77];refine aR ?_;intro w1 aV;have d0:w1.cell? ⟨w.heap.size,0,none⟩=some (.slice a1 c.sets.length c1):=aV.cell rfl;have s1:=aV.size;push_cast -dsimp[d0];refine aA (qg base c.sets.length l (by have:=HI.sets;omega) (by omega) v w1 (ho.new aV) (by omega)) ?_;rintro v1 w2 ⟨lC,C0⟩;have hG2:Grow w w2 v v1:=(Grow.still v (Kept.new aV)).trans C0;have e0:w2.cell? ⟨w.heap.size,0,none⟩=some (.slice a1 c.sets.length c1):=C0.1.cell d0 GI;have e1:w2.cell? ⟨w.heap.size,1,none⟩=some (.slice a2 c.ins.length c2):=C0.1.cell (aV.cell rfl) GI;have aJH:v1.ownBlock≠some w.heap.size:=C0.apart (by omega) GI;push_cast -dsimp[e0];refine aK [0,6,8,19,20,21,22,23,24,25,26,27,28,29,30,31,32,33,34,35,36,37,38,39,40,41] (λz wx=>∃(i:Nat),z 19=.int .i64 i/\i<=c.sets.length/\Vc.Own base 5 1 jH wx (z 0) (l++dw c.sets.length++(c.sets.take i).flatMap pM)/\Grow w2 wx v1 (z 0)) (λz _=>c.sets.length-(intOf (z 19)).toNat) ?_ ?_
 ·exact⟨0,rfl,Nat.zero_le _,(by simpa using lC:Vc.Own base 5 1 jH w2 v1 (l++dw c.sets.length++(c.sets.take 0).flatMap pM)),Grow.refl _ _⟩
 intro z wx hI;obtain⟨i,h19,hi,eG,oU⟩:=hI;have hGx:=hG2.trans oU;have sx:=hGx.1.size;push_cast -dsimp[h19];refine⟨λaj=>?_,λeo=>?_⟩
 ·obtain⟨s,hs,Qq,hd,ht⟩:=ah (l:=c.sets) (i:=i) (by omega);have DX:=qJ (f:=pM) hs;obtain⟨b,o,cs,rfl,hX,hk,aU,u,rfl,hu⟩:=Sl.xw (dp.kept so hGx.1 Lu) hs;have cu:wx.cell? ⟨b,o+i,none⟩=some u:=by simpa using aU 0 u rfl
  obtain⟨a3,c3,rfl,hc3⟩:=hu.shape;push_cast -dsimp[cu];have oh:(pM s).length=(dw s.length).length+(s.flatMap iw).length:=by simp only[pM,List.length_append]
  have aQA:=qe s.length;refine⟨⟨by omega,by omega⟩,?_⟩;have hsn:s.length<10000000000000:=by have:=qH Au s;omega
  have hsq:=eI ((CR.of hc).set s Qq);refine aA (qg base s.length _ (by omega) (by simp only[List.length_append];omega) (z 0) wx eG (by omega)) ?_;rintro v3 w3 ⟨mK,Ng⟩;have hG3:=hGx.trans Ng;have s3:=hG3.1.size;have hu3:=Sl.kept hu Ng.1 (λj hj=>(eG.block j hj).1);push_cast -dsimp;refine aK [0,8,29,30,31,32,33,34,35,36,37,38,39,40] (λz' wy=>∃(j:Nat),z' 29=.int .i64 j/\j<=s.length/\Vc.Own base 5 1 jH wy (z' 0) (l++dw c.sets.length++(c.sets.take i).flatMap pM++dw s.length++(s.take j).flatMap iw)/\Grow w3 wy v3 (z' 0)) (λz' _=>s.length-(intOf (z' 29)).toNat) ?_ ?_
  ·exact⟨0,rfl,Nat.zero_le _,(by simpa using mK:Vc.Own base 5 1 jH w3 v3 (l++dw c.sets.length++(c.sets.take i).flatMap pM++dw s.length++(s.take 0).flatMap iw)),Grow.refl _ _⟩
  intro z' wy hI;obtain⟨j,h29,hj,si,Cg⟩:=hI;have hGy:=hG3.trans Cg;have sy:=hGy.1.size;push_cast -dsimp[h29];refine⟨λIe=>?_,λLj=>?_⟩
  ·have hex:=ah (l:=s) (i:=j) (by omega);obtain⟨r,hx⟩:=hex;have hr:=hx.1;have Cl:=hx.2.1;have Kb:=hx.2.2.2;have aJw:=xX hc Qq Cl;have vM:=aJw.1;have uO:=aJw.2;have aI4:=qJ (f:=iw) hr;have yE:=(Sl.kept hu3 Cg.1 (λj hj=>(mK.block j hj).1)).get hr;obtain⟨b3,o3,rfl,hX3,Lh⟩:=yE;have ce:aB wy ⟨b3,o3+j*2,none⟩ 0 2=some [.int .i64 r.1,.int .i64 r.2]:=ak (ay r) 0 (λk u hu=>by simpa using Lh k u hu);push_cast -dsimp[ce];have Ka:(iw r).length=(dw r.1.toNat).length+(dw r.2.toNat).length:=by simp only[iw,List.length_append]
   refine⟨⟨by omega,by omega⟩,?_⟩;refine ao (z:=[.int .i64 0,.int .i64 0]) (by kernel_rfl) ?_;intro w4 ae;push_cast -dsimp;refine aH (n:=2) (by kernel_rfl) ae.aM rfl (by simp) (by simp[Value.oneCell']) ?_;intro w5 cH;have s4:=ae.size;have Fk:aL w5 wy.heap.size 208 [.int .i64 r.1,.int .i64 r.2]:=cH.aM;have hG5:Grow wy w5 (z' 0) (z' 0):=(Grow.still _ (Kept.new ae)).put cH (Nat.le_refl _);have CF:Vc.Own base 5 1 jH w5 (z' 0) _:=(si.new ae).aJ cH.kept (λg hg hh=>by have:=(si.block g hg).2;omega);have sZ:(z' 0).ownBlock≠some wy.heap.size:=λh=>by have:=(si.block _ h).2;omega
   push_cast -dsimp;have s5:=hG5.1.size;have s6:=cH.size;refine ba (λw'=>aL w' wy.heap.size 208 [.int .i64 r.1,.int .i64 r.2]) mixed (by kernel_rfl) Fk.drew ?_;have f0:w5.drew.cell? ⟨wy.heap.size,0,none⟩=some (.int .i64 r.1):=Fk.drew.cell rfl;push_cast -dsimp[f0];refine⟨λbE hC=>by rw[hC.cell (o:=0) rfl];exact rfl,?_⟩;refine aA (oE base r.1 _ vM.1 vM.2 (by simp only[List.length_append];omega) (z' 0) w5.drew (uq CF (Kept.refl _ _).drew) (by show base<=w5.heap.size;omega)) ?_
   rintro v6 w6 ⟨po,WL⟩;have rI:=Fk.drew.kept WL.1 sZ;refine⟨rI,?_⟩;have f1:w6.cell? ⟨wy.heap.size,1,none⟩=some (.int .i64 r.2):=rI.cell rfl;push_cast -dsimp[f1];refine⟨λbE hC=>by rw[hC.cell (o:=1) rfl];exact rfl,?_⟩;have s7:=WL.1.size;refine aA (oE base r.2 _ uO.1 uO.2 (by simp only[List.length_append];omega) v6 w6 po (by have:w5.heap.size<=w6.heap.size:=s7;omega)) ?_;rintro v7 w7 ⟨mL,vk⟩;have IM:=rI.kept vk.1 (WL.apart (by show wy.heap.size<w5.heap.size;omega) sZ)
   refine⟨IM,?_⟩;push_cast -dsimp;refine⟨⟨by omega,by omega⟩,⟨j+1,rfl,by omega,?_,Cg.trans (hG5.trans ((Grow.still _ (Kept.refl _ _).drew).trans (WL.trans vk)))⟩,by rw[h29];simp only[intOf];omega⟩;rw[rH Kb];simpa only[iw,List.append_assoc] using mL
  have hj2:s.take j=s:=List.take_of_length_le (by omega);rw[hj2]at si;refine⟨⟨by omega,by omega⟩,⟨i+1,rfl,by omega,?_,oU.trans (Ng.trans Cg)⟩,by rw[h19];simp only[intOf];omega⟩;rw[rH ht];simpa only[pM,List.append_assoc] using si
 have Ni:c.sets.take i=c.sets:=List.take_of_length_le (by omega);rw[Ni]at eG;have f1:=oU.1.cell e1 aJH;have aMu:=oU.apart (by have:=hG2.1.size;have:=C0.1.size;omega) aJH;have tR:=HI.many;push_cast -dsimp[f1];refine aA (qg base c.ins.length _ (by omega) (by simp only[List.length_append];omega) (z 0) wx eG (by omega)) ?_;rintro v3 w3 ⟨mK,Ng⟩;have hG3:=hGx.trans Ng;have f3:=Ng.1.cell f1 aMu;push_cast -dsimp[f3];refine aK [0,10,50,51,52,53,54,55,56,57,58,59,60,61,62,63,64] (λz' wy=>∃(j:Nat),z' 50=.int .i64 j/\j<=c.ins.length/\Vc.Own base 5 1 jH wy (z' 0) (l++dw c.sets.length++c.sets.flatMap pM++dw c.ins.length++(c.ins.take j).flatMap ri)/\Grow w3 wy v3 (z' 0)) (λz' _=>c.ins.length-(intOf (z' 50)).toNat) ?_ ?_
 ·exact⟨0,rfl,Nat.zero_le _,(by simpa using mK:Vc.Own base 5 1 jH w3 v3 (l++dw c.sets.length++c.sets.flatMap pM++dw c.ins.length++(c.ins.take 0).flatMap ri)),Grow.refl _ _⟩
 intro z' wy hI;obtain⟨j,h50,hj,si,Cg⟩:=hI;have hGy:=hG3.trans Cg;have sy:=hGy.1.size;push_cast -dsimp[h50];refine⟨λIe=>?_,λLj=>?_⟩
 ·have hex:=ah (l:=c.ins) (i:=j) (by omega);obtain⟨x,hxx⟩:=hex;have hx:=hxx.1;have mm:=hxx.2.1;have hxt:=hxx.2.2.2;have Wc:=D6 hc mm;have Ke:=Wc.1;have y7:=Wc.2.1;have hx3:=Wc.2.2;have aI4:=qJ (f:=ri) hx;have yE:=(Sl.kept tS hGy.1 Lu).get hx;obtain⟨b3,o3,rfl,hX3,Lh⟩:=yE;have ce:aB wy ⟨b3,o3+j*3,none⟩ 0 3=some [.int .i64 x.op,.int .i64 x.a,.int .i64 x.b]:=ak (bN x) 0 (λk u hu=>by simpa using Lh k u hu);push_cast -dsimp[ce];have hxl:(ri x).length=(dw x.op.toNat).length+(dw x.a.toNat).length+(dw x.b.toNat).length:=by simp only[ri,List.length_append]
  refine⟨⟨by omega,by omega⟩,?_⟩;refine ao (z:=[.int .i64 0,.int .i64 0,.int .i64 0]) (by kernel_rfl) ?_;intro w4 ae;push_cast -dsimp;refine aH (n:=3) (by kernel_rfl) ae.aM rfl (by simp) (by simp[Value.oneCell']) ?_;intro w5 cH;have s4:=ae.size;have Fk:aL w5 wy.heap.size 164 [.int .i64 x.op,.int .i64 x.a,.int .i64 x.b]:=cH.aM;have hG5:Grow wy w5 (z' 0) (z' 0):=(Grow.still _ (Kept.new ae)).put cH (Nat.le_refl _);have CF:Vc.Own base 5 1 jH w5 (z' 0) _:=(si.new ae).aJ cH.kept (λg hg hh=>by have:=(si.block g hg).2;omega);have sZ:(z' 0).ownBlock≠some wy.heap.size:=λh=>by have:=(si.block _ h).2;omega
  push_cast -dsimp;have s5:=hG5.1.size;have s6:=cH.size;refine ba (λw'=>aL w' wy.heap.size 164 [.int .i64 x.op,.int .i64 x.a,.int .i64 x.b]) mixed (by kernel_rfl) Fk.drew ?_;have f0:w5.drew.cell? ⟨wy.heap.size,0,none⟩=some (.int .i64 x.op):=Fk.drew.cell rfl;push_cast -dsimp[f0];refine⟨λbE hC=>by rw[hC.cell (o:=0) rfl];exact rfl,?_⟩;refine aA (oE base x.op _ Ke.1 Ke.2 (by simp only[List.length_append];omega) (z' 0) w5.drew (uq CF (Kept.refl _ _).drew) (by show base<=w5.heap.size;omega)) ?_
  rintro v6 w6 ⟨po,WL⟩;have rI:=Fk.drew.kept WL.1 sZ;have aIv:=WL.apart (by show wy.heap.size<w5.heap.size;omega) sZ
  refine⟨rI,?_⟩;have f1:w6.cell? ⟨wy.heap.size,1,none⟩=some (.int .i64 x.a):=rI.cell rfl;push_cast -dsimp[f1];refine⟨λbE hC=>by rw[hC.cell (o:=1) rfl];exact rfl,?_⟩;have s7:w5.heap.size<=w6.heap.size:=WL.1.size;refine aA (oE base x.a _ y7.1 y7.2 (by simp only[List.length_append];omega) v6 w6 po (by omega)) ?_;rintro v7 w7 ⟨mL,vk⟩;have IM:=rI.kept vk.1 aIv;have aAh:=vk.apart (by omega) aIv;refine⟨IM,?_⟩;have f2:w7.cell? ⟨wy.heap.size,2,none⟩=some (.int .i64 x.b):=IM.cell rfl;push_cast -dsimp[f2];refine⟨λbE hC=>by rw[hC.cell (o:=2) rfl];exact rfl,?_⟩;have s8:=vk.1.size;refine aA (oE base x.b _ hx3.1 hx3.2 (by simp only[List.length_append];omega) v7 w7 mL (by omega)) ?_;rintro v8 w8 ⟨rK,DY⟩;refine⟨IM.kept DY.1 aAh,?_⟩;push_cast -dsimp;refine⟨⟨by omega,by omega⟩,⟨j+1,rfl,by omega,?_,Cg.trans (hG5.trans ((Grow.still _ (Kept.refl _ _).drew).trans (WL.trans (vk.trans DY))))⟩,by rw[h50];simp only[intOf];omega⟩;rw[rH hxt];simpa only[ri,List.append_assoc] using rK
 have hj2:c.ins.take j=c.ins:=List.take_of_length_le (by omega);rw[hj2]at si;refine⟨?_,hGy⟩;simpa only[kp,List.append_assoc] using si
theorem uj {n:Nat}(h:n<2147483648):(dw n).length<=5:=JW 5 n (by omega) (by omega)
theorem IJ {α:Type}{f:α->List UInt8}{k:Nat}:∀(l:List α),(∀x∈l,(f x).length<=k)->(l.flatMap f).length<=l.length*k
 | [],_=>by simp
 | x::l,h=>by
  have h1:=h x (by simp);have h2:=IJ l (λy hy=>h y (by simp[hy]));simp only[List.flatMap_cons,List.length_append,List.length_cons,Nat.add_mul];omega
theorem xZ {c:aD}(hr:aS c=true):(kp c).length<=83886126000:=by
 have hc:=CR.of hr;have h1:=hc.sets;have h2:=hc.many;have e1:(c.sets.flatMap pM).length<=c.sets.length*41943045:=IJ _ λs hs=>by
  have:=IJ (f:=iw) (k:=10) s (λr Cl=>by
   obtain⟨g1,g2⟩:=xX hr hs Cl
   have:=uj (n:=r.1.toNat) (by omega)
   have:=uj (n:=r.2.toNat) (by omega);simp only[iw,List.length_append];omega)
  have:=eI (hc.set s hs)
  have:=uj (n:=s.length) (by omega);simp only[pM,List.length_append];omega
 have e2:(c.ins.flatMap ri).length<=c.ins.length*15:=IJ _ λx hx=>by
  obtain⟨g1,g2,g3⟩:=D6 hr hx
  have:=uj (n:=x.op.toNat) (by omega)
  have:=uj (n:=x.a.toNat) (by omega)
  have:=uj (n:=x.b.toNat) (by omega);simp only[ri,List.length_append];omega
 have:=uj (n:=c.sets.length) (by omega)
 have:=uj (n:=c.ins.length) (by omega);simp only[kp,List.length_append];omega
theorem Ar {p:bM}(hr:bB p=true):(iD p).length<9000000000000:=by
 obtain⟨h1,h3⟩:=eD hr;have e1:(p.rules.flatMap lG).length<=p.rules.length*167772252001:=IJ _ λr Cl=>by
  obtain⟨k1,k2⟩:=h3 r Cl
  have:=xZ k1
  have:=xZ k2;simp only[lG,r7,List.length_append,List.length_cons,List.length_nil];omega
 have:=uj (n:=p.rules.length) (by omega);simp only[iD,r7,List.length_append,List.length_cons,List.length_nil];omega
theorem Hb {c:aD}(hr:aS c=true):mn c:=by
 have hc:=CR.of hr;have h1:=hc.sets;have h2:=hc.many;exact⟨λs hs=>by have:=eI (hc.set s hs);omega,by omega,by omega⟩
theorem qm {p:bM}(hr:bB p=true):jo p:=by
 obtain⟨h1,h3⟩:=eD hr;exact⟨by omega,λr Cl=>⟨Hb (h3 r Cl).1,Hb (h3 r Cl).2⟩⟩
theorem Xj {p:bM}(hr:bB p=true):Gc p:=by
 obtain⟨h1,h3⟩:=eD hr;have hc:∀c,aS c=true->rD c:=λc h s hs=>by have:=eI ((CR.of h).set s hs);omega
 exact λr Cl=>⟨hc _ (h3 r Cl).1,hc _ (h3 r Cl).2⟩
theorem BU {u k:Nat}(hu:u<4294967296)(hb:k<=32):IntKind.u8.wrap ((u:Int).fdiv (2 ^ min k IntKind.u32.bits))=(((bt (u / 2 ^ k % 256)).toNat:Nat):Int):=by
 have e:=yi (p:=u) (k:=k) (b:=(k:Int)) (kd:=.u32) (by omega) hb;rw[Int.toNat_natCast]at e;rw[e,fR,iJ (by omega)]
theorem aCr (p:bM)(hl:jo p)(D4:bB p=true->(iD p).length<9000000000000)(v:Value)(w:World)(hv:gb (λ_=>False) w v p) :
  ar Tryz.prog 48 [v] w λr w'=>r=(if bB p=true then .tuple #[str (iz p),.nilIface] else .tuple #[str [],.iface 74 (.int .i64 1)])/\Below w.heap.size w w':=by
 have pt:gb (λj=>w.heap.size<=j) w v p:=hv.narrow λb hb hh=>by omega
 obtain⟨rv,rfl,hr⟩:=pt;obtain⟨a,c,rfl,hc⟩:=hr.shape;have HQ:(iD p).length=1+(dw p.rules.length).length+(p.rules.flatMap lG).length:=by simp only[iD,r7,List.length_append,List.length_cons,List.length_nil]
 refine aE Tryz.func48 rfl (by kernel_rfl) [2,3] rfl ?_;push_cast -dsimp(maxSteps:=4000000) [Tryz.ntmps48];refine aR ?_;intro w1 aV;have il:cz (.agg #[.slice a p.rules.length c,.bool p.dD])=[.slice a p.rules.length c,.bool p.dD]:=rfl;rw[il]at aV;have ph:=aV.size;have d1:aB w1 ⟨w.heap.size,0,none⟩ 0 2=some [.slice a p.rules.length c,.bool p.dD]:=aV.aM.aB;push_cast -dsimp[d1];refine aA (j0 p hl (λ_=>False) _ w1 (hv.below aV.below)) ?_;rintro _ w2 ⟨rfl,dt⟩;have BV:=dt.size;have fx:=aV.below.trans (dt.mono (by omega));have Yo:aL w2 w.heap.size 71 [.slice a p.rules.length c,.bool p.dD]:=aV.aM.below dt (by omega);cases hpr:bB p with
 | false =>
  push_cast -dsimp;exact fx
 | true =>
  have D4:=D4 hpr;push_cast -dsimp;obtain⟨aTS,aJu⟩:=eD hpr;refine ba (λw'=>aL w' w.heap.size 71 [.slice a p.rules.length c,.bool p.dD]) mixed (by kernel_rfl) Yo.drew ?_;have f1:w2.drew.cell? ⟨w.heap.size,1,none⟩=some (.bool p.dD):=Yo.drew.cell rfl;push_cast -dsimp[f1];refine⟨λbE hC=>by rw[hC.cell (o:=1) rfl];exact rfl,?_⟩;refine aA (aCy w.heap.size p.dD [] (by simp) _ w2.drew (Vc.Own.nil (enc:=jH) _ _ (λ_=>rfl) _) fx.size) ?_;rintro v3 w3 ⟨mK,Ng⟩;have hP3:=Yo.drew.kept Ng.1 (by simp[Value.ownBlock]);have aIu:v3.ownBlock≠some w.heap.size:=Ng.apart (by show w.heap.size<w2.heap.size;omega) (by simp[Value.ownBlock])
  have Kf:w2.heap.size<=w3.heap.size:=Ng.1.size;have L5:Below w.heap.size w w3:=fx.drew.trans (Ng.below (Vc.Own.nil (enc:=jH) w.heap.size 5 (k:=1) (λ_=>rfl) w2.drew) fx.size);refine⟨hP3,?_⟩;have f3:w3.cell? ⟨w.heap.size,0,none⟩=some (.slice a p.rules.length c):=hP3.cell rfl;push_cast -dsimp[f3];refine⟨λbE hC=>by rw[hC.cell (o:=0) rfl];exact rfl,?_⟩;refine aA (qg w.heap.size p.rules.length _ (by omega) (by simp only[r7,List.nil_append,List.length_cons,List.length_nil];omega) v3 w3 mK (by omega)) ?_;rintro v4 w4 ⟨kQ,hg4⟩;have hP4:=hP3.kept hg4.1 aIu;have aS0:v4.ownBlock≠some w.heap.size:=hg4.apart (by omega) aIu;have KB:=hg4.1.size;have CV:Below w.heap.size w w4:=L5.trans (hg4.below mK (by omega));refine⟨hP4,?_⟩;have f4:w4.cell? ⟨w.heap.size,0,none⟩=some (.slice a p.rules.length c):=hP4.cell rfl;rw[List.nil_append]at kQ;push_cast -dsimp[f4];refine aK [4,6,22,23,24,25,26,27,28,29,30,31,32,33,34,35,36] (λz wx=>∃(i:Nat),z 22=.int .i64 i/\i<=p.rules.length/\Vc.Own w.heap.size 5 1 jH wx (z 4) (r7 p.dD++dw p.rules.length++(p.rules.take i).flatMap lG)/\Grow w4 wx v4 (z 4)) (λz _=>p.rules.length-(intOf (z 22)).toNat) ?_ ?_
  ·exact⟨0,rfl,Nat.zero_le _,(by simpa using kQ:Vc.Own w.heap.size 5 1 jH w4 v4 (r7 p.dD++dw p.rules.length++(p.rules.take 0).flatMap lG)),Grow.refl _ _⟩
  intro z wx hI;obtain⟨i,h22,hi,eG,oU⟩:=hI;have yS:=oU.1.size;have ns:Below w.heap.size w wx:=CV.trans (oU.below kQ (by omega));push_cast -dsimp[h22];refine⟨λaj=>?_,λeo=>?_⟩
  ·have hex:=ah (l:=p.rules) (i:=i) (by omega);obtain⟨r,hex⟩:=hex;have W0:=hex.1;have Cl:=hex.2.1;have Kb:=hex.2.2.2;have DX:=qJ (f:=lG) W0;have yE:=Sl.xw (oW.below hr ns) W0;obtain⟨b,o,cs,rfl,hX,hk,aU,s1,i1,s2,i2,rfl,Fz,uI⟩:=yE;have ce:aB wx ⟨b,o+i*5,none⟩ 0 5=some [.bool r.brk,s1,i1,s2,i2]:=ak [.bool r.brk,s1,i1,s2,i2] 0 (λj u hu=>by simpa using aU j u hu);push_cast -dsimp[ce];have Ka:(lG r).length=1+(kp r.before).length+(kp r.after).length:=by simp only[lG,r7,List.length_append,List.length_cons,List.length_nil]
   have hbl:(r7 p.dD).length=1:=by simp only[r7,List.length_cons,List.length_nil]
   have aS2:(r7 r.brk).length=1:=by simp only[r7,List.length_cons,List.length_nil]
   refine⟨⟨by omega,by omega⟩,?_⟩;refine ao (z:=[.bool false,.slice none 0 0,.slice none 0 0,.slice none 0 0,.slice none 0 0]) (by kernel_rfl) ?_;intro w5 cH;push_cast -dsimp;refine aH (n:=5) (by kernel_rfl) cH.aM rfl (by simp) (by
    obtain⟨_,_,e1,g1,g2⟩:=Fz;cases e1;obtain⟨_,_,rfl,_⟩:=g1.shape;obtain⟨_,_,rfl,_⟩:=g2.shape;obtain⟨_,_,e2,g3,g4⟩:=uI;cases e2;obtain⟨_,_,rfl,_⟩:=g3.shape;obtain⟨_,_,rfl,_⟩:=g4.shape;simp[Value.oneCell']) ?_
   intro w6 bQ;have Mq:=cH.size;have rI:aL w6 wx.heap.size 129 [.bool r.brk,s1,i1,s2,i2]:=bQ.aM;have hG6:Grow wx w6 (z 4) (z 4):=(Grow.still _ (Kept.new cH)).put bQ (Nat.le_refl _);have po:Vc.Own w.heap.size 5 1 jH w6 (z 4) _:=(eG.new cH).aJ bQ.kept (λg hg hh=>by have:=(eG.block g hg).2;omega);have sZ:(z 4).ownBlock≠some wx.heap.size:=λh=>by have:=(eG.block _ h).2;omega
   have hbX:∀g,(z 4).ownBlock=some g->w.heap.size<=g:=λg hg=>(eG.block g hg).1;push_cast -dsimp;have KC:=bQ.size;have aLK:Below w.heap.size wx w6:=hG6.below eG (by omega);refine ba (λw'=>aL w' wx.heap.size 129 [.bool r.brk,s1,i1,s2,i2]) mixed (by kernel_rfl) rI.drew ?_;have f0:w6.drew.cell? ⟨wx.heap.size,0,none⟩=some (.bool r.brk):=rI.drew.cell rfl;push_cast -dsimp[f0];refine⟨λbE hC=>by rw[hC.cell (o:=0) rfl];exact rfl,?_⟩;refine aA (aCy w.heap.size r.brk _ (by simp only[List.length_append];omega) (z 4) w6.drew (uq po (Kept.refl _ _).drew) (by show w.heap.size<=w6.heap.size;omega)) ?_
   rintro v7 w7 ⟨mL,vk⟩;have IM:=rI.drew.kept vk.1 sZ;have aAh:=vk.apart (by show wx.heap.size<w6.heap.size;omega) sZ
   have KD:w6.heap.size<=w7.heap.size:=vk.1.size;have aHU:Below w.heap.size wx w7:=aLK.drew.trans (vk.below (uq po (Kept.refl _ _).drew) (by show w.heap.size<=w6.heap.size;omega))
   refine⟨IM,?_⟩;have f1:aB w7 ⟨wx.heap.size,1,none⟩ 0 2=some [s1,i1]:=jr (n:=2) (xs:=[s1,i1]) IM 1 rfl rfl;push_cast -dsimp[f1];refine⟨λbE hC=>by rw[jr (n:=2) (xs:=[s1,i1]) hC 1 rfl rfl];exact rfl,?_⟩;refine aA (Ou w.heap.size r.before (aJu r Cl).1 _ (by simp only[List.length_append];omega) v7 _ w7 mL (by omega) (Fz.mono (λb hb aj=>aHU.block b (Classical.byContradiction λhh=>hb (by omega))) (λ_ h=>h))) ?_;rintro v8 w8 ⟨rK,DY⟩;have Yk:=IM.kept DY.1 aAh;have aMv:=DY.apart (by omega) aAh;have sz8:=DY.1.size;have aLL:Below w.heap.size wx w8:=aHU.trans (DY.below mL (by omega));refine⟨Yk,?_⟩;have f3:aB w8 ⟨wx.heap.size,3,none⟩ 0 2=some [s2,i2]:=jr (n:=2) (xs:=[s2,i2]) Yk 3 rfl rfl;push_cast -dsimp[f3];refine⟨λbE hC=>by rw[jr (n:=2) (xs:=[s2,i2]) hC 3 rfl rfl];exact rfl,?_⟩;refine aA (Ou w.heap.size r.after (aJu r Cl).2 _ (by simp only[List.length_append];omega) v8 _ w8 rK (by omega) (uI.mono (λb hb aj=>aLL.block b (Classical.byContradiction λhh=>hb (by omega))) (λ_ h=>h))) ?_;rintro v9 w9 ⟨yH,Yu⟩;refine⟨Yk.kept Yu.1 aMv,?_⟩;push_cast -dsimp;refine⟨⟨by omega,by omega⟩,⟨i+1,rfl,by omega,?_,oU.trans (hG6.trans ((Grow.still _ (Kept.refl _ _).drew).trans (vk.trans (DY.trans Yu))))⟩,by rw[h22];simp only[intOf];omega⟩;rw[rH Kb];simpa only[lG,List.append_assoc] using yH
  have Ni:p.rules.take i=p.rules:=List.take_of_length_le (by omega);rw[Ni]at eG;have eG:Vc.Own w.heap.size 5 1 jH wx (z 4) (iD p):=eG;obtain⟨a9,c9,h4⟩:=eG.slice;rw[h4]at eG;push_cast -dsimp[h4];refine aGa (e:=5) (by kernel_rfl) (by kernel_rfl) (by kernel_rfl) eG.sl ?_;push_cast -dsimp;refine aA (aDs (iD p) (by omega) wx) ?_;rintro _ w5 ⟨rfl,rfl⟩;push_cast -dsimp;have hu:=Ol (iD p);rw[<-h4]at eG;refine cG nT rfl rfl (by omega) ?_;intro w6 bQ;have Il:mg w5 w6 5 ((Gv (wJ (iD p))).flatMap jH):=by
   have e0:IntKind.u8.wrap ((wJ (iD p):Nat):Int)=(((bt (wJ (iD p) % 256)).toNat:Nat):Int):=by rw[fR,iJ (by omega)]
   rw[BU (k:=8) hu (by omega),BU (k:=16) hu (by omega),BU (k:=24) hu (by omega),e0]at bQ;exact bQ
  push_cast -dsimp;refine tf (base:=w.heap.size) (Gv (wJ (iD p))) nT eG Il rfl (by rw[Y1];omega) (by omega) ?_;intro v7 w7 mL vk;obtain⟨a8,c8,rfl⟩:=mL.slice;push_cast -dsimp;refine aGa (e:=5) (by kernel_rfl) (by kernel_rfl) (by kernel_rfl) mL.sl ?_;push_cast -dsimp;exact⟨rfl,ns.trans (vk.below eG (by omega))⟩
theorem Dy (bad:Bool):∀(s:List UInt8) (i n:Nat),i<=4->n<128 ^ i->(kH bad i n s).1<268435456
 | [],_,_,_,_=>by rw[kH];omega
 | c::r,i,n,hi,hn=>by
  rw[kH];split
  ·omega
  rename_i h4;have h5:i=0\/i=1\/i=2\/i=3:=by omega
  split
  ·rename_i hc;rcases h5 with rfl|rfl|rfl|rfl<;>simp only[Nat.reducePow]at hn ⊢<;>omega
  refine Dy bad r (i+1) _ (by omega) ?_;have hm:=Nat.mod_lt c.toNat (show 0<128 by omega)
  rcases h5 with rfl|rfl|rfl|rfl<;>simp only[Nat.reducePow,Nat.reduceAdd]at hn ⊢<;>omega
theorem Dx (bad:Bool):∀(s:List UInt8) (i n:Nat),(kH bad i n s).2.1.length<=s.length
 | [],_,_=>by rw[kH];simp
 | c::r,i,n=>by
  rw[kH];split
  ·simp
  split
  ·simp
  have:=Dx bad r (i+1) (n+c.toNat % 128*128 ^ i);simp only[List.length_cons];omega
theorem uv (x:St):(dB x).1<268435456:=Dy x.bad x.s 0 0 (by omega) (by omega)
theorem j2 (x:St):(dB x).2.s.length<=x.s.length:=Dx x.bad x.s 0 0
theorem rT (x:St):(cE x).1<=(cE x).2.s.length:=by
 unfold cE;split
 ·exact Nat.zero_le _
 omega
theorem rS (x:St):(cE x).1<268435456:=by
 have:=uv x;unfold cE;split
 ·show 0<_;omega
 omega
theorem oJ (x:St):(cE x).2.s.length<=x.s.length:=by
 have:=j2 x;unfold cE;split<;>exact this
theorem Av (x:St):(eF x).2.s.length<=x.s.length:=j2 x
theorem yd {n c i:Nat}(hi:i<4)(hn:n<128 ^ i)(hc:c<256) :
  cD .or .i64 (n:Int) (IntKind.i64.wrap (IntKind.i64.wrap (cD .and .u8 (c:Int) 127)*2 ^ min (7*(i:Int)).toNat IntKind.i64.bits))=((n+c % 128*128 ^ i:Nat):Int):=by
 have hm:=Nat.mod_lt c (show 0<128 by omega)
 have e1:cD .and .u8 (c:Int) 127=((c % 128:Nat):Int):=by
  rw[show (127:Int)=((2 ^ 7-1:Nat):Int) from rfl,qA (by omega) (by omega),lz]
 rw[e1,cU (by omega)];have h5:i=0\/i=1\/i=2\/i=3:=by omega
 rcases h5 with rfl|rfl|rfl|rfl
 ·rw[show min (7*((0:Nat):Int)).toNat IntKind.i64.bits=0 from rfl,show (((c % 128:Nat):Int)*2 ^ 0)=((c % 128:Nat):Int) by simp,cU (by omega),kA (by omega) (by omega)]
  have:n=0:=by simpa using hn
  subst this;simp
 all_goals
  simp only[Nat.reducePow]at hn ⊢
  first
  | (rw[show min (7*((1:Nat):Int)).toNat IntKind.i64.bits=7 from rfl,show (((c % 128:Nat):Int)*2 ^ 7)=((c % 128*2 ^ 7:Nat):Int) by simp,cU (by omega),kA (by omega) (by omega),Nat.or_comm,pG (by omega)];congr 1;omega)
  | (rw[show min (7*((2:Nat):Int)).toNat IntKind.i64.bits=14 from rfl,show (((c % 128:Nat):Int)*2 ^ 14)=((c % 128*2 ^ 14:Nat):Int) by simp,cU (by omega),kA (by omega) (by omega),Nat.or_comm,pG (by omega)];congr 1;omega)
  | (rw[show min (7*((3:Nat):Int)).toNat IntKind.i64.bits=21 from rfl,show (((c % 128:Nat):Int)*2 ^ 21)=((c % 128*2 ^ 21:Nat):Int) by simp,cU (by omega),kA (by omega) (by omega),Nat.or_comm,pG (by omega)];congr 1;omega)
theorem ur {a b c:World}{p:Nat}{e:TypeId}{xs ys:List Value}(h:yV a b p e xs)(k:yV b c p e ys):yV a c p e ys:=⟨k.aM,h.kept.trans k.kept (λ_ _ h=>h),k.size.trans h.size⟩
def Gg (w:World)(p:Nat)(x:St):Prop:=aL w p 172 [str x.s,.bool x.bad]
theorem tH (x:St)(p:Nat)(w:World)(hs:x.s.length<10000000000000)(hB:Gg w p x) :
  ar Tryz.prog 118 [.pointer (some ⟨p,0,none⟩)] w λr w'=>r=.int .i64 (dB x).1/\yV w w' p 172 [str (dB x).2.s,.bool (dB x).2.bad]:=by
 have oS:aL w p 172 [str x.s,.bool x.bad]:=hB;have c0:w.cell? ⟨p,0,none⟩=some (str x.s):=oS.cell rfl;have c1:w.cell? ⟨p,1,none⟩=some (.bool x.bad):=oS.cell rfl;refine aE Tryz.func118 rfl (by kernel_rfl) [2] rfl ?_;push_cast -dsimp(maxSteps:=4000000) [Tryz.ntmps118];push_cast -dsimp[c0];refine aK [2,3,4,5,12,13,14,15,16,17,18,19,20,21,22,23,24,25,26,27,28,29,30,31,32,33,34,35,36,37,38,39,40,41,42,43,44,45,46,47,48,49,50,51,52,53,54,55,56,57] (λz wx=>∃(i n:Nat),z 12=.int .i64 i/\z 3=.int .i64 n/\i<=x.s.length/\i<=4/\n<128 ^ i/\kH x.bad i n (x.s.drop i)=kH x.bad 0 0 x.s/\wx=w) (λz _=>x.s.length-(intOf (z 12)).toNat) ?_ ?_
 ·exact⟨0,0,rfl,rfl,Nat.zero_le _,by omega,by omega,rfl,rfl⟩
 intro z wx hI;obtain⟨i,n,CU,h3,hi,hi4,hn,hg,hw⟩:=hI;subst hw;push_cast -dsimp[CU,h3,c0];refine⟨λaj=>?_,λeo=>?_⟩
 ·have qO:i<x.s.length/\i<4:=by split at aj<;>omega
  obtain⟨c,hc,_,hd,_⟩:=ah (l:=x.s) (i:=i) qO.1;have TM:x.s.getD i 0=c:=by rw[List.getD_eq_getElem?_getD,hc];rfl
  have iQ:c.toNat<256:=c.toNat_lt;rw[TM];rw[hd,kH,if_neg (by omega)]at hg;refine⟨⟨by omega,by omega⟩,⟨by omega,by omega⟩,by omega,λFz=>?_,λFz=>?_⟩
  ·rw[if_pos (by omega)]at hg;have kE:∀w1,yV wx w1 p 172 [str x.s,.bool (x.bad || (decide (0<i) && decide (c.toNat=0)))]->∀w2,yV w1 w2 p 172 [str (x.s.drop (i+1)),.bool (x.bad || (decide (0<i) && decide (c.toNat=0)))] ->
     Value.int IntKind.i64 ((n+c.toNat % 128*128 ^ i:Nat):Int)=Value.int IntKind.i64 ((dB x).1:Int)/\yV wx w2 p 172 [str (dB x).2.s,.bool (dB x).2.bad]:=λw1 aV w2 bH=>by
    have e:dB x=(n+c.toNat % 128*128 ^ i,⟨x.s.drop (i+1),x.bad || (decide (0<i) && decide (c.toNat=0))⟩):=by
     rw[Nat.mod_eq_of_lt (show c.toNat<128 by omega)]
     unfold dB;rw[<-hg]
    rw[e];exact⟨rfl,ur aV bH⟩
   have WK:∀(bd:Bool),bd=(x.bad || (decide (0<i) && decide (c.toNat=0)))->∀w1,yV wx w1 p 172 [str x.s,.bool bd]->∀w2,yV w1 w2 p 172 [str (x.s.drop (i+1)),.bool bd] ->
     Value.int IntKind.i64 ((n+c.toNat % 128*128 ^ i:Nat):Int)=Value.int IntKind.i64 ((dB x).1:Int)/\yV wx w2 p 172 [str (dB x).2.s,.bool (dB x).2.bad]:=λbd pd=>by subst pd;exact kE
   cases uE:x.bad with
   | true =>
    rw[uE]at c1 oS;push_cast -dsimp[c1];refine aC oS (by simp) rfl ?_;intro w1 aV;have d0:w1.cell? ⟨p,0,none⟩=some (str x.s):=aV.aM.cell rfl;push_cast -dsimp[d0];refine⟨⟨by omega,by omega⟩,⟨by omega,by omega⟩,?_⟩;refine aC aV.aM (by simp) rfl ?_;intro w2 bH;push_cast -dsimp;rw[yd qO.2 hn iQ];refine WK true (by rw[uE];rfl) w1 aV w2 ?_;have e:((i:Int)+1).toNat=i+1:=by omega
    rw[e]at bH;exact bH
   | false =>
    rw[uE]at c1 oS;push_cast -dsimp[c1];have e:((i:Int)+1).toNat=i+1:=by omega
    refine⟨λhi0=>?_,λhi0=>?_⟩
    ·refine aC oS (by simp) rfl ?_;intro w1 aV;have d0:w1.cell? ⟨p,0,none⟩=some (str x.s):=aV.aM.cell rfl;push_cast -dsimp[d0];refine⟨⟨by omega,by omega⟩,⟨by omega,by omega⟩,?_⟩;refine aC aV.aM (by simp) rfl ?_;intro w2 bH;push_cast -dsimp;rw[yd qO.2 hn iQ];refine WK _ ?_ w1 aV w2 (by rw[e]at bH;exact bH);rw[uE,decide_eq_true (show 0<i by omega),Bool.true_and,Bool.false_or,decide_eq_decide]
     omega
    refine aC oS (by simp) rfl ?_;intro w1 aV;have d0:w1.cell? ⟨p,0,none⟩=some (str x.s):=aV.aM.cell rfl;push_cast -dsimp[d0];refine⟨⟨by omega,by omega⟩,⟨by omega,by omega⟩,?_⟩;refine aC aV.aM (by simp) rfl ?_;intro w2 bH;push_cast -dsimp;rw[yd qO.2 hn iQ];refine WK _ ?_ w1 aV w2 (by rw[e]at bH;exact bH);rw[uE,decide_eq_false (show ¬0<i by omega),Bool.false_and,Bool.false_or]
  refine⟨⟨by omega,by omega⟩,⟨i+1,_,rfl,congrArg _ (yd qO.2 hn iQ),by omega,by omega,?_,?_⟩,by simp only[intOf];omega⟩
  ·have hm:=Nat.mod_lt c.toNat (show 0<128 by omega)
   have h5:i=0\/i=1\/i=2\/i=3:=by omega
   clear hg TM hd hc CU;rcases h5 with rfl|rfl|rfl|rfl<;>simp only[Nat.reducePow,Nat.reduceAdd]at hn ⊢<;>omega
  rw[if_neg (by omega)]at hg;exact hg
 refine aC oS (by simp) rfl ?_;intro w1 aV;push_cast -dsimp;refine aC aV.aM (by simp) rfl ?_;intro w2 bH;push_cast -dsimp;have e:dB x=(0,⟨[],true⟩):=by
  unfold dB;rw[<-hg];cases Ys:x.s.drop i with
  | nil=>rfl
  | cons c r =>
   have hle:i=4:=by
    have hl:=congrArg List.length Ys;simp only[List.length_drop,List.length_cons]at hl;split at eo<;>omega
   rw[kH,if_pos (by omega)]
 rw[e];exact⟨rfl,ur aV bH⟩
theorem ye (x:St)(p:Nat)(w:World)(hs:x.s.length<10000000000000)(hB:Gg w p x) :
  ar Tryz.prog 80 [.pointer (some ⟨p,0,none⟩)] w λr w'=>r=.int .i64 (cE x).1/\yV w w' p 172 [str (cE x).2.s,.bool (cE x).2.bad]:=by
 have hv:=uv x;have hl:=j2 x;refine aE Tryz.func80 rfl (by kernel_rfl) [2] rfl ?_;push_cast -dsimp(maxSteps:=4000000) [Tryz.ntmps80];refine aA (tH x p w hs hB) ?_;rintro _ w1 ⟨rfl,aV⟩;have c0:w1.cell? ⟨p,0,none⟩=some (str (dB x).2.s):=aV.aM.cell rfl;push_cast -dsimp[c0];refine⟨λh=>?_,λh=>?_⟩
 ·refine aC aV.aM (by simp) rfl ?_;intro w2 bH;push_cast -dsimp;unfold cE;rw[if_pos (by omega)];exact⟨rfl,ur aV bH⟩
 unfold cE;rw[if_neg (by omega)];exact⟨rfl,aV⟩
theorem Xs (x:St)(p:Nat)(w:World)(hs:x.s.length<10000000000000)(hB:Gg w p x) :
  ar Tryz.prog 79 [.pointer (some ⟨p,0,none⟩)] w λr w'=>r=.bool (eF x).1/\yV w w' p 172 [str (eF x).2.s,.bool (eF x).2.bad]:=by
 have hv:=uv x;refine aE Tryz.func79 rfl (by kernel_rfl) [2] rfl ?_;push_cast -dsimp(maxSteps:=4000000) [Tryz.ntmps79];refine aA (tH x p w hs hB) ?_;rintro _ w1 ⟨rfl,aV⟩;have c1:w1.cell? ⟨p,1,none⟩=some (.bool (dB x).2.bad):=aV.aM.cell rfl;have e:decide (((dB x).1:Int)=1)=(eF x).1:=by
  show _=decide ((dB x).1=1)
  rw[decide_eq_decide];omega
 have kE:∀bd w2,bd=(eF x).2.bad->yV w1 w2 p 172 [str (dB x).2.s,.bool bd]->Value.bool (decide (((dB x).1:Int)=1))=Value.bool (eF x).1/\yV w w2 p 172 [str (eF x).2.s,.bool (eF x).2.bad]:=λbd w2 pd bH=>by
  subst pd;exact⟨congrArg _ e,ur aV bH⟩
 have eb:(eF x).2.bad=((dB x).2.bad || decide (1<(dB x).1)):=rfl;cases uE:(dB x).2.bad with
 | true =>
  rw[uE]at c1;push_cast -dsimp[c1];refine aC aV.aM (by simp) rfl ?_;intro w2 bH;push_cast -dsimp;exact kE _ w2 (by rw[eb,uE,Bool.true_or]) bH
 | false =>
  rw[uE]at c1;push_cast -dsimp[c1];refine aC aV.aM (by simp) rfl ?_;intro w2 bH;push_cast -dsimp;refine kE _ w2 ?_ bH;rw[eb,uE,Bool.false_or,decide_eq_decide];omega
def Oz {α:Type}(f:St->α×St):Prop:=∀x,(f x).2.s.length<=x.s.length
theorem vD:Oz dB:=j2
theorem BR:Oz cE:=oJ
theorem vC {α:Type}{f:St->α×St}(hf:Oz f):∀n,Oz (eV f n)
 | 0,x=>Nat.le_refl _
 | n+1,x=>Nat.le_trans (vC hf n _) (hf x)
theorem EJ:Oz jk:=λx=>Nat.le_trans (vD _) (vD x)
theorem Gt:Oz nZ:=λx=>Nat.le_trans (vC EJ _ _) (BR x)
theorem YT:Oz jE:=λx=>Nat.le_trans (vC Gt _ _) (BR x)
theorem Og:Oz tG:=λx=>Nat.le_trans (vD _) (Nat.le_trans (vD _) (vD x))
theorem YS:Oz Du:=λx=>Nat.le_trans (vC Og _ _) (BR x)
theorem vB:Oz gp:=λx=>Nat.le_trans (YS _) (YT x)
theorem pL {α:Type}{f:St->α×St}{n i:Nat}{y:St}{acc all:List α}{z:St}(hi:i<n)(h1:acc++(eV f (n-i) y).1=all)(h2:(eV f (n-i) y).2=z) :
  (acc++[(f y).1])++(eV f (n-(i+1)) (f y).2).1=all/\(eV f (n-(i+1)) (f y).2).2=z:=by
 rw[show n-i=(n-(i+1))+1 by omega]at h1 h2
 simp only[eV]at h1 h2;exact⟨by rw[<-h1];simp,h2⟩
theorem pK {α:Type}{f:St->α×St}{n i:Nat}{y:St}{acc all:List α}{z:St}(hi:n<=i)(h1:acc++(eV f (n-i) y).1=all)(h2:(eV f (n-i) y).2=z):acc=all/\y=z:=by
 rw[show n-i=0 by omega]at h1 h2
 simp only[eV,List.append_nil]at h1 h2;exact⟨h1,h2⟩
theorem O4 (x:St)(p:Nat)(w:World)(hs:x.s.length<10000000000000)(hB:Gg w p x) :
  ar Tryz.prog 81 [.pointer (some ⟨p,0,none⟩)] w λr w'=>cL (λj=>j<w.heap.size) w' r (gp x).1/\Gg w' p (gp x).2/\Kept (·=p) w w':=by
 have HQ:p<w.heap.size:=aL.lt (e:=172) (cs:=[str x.s,.bool x.bad]) hB;refine gh Tryz.func81 rfl (by kernel_rfl) [.cell 2 127] rfl ?_;push_cast -dsimp(maxSteps:=4000000) [Tryz.ntmps81];refine ao (z:=[.slice none 0 0,.slice none 0 0]) (by kernel_rfl) ?_;intro w1 aV;have oT:Gg w1 p x:=aL.kept (e:=172) hB (Kept.new aV (X:=λ_=>False)) id;push_cast -dsimp;refine aA (ye x p w1 hs oT) ?_;rintro _ w2 ⟨rfl,bH⟩;have ph:=aV.size;have BV:=bH.size;have uI:aL w2 w.heap.size 127 [.slice none 0 0,.slice none 0 0]:=aV.aM.kept bH.kept (by show ¬w.heap.size=p;omega)
 have jI:Kept (·=p) w w2:=(Kept.new aV).trans bH.kept (λ_ _ h=>h);have hmv:=rT x;have hmf:=rS x;have hml:=oJ x;push_cast -dsimp;refine aK [3,6,7,8,9,10,11,12,13,14,15,16,17,18,19,20,21,22,23,24,25,26,27] (λz wx=>∃(i:Nat) (y:St) (sets:List (List Rg)) (Y2:List SV) (sv:SV),
  z 6=.int .i64 i/\i<=(cE x).1/\y.s.length<=x.s.length/\sets++(eV nZ ((cE x).1-i) y).1=(jE x).1/\(eV nZ ((cE x).1-i) y).2=(jE x).2 /\
  Gg wx p y/\aL wx w.heap.size 127 [sv.v,.slice none 0 0]/\Vc.Own w1.heap.size 139 1 j9 wx sv.v Y2/\Y2.length=sets.length/\sets.length=i /\
  (∀(j:Nat) (s:List Rg),sets[j]?=some s->∃u,Y2[j]?=some u/\Sl (λj=>j<w1.heap.size\/sv.v.ownBlock=some j) 2 (En ay) wx u.v s)/\Kept (·=p) w wx/\w1.heap.size<=wx.heap.size) (λz _=>(cE x).1-(intOf (z 6)).toNat) ?_ ?_
 ·exact⟨0,(cE x).2,[],[],⟨none,0,0⟩,rfl,Nat.zero_le _,hml,rfl,rfl,bH.aM,uI,Vc.Own.nil (enc:=j9) _ _ (λ_=>rfl) _,rfl,rfl,by simp,jI,by omega⟩
 intro z wx hI;obtain⟨i,y,sets,Y2,sv,h6,hi,hy,vM,uO,ns,hcx,eG,hlen,oh,yZ,hkx,aOi⟩:=hI;push_cast -dsimp[h6];refine⟨λaj=>?_,λeo=>?_⟩
 ·refine aA (ye y p wx (by omega) ns) ?_;rintro _ wa ⟨rfl,fu⟩;have T0:=fu.size;have hya:=oJ y;have hyv:=rT y;have hyf:=rS y;push_cast -dsimp;refine aK [3,10,11,12,13,14,15,16,17,18,19,20] (λz' wy=>∃(j:Nat) (y2:St) (rs:List Rg),z' 10=.int .i64 j/\j<=(cE y).1/\y2.s.length<=x.s.length/\rs++(eV jk ((cE y).1-j) y2).1=(nZ y).1/\(eV jk ((cE y).1-j) y2).2=(nZ y).2 /\
   Gg wy p y2/\Vc.Own wa.heap.size 208 2 ay wy (z' 3) rs/\rs.length=j/\Kept (·=p) wa wy) (λz' _=>(cE y).1-(intOf (z' 10)).toNat) ?_ ?_
  ·exact⟨0,(cE y).2,[],rfl,Nat.zero_le _,by omega,rfl,rfl,fu.aM,Vc.Own.nil (enc:=ay) _ _ (λ_=>rfl) _,rfl,Kept.refl _ _⟩
  intro z' wy hI;obtain⟨j,y2,rs,K1,hj,hy2,Lp,hq2,Yl,si,Ka,hky⟩:=hI;have szy:=hky.size;push_cast -dsimp[K1];refine⟨λIe=>?_,λLj=>?_⟩
  ·refine aA (tH y2 p wy (by omega) Yl) ?_;rintro _ wb ⟨rfl,dE⟩;have Ms:=dE.size;have hlb:=j2 y2;push_cast -dsimp;refine aA (tH (dB y2).2 p wb (by omega) dE.aM) ?_;rintro _ wc ⟨rfl,jV⟩;have ZA:=jV.size;have TQ:=j2 (dB y2).2;push_cast -dsimp;refine cG fI rfl rfl (by omega) ?_;intro wd iT;have ZB:=iT.size;push_cast -dsimp;have Qo:∀g,(z' 3).ownBlock=some g->¬g=p:=λg hg h=>by have:=(si.block g hg).1;omega
   have hod:=((si.aJ dE.kept Qo).aJ jV.kept Qo).new iT;refine aW (base:=wa.heap.size) [((dB y2).1,(dB (dB y2).2).1)] (enc:=ay) fI hod rfl (λj u hu=>by simpa using iT.cell hu) iL (by simp only[List.length_cons,List.length_nil];omega) (by omega) ?_;intro v' we yI eo cW;have eQ:Kept (λk=>(z' 3).ownBlock=some k) wd we:=Kept.grown eo (λ_ h=>h);have hBe:Gg we p (jk y2).2:=(jV.aM.kept (Kept.new iT (X:=λ_=>False)) id).kept eQ (λh=>Qo p h rfl);push_cast -dsimp;have cI:=pL (f:=jk) (i:=j) (by omega) Lp hq2;refine⟨⟨by omega,by omega⟩,⟨j+1,(jk y2).2,rs++[(jk y2).1],rfl,by omega,?_,cI.1,cI.2,hBe,yI,by simp[Ka],?_⟩,by rw[K1];simp only[intOf];omega⟩
   ·have:=EJ y2;omega
   refine(hky.trans (dE.kept.trans jV.kept (λ_ _ h=>h)) (λ_ _ h=>h)).trans ((Kept.new iT (X:=λk=>(z' 3).ownBlock=some k)).trans eQ (λ_ _ h=>h)) (λk hk h=>?_)
   have:=(si.block k h).1;omega
  have ja:=pK (f:=jk) (i:=j) (by omega) Lp hq2;have jU:=ja.1;have aOy:=ja.2;subst jU;subst aOy;have fa:=si.slice;obtain⟨sa,sc,Iq⟩:=fa;rw[Iq]at si;have aAv:Kept (·=p) wx wy:=fu.kept.trans hky (λ_ _ h=>h);have Nc:aL wy w.heap.size 127 [sv.v,.slice none 0 0]:=hcx.kept aAv (by show ¬w.heap.size=p;omega)
  have cy0:wy.cell? ⟨w.heap.size,0,none⟩=some sv.v:=Nc.cell rfl;have Qo:∀g,sv.v.ownBlock=some g->¬g=p:=λg hg h=>by have:=(eG.block g hg).1;omega
  have aNV:=eG.aJ aAv Qo;push_cast -dsimp[Iq,cy0];refine cG nA rfl rfl (by omega) ?_;intro wd iT;have ZB:=iT.size;have szy:=hky.size;push_cast -dsimp;have aM3:∀(j:Nat) (s:List Rg),sets[j]?=some s->∃u,Y2[j]?=some u/\Sl (λj=>j<w1.heap.size\/sv.v.ownBlock=some j) 2 (En ay) wy u.v s:=λj s hj=>by
   obtain⟨u,h1,h2⟩:=yZ j s hj;exact⟨u,h1,Sl.kept h2 aAv (λk hk=>.inl (by subst hk;omega))⟩
  have Qk:Sl (λj=>j<w1.heap.size\/sv.v.ownBlock=some j) 2 (En ay) wy (SV.v ⟨sa,(nZ y).1.length,sc⟩) (nZ y).1:=Sl.narrow si.sl (by omega) (λ_ _ h=>h) (λb _ hb=>by
   rcases hb with hb|hb
   ·omega
   have:=(eG.block b hb).2;omega)
  have aEO:=sR (Pr:=λ_ (u:SV) s=>Sl (λj=>j<w1.heap.size\/sv.v.ownBlock=some j) 2 (En ay) wy u.v s) hlen aM3 Qk;refine aW (base:=w1.heap.size) [(⟨sa,(nZ y).1.length,sc⟩:SV)] (enc:=j9) nA (aNV.new iT) rfl (λj u hu=>by simpa using iT.cell hu) vX (by simp only[List.length_cons,List.length_nil];omega) (by omega) ?_;intro v' we yI I4 cW;have eQ:Kept (λk=>sv.v.ownBlock=some k) wd we:=Kept.grown I4 (λ_ h=>h);have Lq:=yI.slice;obtain⟨a',c',rfl⟩:=Lq;have hBe:Gg we p (nZ y).2:=(aL.kept (e:=172) Yl (Kept.new iT (X:=λ_=>False)) id).kept eQ (λh=>Qo p h rfl);have rh:∀g,sv.v.ownBlock=some g->¬g=w.heap.size:=λg hg h=>by have:=(eG.block g hg).1;omega
  have hce:aL we w.heap.size 127 [sv.v,.slice none 0 0]:=(Nc.kept (Kept.new iT (X:=λ_=>False)) id).kept eQ (λh=>rh _ h rfl);push_cast -dsimp;refine aC hce (by simp) rfl ?_;intro wf iG;have hnt:∀g,(Value.slice a' (Y2++[(⟨sa,(nZ y).1.length,sc⟩:SV)]).length c').ownBlock=some g->¬g=w.heap.size:=λg hg h=>by
   rcases cW g hg with h'|h'
   ·exact rh g h' h
   omega
  push_cast -dsimp;have cI:=pL (f:=nZ) (i:=i) (by omega) vM uO;have szf:=iG.size;have Kg:=eQ.size;refine⟨⟨by omega,by omega⟩,⟨i+1,(nZ y).2,sets++[(nZ y).1],Y2++[(⟨sa,(nZ y).1.length,sc⟩:SV)],⟨a',(Y2++[(⟨sa,(nZ y).1.length,sc⟩:SV)]).length,c'⟩,rfl,by omega,?_,cI.1,cI.2,aL.kept (e:=172) hBe iG.kept (by omega),iG.aM,yI.aJ iG.kept hnt,by simp[hlen],by simp[oh],?_,?_,by omega⟩,by rw[h6];simp only[intOf];omega⟩
  ·have:=Gt y;omega
  ·intro j s hj;obtain⟨u,h1,h2⟩:=aEO j s hj;refine⟨u,h1,?_⟩;have h3:Sl (λj=>(j<w1.heap.size\/sv.v.ownBlock=some j)\/(Value.slice a' (Y2++[(⟨sa,(nZ y).1.length,sc⟩:SV)]).length c').ownBlock=some j) 2 (En ay) wd u.v s :=
    Sl.narrow (Sl.kept h2 (Kept.new iT (X:=λ_=>False)) (λ_ h=>h.elim)) (by omega) (λ_ _ h=>h) (λb hb hh=>by
     rcases hh with hh|hh
     ·exact hh
     rcases cW b hh with h'|h'
     ·exact .inr h'
     omega)
   have h4:=Sl.kept h3 eQ (λk hk=>.inl (.inr hk));have h5:=Sl.kept h4 iG.kept (λk hk=>.inl (.inl (by omega)));exact h5.weaken (λb hb=>by
    rcases hb with hb|hb
    ·exact .inl (.inl hb)
    exact .inr hb)
  have h1:Kept (λk=>w.heap.size<=k) wy wd:=Kept.new iT;have h2:Kept (λk=>w.heap.size<=k) wd we:=eQ.weaken (λk _ h=>by have:=(eG.block k h).1;omega);have h3:Kept (λk=>w.heap.size<=k) we wf:=iG.kept.weaken (λk _ h=>by omega);exact(hkx.trans aAv (λ_ _ h=>h)).trans ((h1.trans h2 (λ_ _ h=>h)).trans h3 (λ_ _ h=>h)) (λk hk h=>by omega)
 have ja:=pK (f:=nZ) (i:=i) (by omega) vM uO;have jU:=ja.1;have hye:=ja.2;subst jU;subst hye;refine aA (ye (jE x).2 p wx (by omega) ns) ?_;rintro _ wb ⟨rfl,dE⟩;have Ms:=dE.size;have aTG:=rT (jE x).2;have aTE:=oJ (jE x).2;have aTD:=rS (jE x).2;have hcb:aL wb w.heap.size 127 [sv.v,.slice none 0 0]:=hcx.kept dE.kept (by show ¬w.heap.size=p;omega)
 have Qo:∀g,sv.v.ownBlock=some g->¬g=p:=λg hg h=>by have:=(eG.block g hg).1;omega
 have fS:=eG.aJ dE.kept Qo;have aM1:∀(j:Nat) (s:List Rg),(jE x).1[j]?=some s->∃u,Y2[j]?=some u/\Sl (λj=>j<w1.heap.size\/sv.v.ownBlock=some j) 2 (En ay) wb u.v s:=λj s hj=>by
  obtain⟨u,h1,h2⟩:=yZ j s hj;exact⟨u,h1,Sl.kept h2 dE.kept (λk hk=>.inl (by subst hk;omega))⟩
 push_cast -dsimp;refine aK [30,31,32,33,34,35,36,37,38,39,40,41,42,43,44] (λz' wy=>∃(i:Nat) (y2:St) (ins:List I3) (iv:SV),z' 30=.int .i64 i/\i<=(cE (jE x).2).1/\y2.s.length<=x.s.length/\ins++(eV tG ((cE (jE x).2).1-i) y2).1=(Du (jE x).2).1/\(eV tG ((cE (jE x).2).1-i) y2).2=(Du (jE x).2).2 /\
  Gg wy p y2/\aL wy w.heap.size 127 [sv.v,iv.v]/\Vc.Own wb.heap.size 164 3 bN wy iv.v ins/\ins.length=i/\Kept (λj=>j=p\/j=w.heap.size) wb wy) (λz' _=>(cE (jE x).2).1-(intOf (z' 30)).toNat) ?_ ?_
 ·exact⟨0,(cE (jE x).2).2,[],⟨none,0,0⟩,rfl,Nat.zero_le _,by omega,rfl,rfl,dE.aM,hcb,Vc.Own.nil (enc:=bN) _ _ (λ_=>rfl) _,rfl,Kept.refl _ _⟩
 intro z' wy hI;obtain⟨i,y2,ins,iv,h30,Ni,hy2,Lp,hq2,Yl,Nc,si,I6,hky⟩:=hI;have szy:=hky.size;push_cast -dsimp[h30];refine⟨λIe=>?_,λLj=>?_⟩
 ·refine dU (λw'=>aL w' w.heap.size 127 [sv.v,iv.v]) mixed (by kernel_rfl) (List.cons_ne_nil _ _) Nc.drew ?_;have f1:wy.drew.cell? ⟨w.heap.size,1,none⟩=some iv.v:=Nc.drew.cell rfl;push_cast -dsimp[f1];refine⟨λbE hC=>by rw[hC.cell (o:=1) rfl];exact rfl,?_⟩;refine aA (tH y2 p wy.drew (by omega) Yl) ?_;rintro _ w3 ⟨rfl,cM⟩;have Kf:w3.heap.size=wy.heap.size:=cM.size;have Nn:=j2 y2;have hc3:=Nc.drew.kept cM.kept (by show ¬w.heap.size=p;omega)
  refine⟨hc3,?_⟩;push_cast -dsimp;refine aA (tH (dB y2).2 p w3 (by omega) cM.aM) ?_;rintro _ w4 ⟨rfl,ae⟩;have KB:=ae.size;have CE:=j2 (dB y2).2;have Qa:=hc3.kept ae.kept (by show ¬w.heap.size=p;omega)
  refine⟨Qa,?_⟩;push_cast -dsimp;refine aA (tH (dB (dB y2).2).2 p w4 (by omega) ae.aM) ?_;rintro _ w5 ⟨rfl,cH⟩;have Mq:=cH.size;have hl5:=j2 (dB (dB y2).2).2;have Qb:=Qa.kept cH.kept (by show ¬w.heap.size=p;omega)
  refine⟨Qb,?_⟩;push_cast -dsimp;refine cG ee rfl rfl (by omega) ?_;intro w6 bQ;have KC:=bQ.size;have hc6:=Qb.kept (Kept.new bQ (X:=λ_=>False)) id;refine⟨hc6,?_⟩;push_cast -dsimp;have hip:∀g,iv.v.ownBlock=some g->¬g=p:=λg hg h=>by have:=(si.block g hg).1;omega
  have hit:∀g,iv.v.ownBlock=some g->¬g=w.heap.size:=λg hg h=>by have:=(si.block g hg).1;omega
  have kd:Kept (·=p) wy wy.drew:=(Kept.refl _ _).drew;have po:=((((si.aJ kd hip).aJ cM.kept hip).aJ ae.kept hip).aJ cH.kept hip).new bQ;refine aW (base:=wb.heap.size) [(tG y2).1] (enc:=bN) ee po rfl (λj u hu=>by simpa using bQ.cell hu) jA (by simp only[List.length_cons,List.length_nil];omega) (by omega) ?_;intro v' w7 mL I4 cW;have pk:Kept (λk=>iv.v.ownBlock=some k) w6 w7:=Kept.grown I4 (λ_ h=>h);have Lq:=mL.slice;obtain⟨a',c',rfl⟩:=Lq;have IM:Gg w7 p (tG y2).2:=(cH.aM.kept (Kept.new bQ (X:=λ_=>False)) id).kept pk (λh=>hip p h rfl);have hc7:=hc6.kept pk (λh=>hit _ h rfl);refine⟨hc7,?_⟩;push_cast -dsimp;refine aC hc7 (by simp) rfl ?_;intro w8 nf;refine⟨trivial,?_⟩;push_cast -dsimp;have KD:=pk.size;have sz8:=nf.size;have cI:=pL (f:=tG) (i:=i) (by omega) Lp hq2;refine⟨⟨by omega,by omega⟩,⟨i+1,(tG y2).2,ins++[(tG y2).1],⟨a',(ins++[(tG y2).1]).length,c'⟩,rfl,by omega,?_,cI.1,cI.2,aL.kept (e:=172) IM nf.kept (by omega),nf.aM,mL.aJ nf.kept (λg hg h=>?_),by simp[I6],?_⟩,by rw[h30];simp only[intOf];omega⟩
  ·have:=Og y2;omega
  ·rcases cW g hg with h'|h'
   ·exact hit g h' h
   omega
  have k1:Kept (λj=>j=p\/j=w.heap.size\/wb.heap.size<=j) wy w5:=(kd.trans (cM.kept.trans (ae.kept.trans cH.kept (λ_ _ h=>h)) (λ_ _ h=>h)) (λ_ _ h=>h)).weaken (λ_ _ h=>.inl h);have k2:Kept (λj=>j=p\/j=w.heap.size\/wb.heap.size<=j) w5 w6:=Kept.new bQ;have k3:Kept (λj=>j=p\/j=w.heap.size\/wb.heap.size<=j) w6 w7:=pk.weaken (λk _ h=>.inr (.inr (si.block k h).1));have k4:Kept (λj=>j=p\/j=w.heap.size\/wb.heap.size<=j) w7 w8:=nf.kept.weaken (λk _ h=>.inr (.inl h));exact hky.trans ((k1.trans k2 (λ_ _ h=>h)).trans (k3.trans k4 (λ_ _ h=>h)) (λ_ _ h=>h)) (λk hk h=>by omega)
 have ja:=pK (f:=tG) (i:=i) (by omega) Lp hq2;have jU:=ja.1;have hye:=ja.2;subst jU;subst hye;have cc:aB wy ⟨w.heap.size,0,none⟩ 0 2=some [sv.v,iv.v]:=Nc.aB;push_cast -dsimp[cc];refine aH (n:=2) (by kernel_rfl) Nc rfl (by simp) (by simp[SV.v,Value.oneCell']) ?_;intro w9 Cn;have c9:aB w9 ⟨w.heap.size,0,none⟩ 0 2=some [sv.v,iv.v]:=Cn.aM.aB;push_cast -dsimp[c9];have sz9:=Cn.size;have kb:Kept (λj=>j=p\/j=w.heap.size) wb w9:=hky.trans Cn.kept (λ_ _ h=>.inr h);have hXk:∀j,(j=p\/j=w.heap.size)->j<w1.heap.size\/sv.v.ownBlock=some j:=λj h=>.inl (by omega);refine⟨⟨sv.v,iv.v,rfl,?_,?_⟩,aL.kept (e:=172) Yl Cn.kept (by omega),?_⟩
 ·have hos:Vc.Own w1.heap.size 139 1 j9 w9 sv.v Y2:=fS.aJ kb (λg hg h=>by
   have:=(eG.block g hg).1;omega)
  refine Sl.narrow (um (R:=Ko (λj=>j<w1.heap.size) w9) hos hlen (λj s hj=>?_)) (by omega) (λcs s h=>?_) (λb _ hb=>by omega)
  ·obtain⟨u,h1,h2⟩:=aM1 j s hj;exact⟨u,h1,u.v,rfl,(Sl.kept h2 kb hXk).weaken (λb hb=>.inl hb)⟩
  obtain⟨u,rfl,h⟩:=h;exact⟨u,rfl,h.weaken (λb hb=>by omega)⟩
 ·have hoi:=si.aJ Cn.kept (λg hg h=>by have:=(si.block g hg).1;omega);exact hoi.sl.weaken (λb hb=>by omega)
 exact(hkx.trans dE.kept (λ_ _ h=>h)).trans kb (λk hk h=>by omega)
theorem wD {α:Type}{f:St->α×St}(hf:Oz f):∀(n:Nat) (x:St) (v:α),v∈(eV f n x).1->∃y:St,y.s.length<=x.s.length/\v=(f y).1
 | 0,x,v,h=>by simp[eV]at h
 | n+1,x,v,h=>by
  simp only[eV,List.mem_cons]at h;rcases h with h|h
  ·exact⟨x,Nat.le_refl _,h⟩
  obtain⟨y,h1,h2⟩:=wD hf n _ v h;exact⟨y,Nat.le_trans h1 (hf x),h2⟩
theorem u9 {α:Type}{f:St->α×St}(x:St):(eV f (cE x).1 (cE x).2).1.length<1000000000:=by
 rw[Dw]
 have:=uv x;unfold cE;split
 ·show 0<_;omega
 omega
theorem Ax (x:St):mn (gp x).1:=by
 refine⟨λs hs=>?_,u9 (f:=tG) (jE x).2,u9 (f:=nZ) x⟩;obtain⟨y,hy,rfl⟩:=wD Gt _ _ s hs;exact u9 (f:=jk) y
theorem aBV:Oz eF:=Av
theorem Jn:Oz lH:=λx=>by
 have h1:=aBV x;have h2:=vB (eF x).2;have h3:=vB (gp (eF x).2).2;unfold lH;generalize eF x=y at h1 h2 h3 ⊢
 generalize gp y.2=y2 at h2 h3 ⊢
 exact Nat.le_trans h3 (Nat.le_trans h2 h1)
theorem Md (x:St):jo (gL x).1:=by
 refine⟨u9 (f:=lH) (eF x).2,λr hr=>?_⟩;obtain⟨y,hy,rfl⟩:=wD Jn _ _ r hr;exact⟨Ax _,Ax _⟩
theorem aON {a b c d:Nat}(ha:a<256)(hb:b<256)(hc:c<256)(hd:d<256) :
  cD .or .u32 (cD .or .u32 (cD .or .u32 (a:Int) (IntKind.u32.wrap ((b:Int)*2 ^ min 8 IntKind.u32.bits))) (IntKind.u32.wrap ((c:Int)*2 ^ min 16 IntKind.u32.bits))) (IntKind.u32.wrap ((d:Int)*2 ^ min 24 IntKind.u32.bits))=((a+b*256+c*65536+d*16777216:Nat):Int):=by
 rw[show ((b:Int)*2 ^ min 8 IntKind.u32.bits)=((b*2 ^ 8:Nat):Int) by rw[show min 8 IntKind.u32.bits=8 from rfl];simp,
  show ((c:Int)*2 ^ min 16 IntKind.u32.bits)=((c*2 ^ 16:Nat):Int) by rw[show min 16 IntKind.u32.bits=16 from rfl];simp,
  show ((d:Int)*2 ^ min 24 IntKind.u32.bits)=((d*2 ^ 24:Nat):Int) by rw[show min 24 IntKind.u32.bits=24 from rfl];simp]
 rw[eT,eT,eT,Nat.mod_eq_of_lt (show b*2 ^ 8<4294967296 by omega),Nat.mod_eq_of_lt (show c*2 ^ 16<4294967296 by omega),Nat.mod_eq_of_lt (show d*2 ^ 24<4294967296 by omega)]
 rw[mr (by omega) (by omega),Nat.or_comm,pG (k:=8) (by omega),mr (by omega) (by omega),Nat.or_comm,pG (k:=16) (by omega),mr (by omega) (by omega),Nat.or_comm,pG (k:=24) (by omega)];congr 1;omega
theorem aBY (s:List UInt8)(h:4<=s.length) :
  cD .or .u32 (cD .or .u32 (cD .or .u32 (IntKind.u32.wrap ((s.getD ((s.length:Int)-4).toNat 0).toNat:Int)) (IntKind.u32.wrap (IntKind.u32.wrap ((s.getD ((s.length:Int)-4+1).toNat 0).toNat:Int)*2 ^ min 8 IntKind.u32.bits)))
   (IntKind.u32.wrap (IntKind.u32.wrap ((s.getD ((s.length:Int)-4+2).toNat 0).toNat:Int)*2 ^ min 16 IntKind.u32.bits))) (IntKind.u32.wrap (IntKind.u32.wrap ((s.getD ((s.length:Int)-4+3).toNat 0).toNat:Int)*2 ^ min 24 IntKind.u32.bits))=((sumOf (s.drop (s.length-4)):Nat):Int):=by
 have hw:∀c:UInt8,IntKind.u32.wrap (c.toNat:Int)=(c.toNat:Int):=λc=>by have:c.toNat<256:=c.toNat_lt;rw[eT,Nat.mod_eq_of_lt (by omega)]
 simp only[hw];rw[aON (s.getD _ 0).toNat_lt (s.getD _ 0).toNat_lt (s.getD _ 0).toNat_lt (s.getD _ 0).toNat_lt];have hg:∀(k:Nat),(s.drop (s.length-4)).getD k 0=s.getD (s.length-4+k) 0:=λk=>by rw[List.getD_eq_getElem?_getD,List.getD_eq_getElem?_getD,List.getElem?_drop]
 unfold sumOf;rw[hg,hg,hg,hg,show ((s.length:Int)-4).toNat=s.length-4+0 by omega,show ((s.length:Int)-4+1).toNat=s.length-4+1 by omega,show ((s.length:Int)-4+2).toNat=s.length-4+2 by omega,show ((s.length:Int)-4+3).toNat=s.length-4+3 by omega]
def vN (base:Nat)(s:List UInt8)(r:Value)(w:World):Prop:=match qi s with
 | some q=>∃v,r=.tuple #[v,.nilIface]/\gb (λj=>j<base) w v q
 | none=>r=.tuple #[.agg #[.slice none 0 0,.bool false],.iface 74 (.int .i64 3)]
attribute [local irreducible] gp eF cE dB
theorem Ly (s:List UInt8)(hs:s.length<10000000000000)(w:World) :
  ar Tryz.prog 49 [str s] w λr w'=>vN w.heap.size s r w'/\Below w.heap.size w w':=by
 refine gh Tryz.func49 rfl (by kernel_rfl) [.cell 2 71,.tmp 3] rfl ?_;push_cast -dsimp(maxSteps:=4000000) [Tryz.ntmps49];refine ao (z:=[.slice none 0 0,.bool false]) (by kernel_rfl) ?_;intro w1 aV;have ph:=aV.size;have WT:∀w',aL w' w.heap.size 71 [.slice none 0 0,.bool false]->qi s=none->Below w.heap.size w w'->vN w.heap.size s (.tuple #[.agg #[.slice none 0 0,.bool false],.iface 74 (.int .i64 3)]) w'/\Below w.heap.size w w':=λw' _ hn hb=>by
  unfold vN;rw[hn];exact⟨rfl,hb⟩
 push_cast -dsimp;refine⟨⟨by omega,by omega⟩,λGG=>?_,λaDb=>?_⟩
 ·refine aH (n:=2) (by kernel_rfl) aV.aM rfl (by simp) (by simp[Value.oneCell']) ?_;intro w2 bH;have c2:aB w2 ⟨w.heap.size,0,none⟩ 0 2=some [.slice none 0 0,.bool false]:=bH.aM.aB;push_cast -dsimp[c2];exact WT w2 bH.aM (by unfold qi;rw[if_pos (by omega)]) (aV.below.trans (bH.kept.below (by omega) (λ_ h=>by omega)))
 refine ba (λ_=>True) mixed (by kernel_rfl) trivial ?_;push_cast -dsimp;refine⟨⟨by omega,by omega⟩,⟨by omega,by omega⟩,⟨by omega,by omega⟩,⟨by omega,by omega⟩,⟨by omega,by omega⟩,⟨by omega,by omega⟩,⟨by omega,by omega⟩,⟨by omega,by omega⟩,?_⟩;have etk:List.take ((s.length:Int)-4).toNat s=s.take (s.length-4):=by rw[show ((s.length:Int)-4).toNat=s.length-4 by omega]
 rw[etk];refine aA (aDs (s.take (s.length-4)) (by rw[List.length_take];omega) w1.drew) ?_;rintro _ w2 ⟨rfl,rfl⟩;push_cast -dsimp;rw[aBY s (by omega)];refine⟨λcW=>?_,λheq=>?_⟩
 ·refine aH (n:=2) (by kernel_rfl) aV.aM.drew rfl (by simp) (by simp[Value.oneCell']) ?_;intro w2 bH;have c2:aB w2 ⟨w.heap.size,0,none⟩ 0 2=some [.slice none 0 0,.bool false]:=bH.aM.aB;push_cast -dsimp[c2];exact WT w2 bH.aM (by unfold qi;rw[if_neg (by omega),if_pos (by omega)]) (aV.below.drew.trans (bH.kept.below (by show w.heap.size<=w1.heap.size;omega) (λ_ h=>by omega)))
 rw[etk];refine⟨⟨by omega,by omega⟩,?_⟩;have aFj:wJ (s.take (s.length-4))=sumOf (s.drop (s.length-4)):=by omega
 have hxl:(s.take (s.length-4)).length<10000000000000:=by rw[List.length_take];omega
 generalize hx:(⟨s.take (s.length-4),false⟩:St)=x;have hxs:s.take (s.length-4)=x.s:=by rw[<-hx]
 have CI:false=x.bad:=by rw[<-hx]
 have WZ:qi s=if (gL x).2.bad=true\/(gL x).2.s≠[]\/bB (gL x).1=false then none else some (gL x).1:=by
  unfold qi;rw[if_neg (by omega),if_neg (by rw[aFj];simp),<-hx]
 rw[hxs]at hxl ⊢
 refine aR ?_;intro w2 bH;have bH:mg w1.drew w2 172 [str x.s,.bool x.bad]:=by rw[<-CI];exact bH
 have BV:w2.heap.size=w1.heap.size+1:=bH.size;have fx:Gg w2 w1.heap.size x:=bH.aM;have xz:aL w2 w.heap.size 71 [.slice none 0 0,.bool false]:=aV.aM.drew.kept (Kept.new bH (X:=λ_=>False)) id;have hL2:Below w.heap.size w w2:=aV.below.drew.trans (bH.below.mono (by show w.heap.size<=w1.heap.size;omega))
 push_cast -dsimp;refine aA (Xs x w1.heap.size w2 hxl fx) ?_;rintro _ w3 ⟨rfl,cM⟩;have Kf:=cM.size;push_cast -dsimp;refine ao (z:=[.slice none 0 0,.bool false]) (by kernel_rfl) ?_;intro w4 ae;have KB:=ae.size;push_cast -dsimp;refine aH (n:=2) (by kernel_rfl) ae.aM rfl (by simp) (by simp[Value.oneCell']) ?_;intro w5 cH;have Mq:=cH.size;have Fk:Gg w5 w1.heap.size (eF x).2:=(cM.aM.kept (Kept.new ae (X:=λ_=>False)) id).kept cH.kept (by show ¬w1.heap.size=w3.heap.size;omega)
 have hlb:=Av x;push_cast -dsimp;refine aA (ye (eF x).2 w1.heap.size w5 (by omega) Fk) ?_;rintro _ w6 ⟨rfl,bQ⟩;have KC:=bQ.size;have hP6:aL w6 w3.heap.size 71 [.slice none 0 0,.bool (eF x).1]:=cH.aM.kept bQ.kept (by show ¬w3.heap.size=w1.heap.size;omega)
 have Yp:aL w6 w.heap.size 71 [.slice none 0 0,.bool false]:=(((xz.kept cM.kept (by show ¬w.heap.size=w1.heap.size;omega)).kept (Kept.new ae (X:=λ_=>False)) id).kept cH.kept (by show ¬w.heap.size=w3.heap.size;omega)).kept bQ.kept (by show ¬w.heap.size=w1.heap.size;omega)
 have hL6:Below w.heap.size w w6:=hL2.trans ((cM.kept.below (by omega) (λ_ h=>by omega)).trans ((ae.below.mono (by omega)).trans ((cH.kept.below (by omega) (λ_ h=>by omega)).trans (bQ.kept.below (by omega) (λ_ h=>by omega)))));have hmv:=rT (eF x).2;have hml:=oJ (eF x).2;have hmf:=rS (eF x).2;push_cast -dsimp;refine aK [8,59,60,61,62,63,64,65,66,67,68,69,70,71,72,73,74,75,76] (λz wx=>∃(i:Nat) (y:St) (rules:List bV) (pvs:List PV) (rv:SV),z 59=.int .i64 i/\i<=(cE (eF x).2).1/\y.s.length<=x.s.length/\rules++(eV lH ((cE (eF x).2).1-i) y).1=(BE (eF x).2).1/\(eV lH ((cE (eF x).2).1-i) y).2=(BE (eF x).2).2 /\
  Gg wx w1.heap.size y/\aL wx w3.heap.size 71 [rv.v,.bool (eF x).1]/\aL wx w.heap.size 71 [.slice none 0 0,.bool false]/\Vc.Own w6.heap.size 129 5 gJ wx rv.v pvs/\pvs.length=rules.length/\rules.length=i /\
  (∀(j:Nat) (r:bV),rules[j]?=some r->∃u,pvs[j]?=some u/\dy (λj=>j<w6.heap.size\/rv.v.ownBlock=some j) wx (gJ u) r)/\Below w.heap.size w wx/\w6.heap.size<=wx.heap.size) (λz _=>(cE (eF x).2).1-(intOf (z 59)).toNat) ?_ ?_
 ·exact⟨0,(cE (eF x).2).2,[],[],⟨none,0,0⟩,rfl,Nat.zero_le _,by omega,rfl,rfl,bQ.aM,hP6,Yp,Vc.Own.nil (enc:=gJ) _ _ (λ_=>rfl) _,rfl,rfl,by simp,hL6,Nat.le_refl _⟩
 intro z wx hI;obtain⟨i,y,rules,pvs,rv,h59,hi,hy,vM,uO,ns,hPx,vf,eG,hlen,Ka,yZ,N7,aOi⟩:=hI;push_cast -dsimp[h59];refine⟨λaj=>?_,λeo=>?_⟩
 ·refine aA (Xs y w1.heap.size wx (by omega) ns) ?_;rintro _ wa ⟨rfl,fu⟩;have T0:=fu.size;have hya:=Av y;push_cast -dsimp;refine ao (z:=[.bool false,.slice none 0 0,.slice none 0 0,.slice none 0 0,.slice none 0 0]) (by kernel_rfl) ?_;intro wb dE;have Ms:=dE.size;push_cast -dsimp;refine aH (n:=5) (by kernel_rfl) dE.aM rfl (by simp) (by simp[Value.oneCell']) ?_;intro wc jV;have ZA:=jV.size;have hBc:Gg wc w1.heap.size (eF y).2:=(fu.aM.kept (Kept.new dE (X:=λ_=>False)) id).kept jV.kept (by omega);push_cast -dsimp;refine aA (O4 (eF y).2 w1.heap.size wc (by omega) hBc) ?_;rintro cv1 wd ⟨aAp,zn,hkd⟩;have ZB:=hkd.size;have hyd:=vB (eF y).2;have aIW:=aAp;obtain⟨sv1,iv1,rfl,ft,Nh⟩:=aAp;have aFh:=ft.shape;obtain⟨TY,TZ,rfl,_⟩:=aFh;have Lq:=Nh.shape;obtain⟨ia1,Qv,rfl,_⟩:=Lq;have hqd:aL wd wa.heap.size 129 [.bool (eF y).1,.slice none 0 0,.slice none 0 0,.slice none 0 0,.slice none 0 0]:=aL.kept jV.aM hkd (by omega);push_cast -dsimp;refine aH (n:=2) (by kernel_rfl) hqd rfl (by simp) (by simp[Value.oneCell']) ?_;intro we lE;have Kg:=lE.size;have hBe:Gg we w1.heap.size (gp (eF y).2).2:=aL.kept (e:=172) zn lE.kept (by omega);push_cast -dsimp;refine aA (O4 (gp (eF y).2).2 w1.heap.size we (by omega) hBe) ?_;rintro cv2 wf ⟨aAq,hBf,HL⟩;have szf:=HL.size;have hyf:=vB (gp (eF y).2).2;have aIX:=aAq;obtain⟨sv2,iv2,rfl,gY,Ni⟩:=aAq;have aN8:=gY.shape;obtain⟨Gm,Gp,rfl,_⟩:=aN8;have aN9:=Ni.shape;obtain⟨ia2,Qw,rfl,_⟩:=aN9;have hqf:=lE.aM.kept HL (by show ¬wa.heap.size=w1.heap.size;omega)
  push_cast -dsimp;refine aH (n:=2) (by kernel_rfl) hqf rfl (by simp) (by simp[Value.oneCell']) ?_;intro wg lF;have szg:=lF.size;have aM6:∃u:PV,u=(⟨(eF y).1,⟨TY,(gp (eF y).2).1.sets.length,TZ⟩,⟨ia1,(gp (eF y).2).1.ins.length,Qv⟩,⟨Gm,(gp (gp (eF y).2).2).1.sets.length,Gp⟩,⟨ia2,(gp (gp (eF y).2).2).1.ins.length,Qw⟩⟩:PV):=⟨_,rfl⟩;obtain⟨u,hu⟩:=aM6;have hqg:aL wg wa.heap.size 129 (gJ u):=by
   have h:=lF.aM;simp only[List.take_succ_cons,List.take_zero,List.drop_succ_cons,List.drop_zero,List.cons_append,List.nil_append,Nat.reduceAdd]at h;rw[hu];exact h
  have k1:Kept (λk=>k=w1.heap.size\/wx.heap.size<=k) wx wa:=fu.kept.weaken (λ_ _ h=>.inl h);have k2:Kept (λk=>k=w1.heap.size\/wx.heap.size<=k) wa wb:=Kept.new dE;have k3:Kept (λk=>k=w1.heap.size\/wx.heap.size<=k) wb wc:=jV.kept.weaken (λ_ _ h=>.inr (by omega));have k4:Kept (λk=>k=w1.heap.size\/wx.heap.size<=k) wc wd:=hkd.weaken (λ_ _ h=>.inl h);have k5:Kept (λk=>k=w1.heap.size\/wx.heap.size<=k) wd we:=lE.kept.weaken (λ_ _ h=>.inr (by omega));have k6:Kept (λk=>k=w1.heap.size\/wx.heap.size<=k) we wf:=HL.weaken (λ_ _ h=>.inl h);have k7:Kept (λk=>k=w1.heap.size\/wx.heap.size<=k) wf wg:=lF.kept.weaken (λ_ _ h=>.inr (by omega));have kx:Kept (λk=>k=w1.heap.size\/wx.heap.size<=k) wx wg:=(((((k1.trans k2 (λ_ _ h=>h)).trans k3 (λ_ _ h=>h)).trans k4 (λ_ _ h=>h)).trans k5 (λ_ _ h=>h)).trans k6 (λ_ _ h=>h)).trans k7 (λ_ _ h=>h);have hPg:=hPx.kept kx (by show ¬(w3.heap.size=w1.heap.size\/wx.heap.size<=w3.heap.size);omega)
  have hRg:=vf.kept kx (by show ¬(w.heap.size=w1.heap.size\/wx.heap.size<=w.heap.size);omega)
  have xE:=eG.aJ kx (λg hg h=>by have:=eG.block g hg;omega);have hBg:Gg wg w1.heap.size (lH y).2:=aL.kept (e:=172) hBf lF.kept (by omega);have aM2:∀(j:Nat) (r:bV),rules[j]?=some r->∃u,pvs[j]?=some u/\dy (λj=>j<w6.heap.size\/rv.v.ownBlock=some j) wg (gJ u) r:=λj r hj=>by
   obtain⟨u,h1,h2⟩:=yZ j r hj;exact⟨u,h1,h2.mono (λb hb aj=>kx.block b aj (λhh=>by
    rcases hh with hh|hh
    ·exact hb (.inl (by omega))
    omega)) (λ_ h=>h)⟩
  have Vr:∀b,(b<w6.heap.size\/rv.v.ownBlock=some b)->b<wx.heap.size:=λb hb=>by
   rcases hb with hb|hb
   ·omega
   exact(eG.block b hb).2
  have Qk:dy (λj=>j<w6.heap.size\/rv.v.ownBlock=some j) wg (gJ u) (lH y).1:=by
   subst hu;refine⟨_,_,_,_,rfl,?_,?_⟩
   ·have kd:Kept (λk=>k=w1.heap.size\/k=wa.heap.size) wd wg:=((lE.kept.weaken (λ_ _ h=>.inr h)).trans (HL.weaken (λ_ _ h=>.inl h)) (λ_ _ h=>h)).trans (lF.kept.weaken (λ_ _ h=>.inr h)) (λ_ _ h=>h);exact(cL.kept aIW kd (λk hk=>by omega)).narrow (λb _ hb=>by have:=Vr b hb;omega)
   exact(cL.kept aIX lF.kept (λk hk=>by omega)).narrow (λb _ hb=>by have:=Vr b hb;omega)
  have aEO:=sR (Pr:=λ_ (u:PV) r=>dy (λj=>j<w6.heap.size\/rv.v.ownBlock=some j) wg (gJ u) r) hlen aM2 Qk;have f0:wg.cell? ⟨w3.heap.size,0,none⟩=some rv.v:=hPg.cell rfl;have f1:aB wg ⟨wa.heap.size,0,none⟩ 0 5=some (gJ u):=hqg.aB;have f2:Value.agg (gJ u).toArray=.agg #[.bool u.b,u.s1.v,u.i1.v,u.s2.v,u.i2.v]:=rfl;push_cast -dsimp[f0,f1,f2];refine cG vV rfl rfl (by omega) ?_;intro wh Kc;have szh:=Kc.size;push_cast -dsimp;refine aW (base:=w6.heap.size) [u] (enc:=gJ) vV (xE.new Kc) rfl (λj u hu=>by simpa using Kc.cell hu) vW (by simp only[List.length_cons,List.length_nil];omega) (by omega) ?_;intro v' wi hoi I4 cW;have Ib:Kept (λk=>rv.v.ownBlock=some k) wh wi:=Kept.grown I4 (λ_ h=>h);have aOa:=hoi.slice;obtain⟨a',c',rfl⟩:=aOa;have rh:∀g,rv.v.ownBlock=some g->w6.heap.size<=g:=λg hg=>(eG.block g hg).1;have Zx:=(hPg.kept (Kept.new Kc (X:=λ_=>False)) id).kept Ib (λh=>by have:=rh _ h;omega);have hRi:=(hRg.kept (Kept.new Kc (X:=λ_=>False)) id).kept Ib (λh=>by have:=rh _ h;omega);have hBi:Gg wi w1.heap.size (lH y).2:=(aL.kept (e:=172) hBg (Kept.new Kc (X:=λ_=>False)) id).kept Ib (λh=>by have:=rh _ h;omega);push_cast -dsimp;refine aC Zx (by simp) rfl ?_;intro wj fc;have szi:=Ib.size;have szj:=fc.size;push_cast -dsimp;have cI:=pL (f:=lH) (i:=i) (by omega) vM uO
  refine⟨⟨by omega,by omega⟩,⟨i+1,(lH y).2,rules++[(lH y).1],pvs++[u],⟨a',(pvs++[u]).length,c'⟩,rfl,by omega,?_,cI.1,cI.2,aL.kept (e:=172) hBi fc.kept (by omega),fc.aM,hRi.kept fc.kept (by show ¬w.heap.size=w3.heap.size;omega),hoi.aJ fc.kept (λg hg h=>?_),by simp[hlen],by simp[Ka],?_,?_,by omega⟩,by rw[h59];simp only[intOf];omega⟩
  ·have:=Jn y;omega
  ·rcases cW g hg with h'|h'
   ·have:=rh g h';omega
   omega
  ·intro j r hj;obtain⟨u',h1,h2⟩:=aEO j r hj;refine⟨u',h1,?_⟩;have h3:dy (λj=>(j<w6.heap.size\/rv.v.ownBlock=some j)\/(Value.slice a' (pvs++[u]).length c').ownBlock=some j) wh (gJ u') r :=
    (h2.mono (λb _ aj=>(Kept.new Kc (X:=λ_=>False)).block b aj id) (λ_ h=>h)).narrow (λb hb hh=>by
     rcases hh with hh|hh
     ·exact hh
     rcases cW b hh with h'|h'
     ·exact .inr h'
     omega)
   have h4:=h3.mono (λb hb aj=>Ib.block b aj (λhh=>hb (.inl (.inr hh)))) (λ_ h=>h);have h5:=h4.mono (λb hb aj=>fc.kept.block b aj (λhh=>hb (.inl (.inl (by omega))))) (λ_ h=>h);exact h5.mono (λ_ _ _=>rfl) (λb hb=>by
    rcases hb with hb|hb
    ·exact .inl (.inl hb)
    exact .inr hb)
  refine N7.trans ((kx.below (by omega) (λk hk=>by omega)).trans ((Kc.below.mono (by omega)).trans ((Ib.below (by omega) (λk hk=>by have:=rh k hk;omega)).trans (fc.kept.below (by omega) (λk hk=>by omega)))))
 have ja:=pK (f:=lH) (i:=i) (by omega) vM uO;have jU:=ja.1;have hye:=ja.2;subst jU;subst hye;have aHV:aL wx w1.heap.size 172 [str (gL x).2.s,.bool (gL x).2.bad]:=ns;have f1:wx.cell? ⟨w1.drew.heap.size,1,none⟩=some (.bool (gL x).2.bad):=aHV.cell rfl;have f0:wx.cell? ⟨w1.drew.heap.size,0,none⟩=some (str (gL x).2.s):=aHV.cell rfl;have f2:aB wx ⟨w3.heap.size,0,none⟩ 0 2=some [rv.v,.bool (gL x).1.dD]:=hPx.aB;have hv:gb (λj=>j<w6.heap.size) wx (.agg #[rv.v,.bool (gL x).1.dD]) (gL x).1:=by
  refine⟨rv.v,rfl,?_⟩;refine Sl.narrow (um (R:=dy (λj=>j<w6.heap.size\/rv.v.ownBlock=some j) wx) eG hlen yZ) (by omega) (λcs r h=>?_) (λb _ hb=>by omega);exact h.mono (λ_ _ _=>rfl) (λb hb=>.inl hb)
 have Ic:=Md x;have uE:∀w',aL w' w.heap.size 71 [.slice none 0 0,.bool false]->((gL x).2.bad=true\/(gL x).2.s≠[]\/bB (gL x).1=false)->Below w.heap.size w w'->vN w.heap.size s (.tuple #[.agg #[.slice none 0 0,.bool false],.iface 74 (.int .i64 3)]) w'/\Below w.heap.size w w':=λw' hb hc hbl=>WT w' hb (by rw[WZ,if_pos hc]) hbl;cases pd:(gL x).2.bad with
 | true =>
  rw[pd]at f1;push_cast -dsimp[f1];refine aH (n:=2) (by kernel_rfl) vf rfl (by simp) (by simp[Value.oneCell']) ?_;intro w7 fK;have c2:aB w7 ⟨w.heap.size,0,none⟩ 0 2=some [.slice none 0 0,.bool false]:=fK.aM.aB;push_cast -dsimp[c2];exact uE w7 fK.aM (.inl pd) (N7.trans (fK.kept.below (by omega) (λ_ h=>by omega)))
 | false =>
  rw[pd]at f1;push_cast -dsimp[f1,f0];refine⟨λhs0=>?_,λft=>?_⟩
  ·have hs0:(gL x).2.s=[]:=Classical.byContradiction hs0;push_cast -dsimp[f2];refine aA (j0 (gL x).1 Ic (λj=>j<w6.heap.size) _ wx hv) ?_;rintro _ w7 ⟨rfl,kr⟩;have KD:=kr.size;have hL7:=N7.trans (kr.mono (by omega));have IS:=vf.below kr (by omega);cases hpr:bB (gL x).1 with
   | true =>
    have f7:aB w7 ⟨w3.heap.size,0,none⟩ 0 2=some [rv.v,.bool (gL x).1.dD]:=(hPx.below kr (by omega)).aB;push_cast -dsimp[f7];refine aH (n:=2) (by kernel_rfl) IS rfl (by simp) (by simp[SV.v,Value.oneCell']) ?_;intro w8 nf;have c8:aB w8 ⟨w.heap.size,0,none⟩ 0 2=some [rv.v,.bool (gL x).1.dD]:=nf.aM.aB;push_cast -dsimp[c8];refine⟨?_,hL7.trans (nf.kept.below (by omega) (λ_ h=>by omega))⟩;unfold vN;rw[WZ,if_neg (by rw[pd,hs0,hpr];simp)];exact⟨_,rfl,(hv.below kr).mono (λb hb aj=>nf.kept.block b aj (λhh=>hb (by omega))) (λb hb=>by omega)⟩
   | false =>
    push_cast -dsimp;refine aH (n:=2) (by kernel_rfl) IS rfl (by simp) (by simp[Value.oneCell']) ?_;intro w8 nf;have c2:aB w8 ⟨w.heap.size,0,none⟩ 0 2=some [.slice none 0 0,.bool false]:=nf.aM.aB;push_cast -dsimp[c2];exact uE w8 nf.aM (.inr (.inr hpr)) (hL7.trans (nf.kept.below (by omega) (λ_ h=>by omega)))
  have ft:(gL x).2.s≠[]:=ft;refine aH (n:=2) (by kernel_rfl) vf rfl (by simp) (by simp[Value.oneCell']) ?_;intro w7 fK;have c2:aB w7 ⟨w.heap.size,0,none⟩ 0 2=some [.slice none 0 0,.bool false]:=fK.aM.aB;push_cast -dsimp[c2];exact uE w7 fK.aM (.inr (.inl ft)) (N7.trans (fK.kept.below (by omega) (λ_ h=>by omega)))
end Go.Proofs.YtemjejfpadnljaaGreatDoor
end
