/- Texts of this claim, merged: Rset, Rtxt, Rpar, Bsm, Rr1, AsF, As, Tell, TellP, RowR, Pmean, Pmean2, Pmean3, Pok, Rp5. -/
import Derived.Test.YtodeeahdhnjpkaaGreatDoorM6
import Derived.Test.YtodeeahdhnjpkaaGreatDoorTie
import Derived.Lay
import Derived.Carry
import Derived.SevenTiedAt
import Derived.LaidHandle
import Derived.LaidSub
import Derived.LaidLaws
import Derived.Lib.LaidTab
import Derived.HandedShaped
import Derived.Shelf.Vars
import Derived.Lib.LaidU8
import Derived.LaidOnce
set_option maxRecDepth 100000
set_option linter.unusedSimpArgs false
set_option linter.unusedVariables false
set_option maxHeartbeats 8000000
section
namespace Go.Proofs.YtodeeahdhnjpkaaGreatDoor
open Go.Vc Go.Proofs Go.RowKit Cae
attribute [local irreducible] cw ag aq a8 runK bD Sl Vc.Own vc aW cN ai
theorem HE (a b c:Int)(w:World):bD Tryz.prog 73 [.int .i64 a,.int .i64 b,.int .i64 c] w λr w'=>r=.bool (decide (b<=a/\a<=c))/\w'=w:=by
 refine aE Tryz.func73 rfl (by kernel_rfl) [6] rfl ?_;push_cast -dsimp(maxSteps:=4000000) [Tryz.ntmps73];constructor
 ·intro h;simp[h]
 intro h;simp[h]
def jG (s:List Rg)(i:Nat):Int:=if i=0 then -2 else (s.getD (i-1) (0,0)).2
theorem HD (s:List Rg)(hs:s.length<1000000000)(X:Nat->Prop)(v:Value)(w:World)(hv:Sl X 2 (En encR) w v s) :
  bD Tryz.prog 115 [v] w λr w'=>r=.bool (aH (-2) s)/\Below w.heap.size w w':=by
 obtain⟨a,c,rfl,hc⟩:=hv.shape;refine aE Tryz.func115 rfl (by kernel_rfl) [2] rfl ?_;push_cast -dsimp(maxSteps:=4000000) [Tryz.ntmps115];refine aM [2,3,4,7,8,9,10,11,12,13,14,15,16,17,18,19,20,21,22,23,24,25,26,27,28,29,30,31,32,33,34,35,36,37,38,39,40] (λz wx=>∃(i:Nat),z 7=.int .i64 i/\i<=s.length/\aH (jG s i) (s.drop i)=aH (-2) s/\(0<i->0<=jG s i/\jG s i<=1114111)/\Below w.heap.size w wx) (λz _=>s.length-(intOf (z 7)).toNat) ?_ ?_
 ·exact⟨0,rfl,Nat.zero_le _,rfl,λh=>absurd h (by omega),Below.refl _ _⟩
 intro z wx hI;obtain⟨i,h7,hi,hR,hL,hb⟩:=hI;have BV:=hb.size;push_cast -dsimp[h7];refine⟨λbZ=>?_,λgh=>?_⟩
 ·have hex:=bK (l:=s) (i:=i) (by omega);obtain⟨r,hex⟩:=hex;have hr:=hex.1;have hd:=hex.2.2.1;rw[hd,aH]at hR;have qo:=(hv.below hb).get hr;obtain⟨b,o,rfl,hX,aP⟩:=qo;have ce:aB wx ⟨b,o+i*2,none⟩ 0 2=some [.int .i64 r.1,.int .i64 r.2]:=bL (encR r) 0 (λk u hu=>by simpa using aP k u hu);push_cast -dsimp[ce];refine⟨⟨by omega,by omega⟩,?_⟩;refine aR (z:=[.int .i64 0,.int .i64 0]) (by kernel_rfl) ?_;intro w1 au;push_cast -dsimp;refine aF (n:=2) (by kernel_rfl) au.aN rfl (by simp) (by simp[Value.oneCell']) ?_;intro w2 bT;have sT:=au.size;have KN:=bT.size;have eW:Below wx.heap.size wx w2:=au.below.trans (bT.kept.below (by omega) (λ_ h=>by omega));have jK:aO w2 wx.heap.size 104 [.int .i64 r.1,.int .i64 r.2]:=bT.aN;have um:Below w.heap.size w w2.drew:=(hb.trans (eW.mono BV)).drew;have Zx:0<i->w2.drew.cell? ⟨b,o+(i-1)*2+1,none⟩=some (.int .i64 (jG s i)):=λh0=>by
   have hq:s[i-1]?=some s[i-1]:=List.getElem?_eq_getElem (by omega);obtain⟨b',o',he,_,XW⟩:=(hv.below um).get hq;cases he
   have:=XW 1 _ rfl;rw[this];unfold jG;rw[if_neg (by omega),List.getD_eq_getElem?_getD,hq];rfl
  push_cast -dsimp;refine aX (λw'=>∀a,w'.cell? a=w2.cell? a) mixed (by kernel_rfl) (λ_=>rfl) ?_;have f0:w2.drew.cell? ⟨wx.heap.size,0,none⟩=some (.int .i64 r.1):=jK.drew.cell rfl;have f1:w2.drew.cell? ⟨wx.heap.size,1,none⟩=some (.int .i64 r.2):=jK.drew.cell rfl;have g0:∀ar:World,(∀a,ar.cell? a=w2.cell? a)->ar.cell? ⟨wx.heap.size,0,none⟩=some (.int .i64 r.1):=λar hC=>(hC _).trans f0;have g1:∀ar:World,(∀a,ar.cell? a=w2.cell? a)->ar.cell? ⟨wx.heap.size,1,none⟩=some (.int .i64 r.2):=λar hC=>(hC _).trans f1;have gp:0<i->∀ar:World,(∀a,ar.cell? a=w2.cell? a)->ar.cell? ⟨b,o+(i-1)*2+1,none⟩=some (.int .i64 (jG s i)):=λh0 ar hC=>(hC _).trans (Zx h0);push_cast -dsimp[f0];refine⟨λar hC=>by rw[g0 ar hC];exact rfl,?_⟩;refine aA (HE r.1 0 1114111 w2.drew) ?_;rintro _ w3 ⟨rfl,rfl⟩;refine⟨λ_=>rfl,?_⟩;have xj:(r.1<=jG s i+1\/r.2<r.1\/1114111<r.2)->Value.bool false=Value.bool (aH (-2) s):=λh=>by rw[if_pos h]at hR;rw[<-hR]
  have mA:i=0->jG s i = -2:=λh=>by unfold jG;rw[if_pos h]
  by_cases c1:0<=r.1/\r.1<=1114111
  ·rw[decide_eq_true c1];push_cast -dsimp[f0,f1];refine⟨λar hC=>by rw[g1 ar hC];exact rfl,λar hC=>by rw[g0 ar hC];exact rfl,?_⟩;refine aA (HE r.2 r.1 1114111 w2.drew) ?_;rintro _ w3 ⟨rfl,rfl⟩;refine⟨λ_=>rfl,?_⟩;have Zl:(i=0\/¬r.1<jG s i+2)->(r.1<=r.2/\r.2<=1114111)->aH (jG s (i+1)) (s.drop (i+1))=aH (-2) s/\(0<i+1->0<=jG s (i+1)/\jG s (i+1)<=1114111):=λh c2=>by
    have hl:jG s (i+1)=r.2:=by unfold jG;rw[if_neg (by omega),Nat.add_sub_cancel,List.getD_eq_getElem?_getD,hr];rfl
    rw[hl];refine⟨?_,λ_=>by omega⟩;rw[if_neg (by
     rcases h with h|h
     ·have:=mA h;omega
     omega)]at hR
    exact hR
   by_cases c2:r.1<=r.2/\r.2<=1114111
   ·rw[decide_eq_true c2];have aE5:((i:Int)-1).toNat=i-1:=by omega
    by_cases c3:0<i
    ·have fp:=Zx c3;have gq:=gp c3;have hLc:=hL c3;push_cast -dsimp[f0,aE5,fp];refine⟨λ_=>⟨λar hC=>by rw[g0 ar hC];exact rfl,⟨by omega,by omega⟩,⟨by omega,by omega⟩,λar hC=>by rw[gq ar hC];exact rfl,⟨by omega,by omega⟩,λNA=>⟨xj (by omega),um⟩,λcD=>?_⟩,λh=>absurd h (by omega)⟩;obtain⟨k1,k2⟩:=Zl (.inr cD) c2;exact⟨⟨by omega,by omega⟩,⟨i+1,rfl,by omega,k1,k2,um⟩,by rw[h7];simp only[intOf];omega⟩
    push_cast -dsimp[f0,aE5];refine⟨λh=>absurd h (by omega),λ_=>?_⟩;obtain⟨k1,k2⟩:=Zl (.inl (by omega)) c2;exact⟨⟨by omega,by omega⟩,⟨i+1,rfl,by omega,k1,k2,um⟩,by rw[h7];simp only[intOf];omega⟩
   rw[decide_eq_false c2];push_cast -dsimp;exact⟨xj (by omega),um⟩
  rw[decide_eq_false c1];push_cast -dsimp;refine⟨xj ?_,um⟩;rcases Nat.eq_zero_or_pos i with h|h
  ·have:=mA h;omega
  have:=hL h;omega
 rw[List.drop_eq_nil_of_le (by omega),aH]at hR;exact⟨by rw[<-hR],hb⟩
end Go.Proofs.YtodeeahdhnjpkaaGreatDoor
end
section
namespace Cae
def qK (s:List Rg)(i:Nat):List UInt8:=Go.Lib.join ((s.take i).map mW) [32]
theorem N7 (x:List UInt8):∀(l:List (List UInt8)),Go.Lib.join (l++[x]) [32]=if l=[] then x else Go.Lib.join l [32]++32::x
 | []=>by simp[Go.Lib.join_one]
 | y::l=>by
  rw[if_neg (by simp),List.cons_append,Go.Lib.join_cons,Go.Lib.join_cons];simp[Go.Lib.joinTail]
theorem vM {s:List Rg}{i:Nat}{x:Rg}(ht:s.take (i+1)=s.take i++[x])(hi:i<s.length):qK s (i+1)=(if 0<i then qK s i++[32] else [])++mW x:=by
 unfold qK;rw[ht,List.map_append,List.map_cons,List.map_nil,N7];by_cases h:0<i
 ·rw[if_pos h,if_neg (by
   intro e
   have:=congrArg List.length e;simp at this;rcases this with h'|h'
   ·omega
   subst h';simp at hi)]
  simp
 have:i=0:=by omega
 subst this;simp
theorem sK (s:List Rg):∀i:Nat,i<=s.length->(qK s i).length<=20*i
 | 0,_=>Nat.le_refl 0
 | i+1,h=>by
  have ih:=sK s i (by omega);have ht:s.take (i+1)=s.take i++[s[i]'(by omega)]:=(List.take_append_getElem (by omega)).symm
  have:=D8 (s[i]'(by omega));rw[vM ht (by omega),List.length_append];split
  ·rw[List.length_append,List.length_singleton];omega
  simp;omega
end Cae
namespace Go.Proofs.YtodeeahdhnjpkaaGreatDoor
open Go.Vc Go.Proofs Go.RowKit Cae
attribute [local irreducible] cw ag aq a8 runK bD Sl Vc.Own vc aW cN ai
theorem KD (s:List Rg)(hs:s.length<10000000)(hr:aH (-2) s=true)(X:Nat->Prop)(v:Value)(w:World)(hv:Sl X 2 (En encR) w v s)(h:Db w) :
  bD Tryz.prog 116 [v] w λr w'=>r=str (fR s)/\Below w.heap.size w w':=by
 obtain⟨a,c,rfl,hc⟩:=hv.shape;refine aE Tryz.func116 rfl (by kernel_rfl) [2] rfl ?_;push_cast -dsimp(maxSteps:=4000000) [Tryz.ntmps116];refine aM [3,4,5,8,9,10,11,12,13,14,15,16,17,18,19,20,21,22,23,24,25,26,27,28,29,30,31,32,33] (λz wx=>∃(i:Nat),z 8=.int .i64 i/\z 3=str (qK s i)/\i<=s.length/\Below w.heap.size w wx) (λz _=>s.length-(intOf (z 8)).toNat) ?_ ?_
 ·exact⟨0,rfl,rfl,Nat.zero_le _,Below.refl _ _⟩
 intro z wx hI;obtain⟨i,h8,h3,hi,bC⟩:=hI;have BV:=bC.size;push_cast -dsimp[h8,h3];refine⟨λbZ=>?_,λgh=>?_⟩
 ·have hg:=bK (l:=s) (i:=i) (by omega);obtain⟨x,hx,lO,_,ht⟩:=hg;have hg:=(hv.below bC).get hx;obtain⟨b,o,rfl,zJ,aP⟩:=hg;have cx:aB wx ⟨b,o+i*2,none⟩ 0 2=some [.int .i64 x.1,.int .i64 x.2]:=bL (encR x) 0 (λj u hu=>by simpa using aP j u hu);have hxr:=jM (by omega) hr x lO;have hgn:∃n:Nat,x.1=n:=⟨x.1.toNat,by omega⟩;obtain⟨n,hn⟩:=hgn;have hgm:∃m:Nat,x.2=m:=⟨x.2.toNat,by omega⟩;obtain⟨m,hm⟩:=hgm;have hT:=vM ht (by omega);have hrg:mW x=fu n++(if n<m then 45::fu m else []):=by unfold mW;rw[hn,hm];simp
  rw[hrg]at hT;rw[hn,hm]at cx;push_cast -dsimp[cx];refine⟨⟨by omega,by omega⟩,?_⟩;refine aR (z:=[.int .i64 0,.int .i64 0]) (by kernel_rfl) ?_;intro w3 bO;have Li:=bO.size;push_cast -dsimp;refine aF (n:=2) (by kernel_rfl) bO.aN rfl (by simp) (by simp[Value.oneCell']) ?_;intro w4 aj;have sz4:=aj.size;have c0:w4.cell? ⟨wx.heap.size,0,none⟩=some (.int .i64 (n:Int)):=aj.aN.cell rfl;have c1:w4.cell? ⟨wx.heap.size,1,none⟩=some (.int .i64 (m:Int)):=aj.aN.cell rfl;have k4:Kept (λj=>j=wx.heap.size) wx w4:=(Kept.new bO).trans aj.kept (λ_ _ h=>h);have fo:Below w.heap.size w w4:=bC.trans (k4.below BV (λ_ h=>by omega));have hTl:=sK s i hi;have hL1:=nX n;have hL2:=nX m;have key:∀P:List UInt8,P=(if 0<i then qK s i++[32] else [])->P.length<=20*i+1:=λP e=>by
   rw[e];split
   ·rw[List.length_append,List.length_singleton];omega
   simp
  push_cast -dsimp[c0];refine⟨λpG=>⟨by omega,?_⟩,λpG=>?_⟩
  ·rw[if_pos (by omega)]at hT key;have hP:=key _ rfl;refine aA (xU n (by omega) w4 (h.below fo h.lt)) ?_;rintro _ w5 ⟨rfl,kU⟩;have Cr:=fo.trans (kU.mono (show w.heap.size<=w4.heap.size by omega))
   have c5:w5.cell? ⟨wx.heap.size,0,none⟩=some (.int .i64 (n:Int)):=(kU.cell (by show wx.heap.size<w4.heap.size;omega)).trans c0
   have c5':w5.cell? ⟨wx.heap.size,1,none⟩=some (.int .i64 (m:Int)):=(kU.cell (by show wx.heap.size<w4.heap.size;omega)).trans c1
   push_cast -dsimp[c5,c5'];refine⟨by first|omega|(simp only[List.length_append,List.length_singleton]at hP ⊢;omega),λdA=>?_,λheq=>?_⟩
   ·refine aA (xU m (by omega) w5 (h.below Cr h.lt)) ?_;rintro _ w6 ⟨rfl,jc⟩;have Cs:=Cr.trans (jc.mono Cr.size);rw[if_pos (by omega)]at hT;push_cast -dsimp;refine⟨by omega,by simp only[List.length_append,List.length_cons,List.length_nil];first|omega|(simp only[List.length_append,List.length_cons,List.length_nil]at hP;omega),⟨by omega,by omega⟩,⟨i+1,rfl,?_,by omega,Cs⟩,by rw[h8];simp only[intOf];omega⟩
    rw[hT];simp
   rw[if_neg (by omega)]at hT;refine⟨⟨by omega,by omega⟩,⟨i+1,rfl,?_,by omega,Cr⟩,by rw[h8];simp only[intOf];omega⟩;rw[hT];simp
  have hi0:i=0:=by omega
  rw[if_neg (by omega)]at hT key;have hP:=key _ rfl;have h0:qK s i=[]:=by rw[hi0];rfl
  rw[h0];refine aA (xU n (by omega) w4 (h.below fo h.lt)) ?_;rintro _ w5 ⟨rfl,kU⟩;have Cr:=fo.trans (kU.mono (show w.heap.size<=w4.heap.size by omega))
  have c5:w5.cell? ⟨wx.heap.size,0,none⟩=some (.int .i64 (n:Int)):=(kU.cell (by show wx.heap.size<w4.heap.size;omega)).trans c0
  have c5':w5.cell? ⟨wx.heap.size,1,none⟩=some (.int .i64 (m:Int)):=(kU.cell (by show wx.heap.size<w4.heap.size;omega)).trans c1
  push_cast -dsimp[c5,c5'];refine⟨by first|omega|(simp only[List.length_append,List.length_singleton]at hP ⊢;omega),λdA=>?_,λheq=>?_⟩
  ·refine aA (xU m (by omega) w5 (h.below Cr h.lt)) ?_;rintro _ w6 ⟨rfl,jc⟩;have Cs:=Cr.trans (jc.mono Cr.size);rw[if_pos (by omega)]at hT;push_cast -dsimp;refine⟨by omega,by simp only[List.length_append,List.length_cons,List.length_nil];first|omega|(simp only[List.length_append,List.length_cons,List.length_nil]at hP;omega),⟨by omega,by omega⟩,⟨i+1,rfl,?_,by omega,Cs⟩,by rw[h8];simp only[intOf];omega⟩
   rw[hT];simp
  rw[if_neg (by omega)]at hT;refine⟨⟨by omega,by omega⟩,⟨i+1,rfl,?_,by omega,Cr⟩,by rw[h8];simp only[intOf];omega⟩;rw[hT];simp
 have NL:i=s.length:=by omega
 have hTl:=sK s i hi;refine⟨by omega,by simp only[List.length_append,List.length_singleton];omega,?_,bC⟩;unfold qK fR;rw[NL,List.take_length];simp
end Go.Proofs.YtodeeahdhnjpkaaGreatDoor
end
section
namespace Go.Proofs.YtodeeahdhnjpkaaGreatDoor
open Go.Vc Go.Proofs Go.RowKit Cae
attribute [local irreducible] cw ag aq a8 runK bD Sl Vc.Own vc aW cN ai
def Kd (B:Nat)(s:List UInt8)(r:Value)(w:World):Prop :=
 (∃v l,r=.tuple #[v,.int .i64 0]/\Vc.Own B 104 2 encR w v l/\cL s l)\/(r=.tuple #[.slice none 0 0,.int .i64 3]/\∀l,¬cL s l)
theorem Gq (s:List UInt8)(hs:s.length<=1000000)(w:World)(hd:Db w)(he:lZ w)(ht:Tv w):bD Tryz.prog 83 [str s] w λr w'=>Kd w.heap.size s r w'/\Below w.heap.size w w':=by
 refine aE Tryz.func83 rfl (by kernel_rfl) [2,3] rfl ?_;push_cast -dsimp(maxSteps:=4000000) [Tryz.ntmps83];refine aA (aDr s (by omega) w) ?_;rintro _ w1 ⟨rfl,de⟩;have sT:=de.size;have bZ:=PH s [91,93];push_cast -dsimp;refine aA (Rz (Lib.trimS s [91,93]) (by omega) w1 (ht.below de)) ?_;rintro fv w2 ⟨ow,eW⟩;have KN:=eW.size;have jD:=de.trans (eW.mono sT);have hF:∃F,Lib.fieldsD (Lib.trimS s [91,93])=F:=⟨_,rfl⟩;obtain⟨F,hF⟩:=hF;have hFn:=zt (Lib.trimS s [91,93]);have hFs:∀x∈F,x.length<=s.length:=λx hx=>by rw[<-hF]at hx;have:=Co hx;omega
 have hPF:∀l,cL s l->F=l.map mW:=λl hl=>by rw[<-hF,<-hl.2,PI hl.1,FU hl.1]
 rw[hF]at ow hFn;have eM:=ow.slice;obtain⟨fa,fc,rfl⟩:=eM;have rL:=ow.sl;push_cast -dsimp;refine aM [2,3,4,6,7,8,9,10,11,16,17,18,19,20,21,22,23,24,25,26,27,28,29,30,31,32,33,34,35,36,37,38,39,40,41,42,43,44,45,46,47,48,49,50,51] (λz wx=>∃(i:Nat) (ov:Value) (out:List Rg),z 16=.int .i64 i/\z 4=ov/\i<=F.length/\out.length=i/\(∀l,cL s l->out=l.take i)/\Vc.Own w2.heap.size 104 2 encR wx ov out/\Below w2.heap.size w2 wx) (λz _=>F.length-(intOf (z 16)).toNat) ?_ ?_
 ·exact⟨0,_,[],rfl,rfl,Nat.zero_le _,rfl,λl _=>by simp,Vc.Own.nil (enc:=encR) _ _ (λ_=>rfl) _,Below.refl _ _⟩
 intro z wx hI;obtain⟨i,ov,out,zE,h4,hi,NN,fN,rK,bC⟩:=hI;have BV:=bC.size;have S0:=jD.trans (bC.mono (by omega));push_cast -dsimp[zE,h4];refine⟨λJL=>?_,λgh=>?_⟩
 ·have hg:=bK (l:=F) (i:=i) (by omega);obtain⟨t,htt,htm,_,hFt⟩:=hg;have hts:=hFs t htm;have hg:=(rL.below bC).get htt;obtain⟨b,o,rfl,_,aP⟩:=hg;have c0:wx.cell? ⟨b,o+i,none⟩=some (str t):=by simpa[Vc.encS] using aP 0 _ rfl
  have et:t++[45]++t=t++45::t:=by simp
  have nC:=Jt t;obtain⟨a,b',r',nC,hal,iL⟩:=nC;have Sm:∀l,cL s l->∃q,l[i]?=some q/\(0<=q.1/\q.1<=q.2/\q.2<=1114111)/\a=fu q.1.toNat/\b'=fu q.2.toNat:=λl hl=>by
   have h1:=hPF l hl;rw[h1,List.getElem?_map]at htt;obtain⟨q,hq,hqt⟩:=Option.map_eq_some_iff.1 htt;have hr:=jM (by omega) hl.1 q (List.mem_of_getElem? hq);have hm:=OL (r:=q) (by omega) (by omega) (by omega) hr.2.1;obtain⟨m,hm⟩:=hm;rw[hqt,nC]at hm;simp only[List.cons.injEq]at hm;exact⟨q,hq,hr,hm.1,hm.2.1⟩
  push_cast -dsimp[c0,et];refine⟨⟨by omega,by omega⟩,by omega,by simp only[List.length_append,List.length_cons,List.length_nil];omega,?_⟩;refine aA (VC t (by omega) wx (ht.below S0)) ?_;rintro wv w3 ⟨nZ,ft⟩;have Li:=ft.size;have mS:=S0.trans (ft.mono S0.size);rw[nC]at nZ;have eM:=nZ.shape;obtain⟨pa,pc,rfl,_⟩:=eM;have hg:=nZ.get (i:=0) rfl;obtain⟨pb,po,rfl,_,hc0⟩:=hg;have hg:=nZ.get (i:=1) rfl;obtain⟨_,_,JG,_,S6⟩:=hg;cases JG;have ca:w3.cell? ⟨pb,po,none⟩=some (str a):=by simpa[Vc.encS] using hc0 0 _ rfl
  have cb:w3.cell? ⟨pb,po+1,none⟩=some (str b'):=by simpa[Vc.encS] using S6 0 _ rfl
  have X3:(a::b'::r').length=r'.length+2:=rfl;rw[X3];push_cast -dsimp[ca];refine⟨by omega,?_⟩;refine aA (jr 40 (.inr rfl) a (by omega) w3 (he.below mS)) ?_;rintro _ w4 ⟨⟨v1,e1,rfl,he1,Av⟩,fo⟩;have sz4:=fo.size;have re:=mS.trans (fo.mono mS.size);have Qy:w4.cell? ⟨pb,po+1,none⟩=some (str b'):=(fo.cell (World.block_lt_of_cell? _ _ cb)).trans cb;have et1:Int.toNat 1=1:=rfl;push_cast -dsimp[Qy,et1];refine⟨by omega,?_⟩;refine aA (jr 40 (.inr rfl) b' (by omega) w4 (he.below re)) ?_;rintro _ w5 ⟨⟨v2,e2,rfl,JF,wJ⟩,kU⟩;have sz5:=kU.size;have AE:=re.trans (kU.mono re.size);have aIW:(∃ty x,e1=.iface ty x)->∀l,¬cL s l:=λh l hl=>by
   obtain⟨ty,x,rfl⟩:=h;obtain⟨q,_,hr,ha,_⟩:=Sm l hl
   have:=(Av q.1.toNat (by omega) ha).2;cases this
  have Q5:(∃ty x,e2=.iface ty x)->∀l,¬cL s l:=λh l hl=>by
   obtain⟨ty,x,rfl⟩:=h;obtain⟨q,_,hr,_,hb⟩:=Sm l hl
   have:=(wJ q.2.toNat (by omega) hb).2;cases this
  rcases he1 with rfl|he1
  ·rcases JF with rfl|JF
   ·have aJ6:Below w2.heap.size wx w5:=(ft.mono BV).trans ((fo.mono (by omega)).trans (kU.mono (by omega)));have Vy:=rK.below (ft.trans ((fo.mono (by omega)).trans (kU.mono (by omega))));have eM:=Vy.slice;obtain⟨oa,oc,rfl⟩:=eM;push_cast -dsimp;refine cY fQ rfl rfl (by omega) ?_;intro w7 dN;have Yj:=dN.size;have pF:=Vy.new dN;push_cast -dsimp;refine ae (base:=w2.heap.size) [(v1,v2)] (enc:=encR) fQ pF (by rfl) (λj u hu=>by simpa[encR] using dN.cell hu) gS (by simp only[List.length_cons,List.length_nil];omega) (by omega) ?_;intro v8 w8 qu EF _;have k8:=Kept.grown EF (λ_ h=>h);have aKb:Below w2.heap.size w2 w8:=(bC.trans (aJ6.trans (dN.below.mono (by omega)))).trans (k8.below (by omega) (λj h=>(pF.block j h).1));push_cast -dsimp;refine⟨⟨by omega,by omega⟩,⟨i+1,_,_,rfl,rfl,by omega,by simp;exact NN,λl hl=>?_,qu,aKb⟩,by rw[zE];simp only[intOf];omega⟩;obtain⟨q,hq,hr,ha,hb⟩:=Sm l hl;have h1:=(Av q.1.toNat (by omega) ha).1;have h2:=(wJ q.2.toNat (by omega) hb).1;have eq:(v1,v2)=q:=by
     rw[h1,h2];obtain⟨x,y⟩:=q;simp only at hr ⊢
     rw[Int.toNat_of_nonneg (by omega),Int.toNat_of_nonneg (by omega)]
    rw[fN l hl,List.take_add_one,hq,eq];rfl
   obtain⟨ty,x,rfl⟩:=JF;push_cast -dsimp;exact⟨.inr ⟨rfl,Q5 ⟨_,_,rfl⟩⟩,AE⟩
  obtain⟨ty,x,rfl⟩:=he1;push_cast -dsimp;exact⟨.inr ⟨rfl,aIW ⟨_,_,rfl⟩⟩,AE⟩
 have cg:∀l,cL s l->out=l:=λl hl=>by
  have h1:=congrArg List.length (hPF l hl);rw[List.length_map]at h1;rw[fN l hl,List.take_of_length_le (by omega)]
 have eM:=rK.slice;obtain⟨oa,oc,rfl⟩:=eM;refine aA (HD out (by omega) _ _ wx rK.sl) ?_;rintro _ w3 ⟨rfl,ft⟩;have Li:=ft.size;have mS:=S0.trans (ft.mono S0.size);have uM:=rK.below ft;cases hr:aH (-2) out with
 | false =>
  push_cast -dsimp;exact⟨.inr ⟨rfl,λl hl=>by have:=cg l hl;subst this;rw[hl.1]at hr;cases hr⟩,mS⟩
 | true =>
  push_cast -dsimp;refine aA (KD out (by omega) hr _ _ w3 uM.sl (hd.below mS hd.lt)) ?_;rintro _ w4 ⟨rfl,fo⟩;have re:=mS.trans (fo.mono mS.size);push_cast -dsimp;refine⟨λdA=>?_,λheq=>?_⟩
  ·exact⟨.inr ⟨rfl,λl hl=>by have:=cg l hl;subst this;exact dA hl.2⟩,re⟩
  exact⟨.inl ⟨_,out,rfl,(uM.below fo).mono (by omega),hr,Classical.not_not.1 heq⟩,re⟩
theorem Bu {w:World}{b n:Nat}{e:TypeId}{cs xs:List Value}(h:aO w b e cs)(o:Nat)(hx:(cs.drop o).take n=xs)(hn:xs.length=n):aB w ⟨b,o,none⟩ 0 n=some xs:=by
 subst hn;refine bL xs 0 λj u hu=>?_;rw[Nat.zero_add];refine h.cell ?_;rw[<-hx]at hu
 have:=(List.getElem?_eq_some_iff.1 hu).1;rw[List.length_take]at this;rw[List.getElem?_take_of_lt (by omega),List.getElem?_drop]at hu;exact hu
end Go.Proofs.YtodeeahdhnjpkaaGreatDoor
end
section
namespace Cae
def noMark (s:List UInt8):Prop:=s≠[124]/\s≠[38]/\s≠[45]
def okB:Option (Nat×Nat)->Bool
 | none=>true
 | some _=>false
theorem fT:okB none=true:=rfl
theorem UA (e:Nat×Nat):okB (some e)=false:=rfl
attribute [push_cast] fT UA
def dp {α:Type}(bad:Option (Nat×Nat))(p:Pa α)(l:List Cae.Tok):Except (Nat×Nat) (α×List Cae.Tok):=match bad with
 | none=>p l
 | some e=>.error e
end Cae
namespace Go.Proofs.YtodeeahdhnjpkaaGreatDoor
open Go.Vc Go.Proofs Go.RowKit Cae
attribute [local irreducible] cw ag aq a8 runK bD Sl Vc.Own vc aW cN ai
theorem aS (w:World):Below w.heap.size w w.drew:=((Kept.refl (λ_=>False) w).drew).below (Nat.le_refl _) (λ_ h=>h.elim)
structure Gr (w:World):Prop where
 d:Db w
 e:lZ w
 t:Tv w
 f0:w.cell? ⟨0,0,none⟩=some (.int .i64 0)
 f1:w.cell? ⟨0,1,none⟩=some (.int .i64 (-1))
theorem Gr.below {w w':World}(h:Gr w)(hb:Below w.heap.size w w'):Gr w' :=
 ⟨h.d.below hb h.d.lt,h.e.below hb,h.t.below hb,(hb.cell (World.block_lt_of_cell? w _ h.f0)).trans h.f0,(hb.cell (World.block_lt_of_cell? w _ h.f1)).trans h.f1⟩
def pN:Option (Nat×Nat)->List Value
 | none=>[.int .i64 0,.int .i64 (-1)]
 | some e=>[.int .i64 (e.1:Int),.int .i64 (e.2:Int)]
structure RS (rb B:Nat)(w:World)(l:List Cae.Tok)(bad:Option (Nat×Nat)):Prop where
 st:∃v,aO w rb 68 (v::pN bad)/\Sl (λb=>b=rb\/B<=b) 3 (En fF) w v l
 lt:rb<B
 le:B<=w.heap.size
 tl:TL l
 tm:∀t∈l,t.kind≠4->noMark t.text
 g0:∃w0,Gr w0/\w0.heap.size<=rb/\Below w0.heap.size w0 w
 ne:∀e,bad=some e->e.1≠0
theorem RS.gr {rb B:Nat}{w:World}{l:List Cae.Tok}{bad:Option (Nat×Nat)}(h:RS rb B w l bad):Gr w:=by
 obtain⟨w0,hg,_,hb⟩:=h.g0;exact hg.below hb
theorem RS.fx {rb B:Nat}{w w':World}{l:List Cae.Tok}{bad:Option (Nat×Nat)}{Y:Nat->Prop}(h:RS rb B w l bad)(hk:Kept Y w w')(hY:∀i,Y i->B<=i):RS rb B w' l bad:=by
 obtain⟨v,h1,h2⟩:=h.st;have hl:=h.lt;obtain⟨w0,hg,h0,hb⟩:=h.g0;have hle:=h.le;have hz:=hk.size;have pY:=hb.size;exact⟨⟨v,h1.kept hk (λhh=>by have:=hY _ hh;omega),h2.kept hk (λi hi=>.inr (hY i hi))⟩,h.lt,by omega,h.tl,h.tm,⟨w0,hg,h0,hb.trans (hk.below (by omega) (λi hi=>by have:=hY i hi;omega))⟩,h.ne⟩
theorem RS.below {rb B:Nat}{w w':World}{l:List Cae.Tok}{bad:Option (Nat×Nat)}(h:RS rb B w l bad)(hk:Below w.heap.size w w'):RS rb B w' l bad :=
 h.fx (Kept.aJ hk (X:=λi=>w.heap.size<=i) (λi h1 h2=>h1)) (λi hi=>Nat.le_trans h.le hi)
theorem RS.hd {rb B:Nat}{w:World}{t:Cae.Tok}{r:List Cae.Tok}{bad:Option (Nat×Nat)}(h:RS rb B w (t::r) bad):∃b o c,aO w rb 68 (.slice (some ⟨b,o,none⟩) (r.length+1) c::pN bad)/\r.length+1<=c/\b≠rb /\
  w.cell? ⟨b,o,none⟩=some (.int .i64 t.kind)/\w.cell? ⟨b,o+1,none⟩=some (str t.text)/\w.cell? ⟨b,o+2,none⟩=some (.int .i64 t.pos)/\aB w ⟨b,o,none⟩ 0 3=some [.int .i64 t.kind,str t.text,.int .i64 t.pos]:=by
 obtain⟨v,h1,h2⟩:=h.st;obtain⟨a,c,rfl,hc⟩:=h2.shape;obtain⟨b,o,rfl,hb,aP⟩:=h2.get (i:=0) (x:=t) rfl;refine⟨b,o,c,h1,hc,λe=>hb (.inl e),?_,?_,?_,bL (fF t) 0 (λj u hu=>by have:=aP j u hu;simpa using this)⟩
 ·have:=aP 0 _ rfl;simpa using this
 ·have:=aP 1 _ rfl;simpa using this
 have:=aP 2 _ rfl;simpa using this
theorem RS.cons {rb B:Nat}{w:World}{l:List Cae.Tok}{bad:Option (Nat×Nat)}(h:RS rb B w l bad):∃t r,l=t::r:=h.tl.cons
theorem RS.fault {rb B:Nat}{w w':World}{l:List Cae.Tok}{bad kZ:Option (Nat×Nat)}{v:Value}(h:RS rb B w l bad)(hv:aO w rb 68 (v::pN bad))(hp:Lz w w' rb 68 (v::pN kZ))(hn:∀e,kZ=some e->e.1≠0):RS rb B w' l kZ:=by
 obtain⟨u,h1,h2⟩:=h.st;have e:u=v:=by
  have qV:w.heap[rb]?=_:=h1;have NV:w.heap[rb]?=_:=hv;rw[qV]at NV;simp at NV;exact NV
 subst e;obtain⟨w0,hg,h0,hb⟩:=h.g0;have hl:=h.lt;have hle:=h.le;have pY:=hb.size;exact⟨⟨_,hp.aN,h2.kept hp.kept (λi hi=>.inl hi)⟩,h.lt,by rw[hp.size];exact h.le,h.tl,h.tm,⟨w0,hg,h0,hb.trans (hp.kept.below (by omega) (λi hi=>by omega))⟩,hn⟩
theorem RS.pop {rb B b o c:Nat}{w w':World}{t:Cae.Tok}{r:List Cae.Tok}{bad:Option (Nat×Nat)}(h:RS rb B w (t::r) bad)(hb:aO w rb 68 (.slice (some ⟨b,o,none⟩) (r.length+1) c::pN bad))(h5:t.kind≠5)
  (hp:Lz w w' rb 68 (.slice (if (c:Int)=1 then some ⟨b,o,none⟩ else some ⟨b,o+3,none⟩) r.length (c-1)::pN bad)):RS rb B w' r bad:=by
 have hl:=h.lt;have GO:=h.tl.tail h5;obtain⟨t2,r2,rfl⟩:=GO.cons;obtain⟨v,h1,h2⟩:=h.st;have e:v=.slice (some ⟨b,o,none⟩) ((t2::r2).length+1) c:=by
  have qV:w.heap[rb]?=_:=h1;have pW:w.heap[rb]?=_:=hb;rw[qV]at pW;simp at pW;exact pW
 subst e;have hk:=hp.kept;have hc:(t2::r2).length+1<=c:=by
  obtain⟨a,c',he,hc⟩:=h2.shape;cases he;exact hc
 have S6:¬(c:Int)=1:=by rw[List.length_cons]at hc;omega
 have AL:=hp.aN;rw[if_neg S6]at AL;obtain⟨w0,hg,h0,Hp⟩:=h.g0;have hle:=h.le;have pY:=Hp.size;refine⟨⟨_,AL,?_⟩,h.lt,by rw[hp.size];exact h.le,GO,λx hx=>h.tm x (List.mem_cons_of_mem _ hx),⟨w0,hg,h0,Hp.trans (hk.below (by omega) (λi hi=>by omega))⟩,h.ne⟩;unfold Sl at h2 ⊢
 obtain⟨a,c',he,XW,cg⟩:=h2;cases he;refine⟨some ⟨b,o+3,none⟩,c-1,rfl,by omega,λi x hx=>?_⟩;obtain⟨b',o',cs,ha,hX,je,aP,hr⟩:=cg (i+1) x (by simpa using hx);cases ha;refine⟨b,o+3,cs,rfl,hX,je,λj u hu=>?_,hr⟩
 have:=aP j u hu;rw[show o+(i+1)*3+j=o+3+i*3+j by omega]at this
 exact hk.cell this (λhh=>hX (.inl hh))
def pC {α:Type}(rb B:Nat)(w:World)(o:Except (Nat×Nat) (α×List Cae.Tok))(V:World->Value->α->Prop)(J:Value->Prop):VK:=λr w'=>Kept (·=rb) w w'/\match o with
 | .ok (x,l')=>V w' r x/\RS rb B w' l' none
 | .error e=>J r/\∃l',RS rb B w' l' (some e)
def Rc {α:Type}(f:FuncId)(args:List Value)(rb B:Nat)(w:World)(l:List Cae.Tok)(bad:Option (Nat×Nat))(p:Pa α)(V:World->Value->α->Prop)(J:Value->Prop):Prop:=bD Tryz.prog f args w (pC rb B w (dp bad p l) V J)
section
variable {rb B:Nat} {w:World} {l:List Cae.Tok} {bad:Option (Nat×Nat)} (h:RS rb B w l bad)
include h
theorem iW:bD Tryz.prog 26 [.pointer (some ⟨rb,0,none⟩)] w λr w'=>r=.bool (okB bad)/\Below w.heap.size w w':=by
 have hg:=h.gr;obtain⟨v,hB,_⟩:=h.st;have dA:=h.ne;have f2:aB w ⟨0,0,none⟩ 0 2=some [.int .i64 0,.int .i64 (-1)]:=bL [.int .i64 0,.int .i64 (-1)] 0 (λj u hu=>by
  rw[Nat.zero_add,Nat.zero_add];match j,hu with
  | 0,hu=>cases hu;exact hg.f0
  | 1,hu=>cases hu;exact hg.f1
  | j+2,hu=>cases hu)
 have d2:aB w.drew ⟨0,0,none⟩ 0 2=some [.int .i64 0,.int .i64 (-1)]:=f2;refine aE Tryz.func26 rfl (by kernel_rfl) [2] rfl ?_;push_cast -dsimp(maxSteps:=4000000) [Tryz.ntmps26];refine aX (λw'=>w'=w.drew) mixed (by kernel_rfl) rfl ?_;cases bad with
 | none =>
  have cb:aB w.drew ⟨rb,1,none⟩ 0 2=some [.int .i64 0,.int .i64 (-1)]:=Bu (n:=2) hB.drew 1 rfl rfl;push_cast -dsimp[cb,d2];refine⟨λar hC=>by rw[hC,cb];exact rfl,λar hC=>by rw[hC,d2];exact rfl,?_⟩;exact aS w
 | some e =>
  obtain⟨c,q⟩:=e;have hc:c≠0:=dA _ rfl;have cb:aB w.drew ⟨rb,1,none⟩ 0 2=some [.int .i64 (c:Int),.int .i64 (q:Int)]:=Bu (n:=2) hB.drew 1 rfl rfl;push_cast -dsimp[cb,d2];refine⟨λar hC=>by rw[hC,cb];exact rfl,λar hC=>by rw[hC,d2];exact rfl,?_,aS w⟩;simp
theorem oU (s:List UInt8):bD Tryz.prog 22 [.pointer (some ⟨rb,0,none⟩),str s] w λr w'=>r=.bool (okB bad && bI s l)/\Below w.heap.size w w':=by
 obtain⟨t,r,rfl⟩:=h.cons;have hs:bI s (t::r)=(t.kind != 5 && t.text == s):=rfl;refine aE Tryz.func22 rfl (by kernel_rfl) [4] rfl ?_;push_cast -dsimp(maxSteps:=4000000) [Tryz.ntmps22];refine aA (iW h) ?_;rintro _ w1 ⟨rfl,de⟩;cases bad with
 | some e =>
  push_cast -dsimp;exact⟨rfl,de⟩
 | none =>
  have h1:=h.below de;obtain⟨b,o,c,hB,hc,dA,c0,c1,c2,c3⟩:=h1.hd;have cb:w1.cell? ⟨rb,0,none⟩=some (.slice (some ⟨b,o,none⟩) (r.length+1) c):=hB.cell rfl;rw[hs];push_cast -dsimp[cb,c0,c1];refine⟨by omega,λh5=>⟨by omega,?_⟩,λh5=>?_⟩
  ·have Dz:t.kind≠5:=λe=>h5 (by omega);refine⟨?_,de⟩;congr 1;by_cases he:t.text=s<;>simp[he,Dz]
  have Dz:t.kind=5:=by omega
  refine⟨?_,de⟩;simp[Dz]
theorem bX (e:Nat)(he:e≠0):bD Tryz.prog 23 [.pointer (some ⟨rb,0,none⟩),.int .i64 (e:Int)] w λr w'=>r=.tuple #[]/\RS rb B w' l (some (bad.getD (e,(Cae.hd l).pos)))/\Kept (·=rb) w w':=by
 obtain⟨t,r,rfl⟩:=h.cons;refine aE Tryz.func23 rfl (by kernel_rfl) [] rfl ?_;push_cast -dsimp(maxSteps:=4000000) [Tryz.ntmps23];refine aA (iW h) ?_;rintro _ w1 ⟨rfl,de⟩;have h1:=h.below de;have k1:Kept (·=rb) w w1:=Kept.aJ de (λi h1 h2=>by omega);cases bad with
 | some e =>
  push_cast -dsimp;exact⟨h1,k1⟩
 | none =>
  obtain⟨b,o,c,hB,hc,dA,c0,c1,c2,c3⟩:=h1.hd;have cb:w1.cell? ⟨rb,0,none⟩=some (.slice (some ⟨b,o,none⟩) (r.length+1) c):=hB.cell rfl;push_cast -dsimp[cb,c2];refine⟨by omega,?_⟩;refine aF (n:=2) (by kernel_rfl) hB rfl (by simp[pN]) (by simp[Value.oneCell']) ?_;intro w2 bT;have bT:Lz w1 w2 rb 68 (.slice (some ⟨b,o,none⟩) (r.length+1) c::pN (some (e,t.pos))):=bT;push_cast -dsimp;exact⟨h1.fault hB bT (λe' h'=>by cases h';exact he),k1.trans bT.kept (λi _ h=>h)⟩
def aEH (s:List UInt8)(rb B:Nat)(w:World)(l:List Cae.Tok)(bad:Option (Nat×Nat)):VK:=λr w' =>
 (bad=none/\bI s l=true/\r=.bool true/\∃t r',l=t::r'/\t.kind≠5/\RS rb B w' r' none/\Kept (·=rb) w w')\/((okB bad && bI s l)=false/\r=.bool false/\RS rb B w' l bad/\Below w.heap.size w w')
theorem fB (s:List UInt8):bD Tryz.prog 29 [.pointer (some ⟨rb,0,none⟩),str s] w (aEH s rb B w l bad):=by
 refine aE Tryz.func29 rfl (by kernel_rfl) [4] rfl ?_;push_cast -dsimp(maxSteps:=4000000) [Tryz.ntmps29];refine aA (oU h s) ?_;rintro _ w1 ⟨rfl,de⟩;have h1:=h.below de;have k1:Kept (·=rb) w w1:=Kept.aJ de (λi h1 h2=>by omega);cases hs:(okB bad && bI s l) with
 | false =>
  push_cast -dsimp;exact .inr ⟨hs,rfl,h1,de⟩
 | true =>
  obtain⟨t,r,rfl⟩:=h.cons;rw[Bool.and_eq_true]at hs;obtain⟨hn,hs⟩:=hs;obtain rfl:bad=none:=by cases bad with
   | none=>rfl
   | some e=>cases hn
  have h5:=q8 hs;obtain⟨b,o,c,hB,hc,dA,c0,c1,c2,c3⟩:=h1.hd;have cb:w1.cell? ⟨rb,0,none⟩=some (.slice (some ⟨b,o,none⟩) (r.length+1) c):=hB.cell rfl;push_cast -dsimp[cb,oX];refine⟨by omega,?_⟩;refine aC hB (by simp) rfl ?_;intro w2 bT;have oM:=h1.pop hB h5 bT;have hk:=bT.kept;push_cast -dsimp;exact .inl ⟨rfl,hs,rfl,t,r,rfl,h5,oM,k1.trans hk (λi _ h=>h)⟩
theorem iS (s:List UInt8):Rc 24 [.pointer (some ⟨rb,0,none⟩),str s] rb B w l bad (a7 s) (λ_ r _=>r=.tuple #[]) (λr=>r=.tuple #[]):=by
 refine aE Tryz.func24 rfl (by kernel_rfl) [] rfl ?_;push_cast -dsimp(maxSteps:=4000000) [Tryz.ntmps24];refine aA (fB h s) ?_;rintro _ w1 hT;unfold pC;rcases hT with ⟨rfl,hs,rfl,t,r,rfl,h5,oM,hk⟩|⟨hs,rfl,h1,de⟩
 ·push_cast -dsimp;refine⟨hk,?_⟩;have e:dp none (a7 s) (t::r)=.ok ((),r):=by unfold dp a7 bE;rw[hs];exact bB h5
  rw[e];exact oM
 have k1:Kept (·=rb) w w1:=Kept.aJ de (λi h1 h2=>by omega);push_cast -dsimp;refine aA (bX h1 3 (by decide)) ?_;rintro _ w2 ⟨rfl,h2,k2⟩;push_cast -dsimp;refine⟨k1.trans k2 (λi _ h=>h),?_⟩;have e:dp bad (a7 s) l=.error (bad.getD (3,(Cae.hd l).pos)):=by
  cases bad with
  | none=>unfold dp a7 bE;rw[show bI s l=false from hs];rfl
  | some e=>rfl
 rw[e];exact⟨l,h2⟩
theorem u0:bD Tryz.prog 50 [.pointer (some ⟨rb,0,none⟩)] w λr w'=>r=.bool (fI l)/\Below w.heap.size w w':=by
 obtain⟨t,r,rfl⟩:=h.cons;obtain⟨b,o,c,hB,hc,dA,c0,c1,c2,c3⟩:=h.hd;have cb:w.cell? ⟨rb,0,none⟩=some (.slice (some ⟨b,o,none⟩) (r.length+1) c):=hB.cell rfl;have hn:fI (t::r)=(t.kind == 1 && !rN t.text):=rfl;refine aE Tryz.func50 rfl (by kernel_rfl) [2] rfl ?_;push_cast -dsimp(maxSteps:=4000000) [Tryz.ntmps50];push_cast -dsimp[cb,Nat.zero_mul,Nat.add_zero,c3];refine⟨by omega,?_⟩;refine aR (z:=[.int .i64 0,str [],.int .i64 0]) (by kernel_rfl) ?_;intro w1 au;have z1:=au.size;push_cast -dsimp;refine aF (xt:=71) (n:=3) (by kernel_rfl) au.aN rfl (by decide) (by simp;exact⟨rfl,rfl,rfl⟩) ?_;intro w2 bT;have B2:aO w2 w.heap.size 71 [.int .i64 t.kind,str t.text,.int .i64 t.pos]:=bT.aN;have b2:=au.below.trans (bT.kept.below (B:=w.heap.size) (by omega) (λi h=>by omega));have d0:w2.cell? ⟨w.heap.size,0,none⟩=some (.int .i64 t.kind):=B2.cell rfl;have d1:w2.cell? ⟨w.heap.size,1,none⟩=some (str t.text):=B2.cell rfl;push_cast -dsimp[d0,d1];have hN:fI (t::r)=true↔t.kind=1/\¬t.text=[99,108,97,115,115]/\¬t.text=[98,114,101,97,107]/\¬t.text=[107,101,101,112]/\¬t.text=[101,108,115,101]:=by
  rw[hn];simp[rN,and_assoc]
 have eB:∀x:Bool,(x=true↔t.kind=1/\¬t.text=[99,108,97,115,115]/\¬t.text=[98,114,101,97,107]/\¬t.text=[107,101,101,112]/\¬t.text=[101,108,115,101])->Value.bool x=Value.bool (fI (t::r)):=λx h=>congrArg _ (Bool.eq_iff_iff.2 (h.trans hN.symm));refine⟨λk=>⟨λc1=>⟨λc2=>⟨λc3=>⟨eB _ ?_,b2⟩,λc3=>⟨eB _ ?_,b2⟩⟩,λc2=>⟨eB _ ?_,b2⟩⟩,λc1=>⟨eB _ ?_,b2⟩⟩,λk=>⟨eB _ ?_,b2⟩⟩
 ·rw[decide_eq_true_iff];exact⟨λh=>⟨by omega,c1,c2,c3,h⟩,λh=>h.2.2.2.2⟩
 ·exact⟨λh=>(by cases h),λh=>(c3 h.2.2.2.1).elim⟩
 ·exact⟨λh=>(by cases h),λh=>(c2 h.2.2.1).elim⟩
 ·exact⟨λh=>(by cases h),λh=>(c1 h.2.1).elim⟩
 exact⟨λh=>(by cases h),λh=>by omega⟩
end
end Go.Proofs.YtodeeahdhnjpkaaGreatDoor
end
section
namespace Go.Proofs.YtodeeahdhnjpkaaGreatDoor
open Go.Vc Go.Proofs Go.RowKit
open Go.RowKit Go.Extern.Stop Go.Stop Go.Extern
def kX (w:World):Prop:=w.cell? ⟨3,0,none⟩=some (.iface 232 (.agg #[.pointer (some ⟨14,32,none⟩)]))
theorem PO (a:Addr)(w:World):(ReflectliteValue.unpack (.iface 154 (.pointer (some a)))).run Tryz.prog w
  = .ok (.agg #[.pointer (some ⟨14,154,none⟩),.pointer (some ⟨w.heap.size,0,none⟩),.int .u64 150]) (w.alloc (.cells #[.pointer (some a)] 154)):=by kernel_rfl
theorem aDL (a:Addr)(w:World):(ReflectliteValue.methodAny (ReflectliteValue.valueError "reflectlite.Value.Type" 0) (λt _ _ _=>ReflectliteType.toType t) #[.agg #[.pointer (some ⟨14,154,none⟩),.pointer (some a),.int .u64 150]]).run Tryz.prog w
  = .ok (.iface 232 (.agg #[.pointer (some ⟨14,154,none⟩)])) w:=by kernel_rfl
theorem aAm (h:Value)(w:World):(Go.method (Tryz.prog.types.size+Made.depth) 232 (.agg #[h]) "Kind").run Tryz.prog w=.ok (258,h) w:=by kernel_rfl
theorem aHd (h:Value)(w:World):(Go.method (Tryz.prog.types.size+Made.depth) 232 (.agg #[h]) "Elem").run Tryz.prog w=.ok (270,.agg #[h]) w:=by kernel_rfl
theorem G8 (h:Value)(w:World):(Go.method (Tryz.prog.types.size+Made.depth) 232 (.agg #[h]) "Implements").run Tryz.prog w=.ok (271,.agg #[h]) w:=by kernel_rfl
theorem rR (h:Value)(w:World):(Go.method (Tryz.prog.types.size+Made.depth) 232 (.agg #[h]) "AssignableTo").run Tryz.prog w=.ok (268,.agg #[h]) w:=by kernel_rfl
theorem Xz (a:Addr)(w:World):(Go.method (Tryz.prog.types.size+Made.depth) 96 (.pointer (some a)) "Unwrap").run Tryz.prog w=.ok (263,.pointer (some a)) w:=by kernel_rfl
theorem aCp (w:World):((ReflectliteType.abiMethod λt=>(λa:Nat=>Value.int IntKind.u8 (a:Int)) <$> Rtype.kind t) #[.pointer (some ⟨14,154,none⟩)]).run Tryz.prog w=.ok (.int .u8 22) w:=by kernel_rfl
theorem aG9 (w:World):((ReflectliteType.abiMethod λt=>(λa:Nat=>Value.int IntKind.u8 (a:Int)) <$> Rtype.kind t) #[.pointer (some ⟨14,26,none⟩)]).run Tryz.prog w=.ok (.int .u8 2) w:=by kernel_rfl
theorem rlm (z:Sem Value)(f:TypeId->Addr->Nat->Nat->Sem Value)(a:Addr)(W:World):(ReflectliteValue.method z f #[.agg #[.pointer (some ⟨14,154,none⟩),.pointer (some a),.int .u64 150]]).run Tryz.prog W=(f 154 a 150 22).run Tryz.prog W:=by kernel_rfl
theorem Xd (a p:Addr)(W:World)(ha:W.cell? a=some (.pointer (some p))) :
  (ReflectliteValue.method (ReflectliteValue.valueError "reflectlite.Value.IsNil" 0) ReflectliteValue.isNil #[.agg #[.pointer (some ⟨14,154,none⟩),.pointer (some a),.int .u64 150]]).run Tryz.prog W=.ok (.bool false) W:=by
 rw[rlm];simp[ReflectliteValue.isNil,loadVar,isAgg,underlying,Tryz.underlying154,ha,Result.andThen]
theorem aAX (w:World):(ReflectliteType.method ReflectliteType.elem #[.agg #[.pointer (some ⟨14,154,none⟩)]]).run Tryz.prog w=.ok (.iface 232 (.agg #[.pointer (some ⟨14,26,none⟩)])) w:=by kernel_rfl
theorem GR (w:World):(ReflectliteType.relation "Implements" ReflectliteType.implements_ #[.agg #[.pointer (some ⟨14,26,none⟩)],.iface 232 (.agg #[.pointer (some ⟨14,32,none⟩)])]).run Tryz.prog w=.ok (.bool true) w:=by kernel_rfl
theorem Yz (v:Value)(w:World):(ReflectliteType.typeOf #[.iface 26 v]).run Tryz.prog w=.ok (.iface 232 (.agg #[.pointer (some ⟨14,26,none⟩)])) w:=by kernel_rfl
theorem Yy (v:Value)(w:World):(ReflectliteType.typeOf #[.iface 96 v]).run Tryz.prog w=.ok (.iface 232 (.agg #[.pointer (some ⟨14,96,none⟩)])) w:=by kernel_rfl
theorem WT (w:World):(ReflectliteType.relation "AssignableTo" ReflectliteType.assignableTo #[.agg #[.pointer (some ⟨14,26,none⟩)],.iface 232 (.agg #[.pointer (some ⟨14,26,none⟩)])]).run Tryz.prog w=.ok (.bool true) w:=by kernel_rfl
theorem WS (w:World):(ReflectliteType.relation "AssignableTo" ReflectliteType.assignableTo #[.agg #[.pointer (some ⟨14,96,none⟩)],.iface 232 (.agg #[.pointer (some ⟨14,26,none⟩)])]).run Tryz.prog w=.ok (.bool false) w:=by kernel_rfl
theorem Vg (n:Int)(w:World):(ReflectliteValue.unpack (.iface 26 (.int .i64 n))).run Tryz.prog w
  = .ok (.agg #[.pointer (some ⟨14,26,none⟩),.pointer (some ⟨w.heap.size,0,none⟩),.int .u64 130]) (w.alloc (.cells #[.int .i64 n] 26)):=by kernel_rfl
theorem Rs (w:World):(Rtype.elem? 154).run Tryz.prog w=.ok (some 26) w:=by kernel_rfl
theorem mkE (p:Addr)(w:World):(ReflectliteValue.mk 26 p ReflectliteValue.flagAddr).run Tryz.prog w=.ok (.agg #[.pointer (some ⟨14,26,none⟩),.pointer (some p),.int .u64 386]) w:=by kernel_rfl
theorem Wx (a p:Addr)(W:World)(ha:W.cell? a=some (.pointer (some p))) :
  (ReflectliteValue.method (ReflectliteValue.valueError "reflectlite.Value.Elem" 0) ReflectliteValue.elem #[.agg #[.pointer (some ⟨14,154,none⟩),.pointer (some a),.int .u64 150]]).run Tryz.prog W
   = .ok (.agg #[.pointer (some ⟨14,26,none⟩),.pointer (some p),.int .u64 386]) W:=by
 rw[rlm];simp[ReflectliteValue.elem,loadVar,isAgg,underlying,Tryz.underlying154,ha,Result.andThen,Rs,mkE]
theorem rls (ta b:Addr)(W:World):(ReflectliteValue.set #[.agg #[.pointer (some ⟨14,26,none⟩),.pointer (some ta),.int .u64 386],.agg #[.pointer (some ⟨14,26,none⟩),.pointer (some b),.int .u64 130]]).run Tryz.prog W=((loadVar 26 b >>= λx=>storeVar 26 ta x >>= λ_=>pure (.tuple #[])):Sem Value).run Tryz.prog W:=by kernel_rfl
theorem aLM (ta b:Addr)(n:Int)(old:Value)(W:World)(hb:W.cell? b=some (.int .i64 n))(ht:W.cell? ta=some old)(hf:W.frozen? ta=false) :
  (ReflectliteValue.set #[.agg #[.pointer (some ⟨14,26,none⟩),.pointer (some ta),.int .u64 386],.agg #[.pointer (some ⟨14,26,none⟩),.pointer (some b),.int .u64 130]]).run Tryz.prog W
   = .ok (.tuple #[]) (W.setCell ta (.int .i64 n)):=by
 rw[rls];simp[loadVar,isAgg,underlying,Tryz.underlying26,hb,Result.andThen,storeVar,Value.cells,storeCells,Addr.add];rw[run_store Tryz.prog W ta _ _ (by rfl)];simp[ht,hf]
end Go.Proofs.YtodeeahdhnjpkaaGreatDoor
end
section
namespace Go.Proofs.YtodeeahdhnjpkaaGreatDoor
open Go.Vc Go.Proofs Go.RowKit Cae
attribute [local irreducible] cw ag aq a8 runK bD Sl Vc.Own vc aW cN ai
open Go.RowKit Go.Extern.Stop Go.Stop Go.Extern
theorem VV (b:Nat)(n:Int)(w:World)(hB:w.cell? ⟨b,0,none⟩=some (.int .i64 n)):bD Tryz.prog 263 [.pointer (some ⟨b,0,none⟩)] w λv w'=>v=.iface 26 (.int .i64 n)/\w'=w:=by
 refine aE Tryz.func263 rfl (by kernel_rfl) [2] rfl ?_;push_cast -dsimp(maxSteps:=4000000) [Tryz.ntmps263];push_cast -dsimp[hB]
inductive rC (w:World):Value->Int->Prop
 | bare (n:Int):rC w (.iface 26 (.int .i64 n)) n
 | at_ (b:Nat) (n:Int):w.cell? ⟨b,0,none⟩=some (.int .i64 n)->rC w (.iface 96 (.pointer (some ⟨b,0,none⟩))) n
theorem rC.mono {w w':World}{v:Value}{n:Int}{X:Nat->Prop}(h:rC w v n)(hk:Kept X w w')(hX:∀a,v=.iface 96 (.pointer (some a))->¬X a.block):rC w' v n:=by
 cases h with
 | bare n=>exact .bare n
 | at_ b n hb=>exact .at_ b n (hk.cell hb (hX _ rfl))
theorem aIU (v u:Value)(n:Int)(b c:Nat)(w:World)(hv:rC w v n)(hB:aO w b 26 [u])(hc:w.cell? ⟨c,0,none⟩=some (.pointer (some ⟨b,0,none⟩))) :
  bD Tryz.prog 124 [v,.iface 154 (.pointer (some ⟨b,0,none⟩)),.agg #[.pointer (some ⟨14,154,none⟩),.pointer (some ⟨c,0,none⟩),.int .u64 150],.iface 232 (.agg #[.pointer (some ⟨14,26,none⟩)])] w
   λr w'=>r=.bool true/\aO w' b 26 [.int .i64 n]/\Kept (·=b) w w':=by
 refine aE Tryz.func124 rfl (by kernel_rfl) [8] rfl ?_;push_cast -dsimp(maxSteps:=4000000) [Tryz.ntmps124];refine ah ?_;intro w1 au;push_cast -dsimp;refine aM [0,8,9,10,11,12,14,15,16,17,18,19,20,21,22,23,24,25,26,27,28,29,30,31,32,33,34,35,36,37,38,39,40,41,42,43,44,45,46,47,48,49,50,51,52,53,54,55,56,57,58,59,60,61] (λz wx=>rC wx (z 0) n/\Kept (λ_=>False) w1 wx) (λz _=>match z 0 with|.iface _ (.pointer _)=>1|_=>0) ?_ ?_
 ·exact⟨hv.mono (Kept.new au (X:=λ_=>False)) (λ_ _=>id),Kept.refl _ _⟩
 intro z wx hI;obtain⟨hv,hk⟩:=hI;have JI:Kept (λ_=>False) w wx:=(Kept.new au).trans hk (λ_ _=>id);have hB:=hB.kept JI id;have hc:=JI.cell hc id;have c1:aB wx ⟨w.heap.size,0,none⟩ 0 3=some [.pointer (some ⟨14,154,none⟩),.pointer (some ⟨c,0,none⟩),.int .u64 150] :=
  bL (b:=w.heap.size) (o:=0) [.pointer (some ⟨14,154,none⟩),.pointer (some ⟨c,0,none⟩),.int .u64 150] 0 (λj u hu=>hk.cell (by simpa using au.cell hu) id)
 generalize hz:z 0=v0 at hv;cases hv with
 | bare n =>
  push_cast -dsimp[hz];refine eR (e:=ReflectliteType.typeOf) Tryz.func168 (by kernel_rfl) (by kernel_rfl) (by kernel_rfl) (by kernel_rfl) (Yz _ _) ?_;push_cast -dsimp;refine oO (rR _ _) ?_;refine eR (e:=ReflectliteType.relation "AssignableTo" ReflectliteType.assignableTo) Tryz.func268 (by kernel_rfl) (by kernel_rfl) (by kernel_rfl) (by kernel_rfl) (WT _) ?_;push_cast -dsimp[c1];refine eR (e:=ReflectliteValue.method (ReflectliteValue.valueError "reflectlite.Value.Elem" 0) ReflectliteValue.elem) Tryz.func169 (by kernel_rfl) (by kernel_rfl) (by kernel_rfl) (by kernel_rfl) (Wx _ _ _ hc) ?_;push_cast -dsimp;refine eR (e:=λargs=>ReflectliteValue.unpack (args.getD 0 (.tuple #[]))) Tryz.func121 (by kernel_rfl) (by kernel_rfl) (by kernel_rfl) (by kernel_rfl) (Vg _ _) ?_;push_cast -dsimp;have hN:qR wx (wx.alloc (.cells #[.int .i64 n] 26)) 26 [.int .i64 n]:=⟨rfl⟩;generalize wx.alloc (.cells #[.int .i64 n] 26)=w2 at hN;have jK:=hB.kept (Kept.new hN (X:=λ_=>False)) id;have hf:w2.frozen? ⟨b,0,none⟩=false:=by
   simp only[World.frozen?];rw[show w2.heap[b]?=_ from jK]
   simp
  refine eR (e:=ReflectliteValue.set) Tryz.func170 (by kernel_rfl) (by kernel_rfl) (by kernel_rfl) (by kernel_rfl) (aLM _ _ n u _ (hN.cell rfl) (jK.cell rfl) hf) ?_;push_cast -dsimp;have hP:=Lz.q0 (cs:=[.int .i64 n]) jK;rw[setCell_eq_setRow w2 b 0 _ _ (0,0) _ jK];exact⟨hP.aN,(JI.trans (Kept.new hN (X:=λ_=>False)) (λ_ _=>id)).weaken (λ_ _ h=>h.elim) |>.trans hP.kept (λ_ _=>id)⟩
 | at_ a n ha =>
  push_cast -dsimp[hz];refine eR (e:=ReflectliteType.typeOf) Tryz.func168 (by kernel_rfl) (by kernel_rfl) (by kernel_rfl) (by kernel_rfl) (Yy _ _) ?_;push_cast -dsimp;refine oO (rR _ _) ?_;refine eR (e:=ReflectliteType.relation "AssignableTo" ReflectliteType.assignableTo) Tryz.func268 (by kernel_rfl) (by kernel_rfl) (by kernel_rfl) (by kernel_rfl) (WS _) ?_;push_cast -dsimp[c1];refine sY (z:=.nilIface) Tryz.underlying237 (by kernel_rfl) (by kernel_rfl) ?_;push_cast -dsimp;refine IX Tryz.underlying133 (by kernel_rfl) ?_;push_cast -dsimp;refine oO (Xz _ _) (aA (VV a n wx ha) ?_);rintro _ _ ⟨rfl,rfl⟩;push_cast -dsimp;exact⟨.bare n,hk⟩
theorem aEM (v u:Value)(n:Int)(b:Nat)(w:World)(hE:kX w)(hv:rC w v n)(hB:aO w b 26 [u]) :
  bD Tryz.prog 94 [v,.iface 154 (.pointer (some ⟨b,0,none⟩))] w
   λr w'=>r=.bool true/\aO w' b 26 [.int .i64 n]/\Kept (·=b) w w':=by
 obtain⟨ty,vv,hvv⟩:∃ty vv,v=.iface ty vv:=by cases hv<;>exact⟨_,_,rfl⟩
 refine aE Tryz.func94 rfl (by kernel_rfl) [4] rfl ?_;push_cast -dsimp(maxSteps:=4000000) [Tryz.ntmps94];subst hvv;push_cast -dsimp;refine eR (e:=λargs=>ReflectliteValue.unpack (args.getD 0 (.tuple #[]))) Tryz.func121 (by kernel_rfl) (by kernel_rfl) (by kernel_rfl) (by kernel_rfl) (PO _ _) ?_;have hN:qR w (w.alloc (.cells #[.pointer (some ⟨b,0,none⟩)] 154)) 154 [.pointer (some ⟨b,0,none⟩)]:=⟨rfl⟩;generalize w.alloc (.cells #[.pointer (some ⟨b,0,none⟩)] 154)=w1 at hN;have k1:Kept (λ_=>False) w w1:=Kept.new hN;push_cast -dsimp;refine aR (z:=[.pointer none,.pointer none,.int .u64 0]) (by kernel_rfl) ?_;intro w2 bT;have k2:=k1.trans (Kept.new (X:=λ_=>False) bT) (λ_ _=>id);push_cast -dsimp;refine aF (n:=3) (by kernel_rfl) bT.aN rfl (by simp) (by simp[Value.oneCell']) ?_;intro w3 bO;have k3:Kept (λk=>w.heap.size<=k) w w3:=(k2.weaken (λ_ _ h=>h.elim)).trans bO.kept (λi _ h=>by have:=hN.size;show w.heap.size<=i;omega)
 have Ip:=hB.kept k3 (by have:=hB.lt;omega);have c3:aB w3 ⟨w1.heap.size,0,none⟩ 0 3=some [.pointer (some ⟨14,154,none⟩),.pointer (some ⟨w.heap.size,0,none⟩),.int .u64 150] :=
  bL (b:=w1.heap.size) (o:=0) [.pointer (some ⟨14,154,none⟩),.pointer (some ⟨w.heap.size,0,none⟩),.int .u64 150] 0 (λj u hu=>by simpa using bO.aN.cell (by simpa using hu))
 push_cast -dsimp[c3];refine eR (e:=ReflectliteValue.methodAny (ReflectliteValue.valueError "reflectlite.Value.Type" 0) (λt _ _ _=>ReflectliteType.toType t)) Tryz.func122 (by kernel_rfl) (by kernel_rfl) (by kernel_rfl) (by kernel_rfl) (aDL _ _) ?_;have N9:Kept (λ_=>False) w w3:=⟨k3.os,k3.tape,k3.output,k3.size,λi hi _=>k3.block i hi (by omega)⟩;have Vq:kX w3:=N9.cell hE id;have nZ:w3.cell? ⟨w.heap.size,0,none⟩=some (.pointer (some ⟨b,0,none⟩)):=bO.kept.cell (World.cell?_of_block (w:=w1) (bT.below.block w.heap.size (by have:=hN.size;omega)) |>.trans (hN.cell rfl)) (by have:=hN.size;show ¬w.heap.size=w1.heap.size;omega)
 unfold kX at Vq;push_cast -dsimp;refine oO (aAm _ _) ?_;refine eR (e:=ReflectliteType.abiMethod λt=>do pure (.int .u8 (<-Rtype.kind t))) Tryz.func258 (by kernel_rfl) (by kernel_rfl) (by kernel_rfl) (by kernel_rfl) (aCp _) ?_;push_cast -dsimp[c3];refine eR (e:=ReflectliteValue.method (ReflectliteValue.valueError "reflectlite.Value.IsNil" 0) ReflectliteValue.isNil) Tryz.func123 (by kernel_rfl) (by kernel_rfl) (by kernel_rfl) (by kernel_rfl) (Xd _ _ _ nZ) ?_;push_cast -dsimp;refine oO (aHd _ _) ?_;refine eR (e:=ReflectliteType.method ReflectliteType.elem) Tryz.func270 (by kernel_rfl) (by kernel_rfl) (by kernel_rfl) (by kernel_rfl) (aAX _) ?_;push_cast -dsimp;refine oO (aAm _ _) ?_;refine eR (e:=ReflectliteType.abiMethod λt=>do pure (.int .u8 (<-Rtype.kind t))) Tryz.func258 (by kernel_rfl) (by kernel_rfl) (by kernel_rfl) (by kernel_rfl) (aG9 _) ?_;push_cast -dsimp[Vq];refine oO (G8 _ _) ?_;refine eR (e:=ReflectliteType.relation "Implements" ReflectliteType.implements_) Tryz.func271 (by kernel_rfl) (by kernel_rfl) (by kernel_rfl) (by kernel_rfl) (GR _) ?_;push_cast -dsimp[c3];refine aA (aIU _ u n b w.heap.size w3 (hv.mono N9 (λ_ _=>id)) Ip nZ) ?_;rintro _ w4 ⟨rfl,qW,XY⟩;push_cast -dsimp;exact⟨qW,(N9.weaken (λ_ _ h=>h.elim)).trans XY (λ_ _=>id)⟩
theorem Yo (w:World):bD Tryz.prog 62 [.nilIface] w λr w'=>r=.int .i64 0/\w'=w:=by
 refine aE Tryz.func62 rfl (by kernel_rfl) [2] rfl ?_;push_cast -dsimp(maxSteps:=4000000) [Tryz.ntmps62]
theorem aDm (v:Value)(n:Int)(w:World)(hE:kX w)(hv:rC w v n):bD Tryz.prog 62 [v] w λr w'=>r=.int .i64 n/\Below w.heap.size w w':=by
 obtain⟨ty,vv,hvv⟩:∃ty vv,v=.iface ty vv:=by cases hv<;>exact⟨_,_,rfl⟩
 refine aE Tryz.func62 rfl (by kernel_rfl) [2] rfl ?_;push_cast -dsimp(maxSteps:=4000000) [Tryz.ntmps62];subst hvv;push_cast -dsimp;refine aR (z:=[.int .i64 0]) (by kernel_rfl) ?_;intro w1 au;have k1:Kept (λ_=>False) w w1:=Kept.new au;push_cast -dsimp;refine aA (aEM _ _ n _ w1 (k1.cell hE id) (hv.mono k1 (λ_ _=>id)) au.aN) ?_;rintro _ w2 ⟨rfl,jK,iY⟩;have c2:=jK.cell (o:=0) rfl;push_cast -dsimp[c2];exact au.below.trans (iY.below (Nat.le_of_lt (by have:=au.size;omega)) (λi h=>by subst h;exact Nat.le_refl _))
inductive nz (w:World):Value->Int->Int->Prop
 | bare (n:Int):nz w (.iface 26 (.int .i64 n)) n (-1)
 | at_ (b:Nat) (n p:Int):w.cell? ⟨b,0,none⟩=some (.int .i64 n)->w.cell? ⟨b,1,none⟩=some (.int .i64 p)->nz w (.iface 96 (.pointer (some ⟨b,0,none⟩))) n p
theorem nz.aG5 {w:World}{v:Value}{n p:Int}(h:nz w v n p):rC w v n:=by
 cases h with
 | bare=>exact .bare _
 | at_ b _ _ h1 _=>exact .at_ b _ h1
theorem nz.below {w w':World}{v:Value}{n p:Int}(h:nz w v n p)(hk:Below w.heap.size w w'):nz w' v n p:=by
 cases h with
 | bare n=>exact .bare n
 | at_ b n p h1 h2=>exact .at_ b n p ((hk.cell (World.block_lt_of_cell? w _ h1)).trans h1) ((hk.cell (World.block_lt_of_cell? w _ h2)).trans h2)
theorem UW (w:World):bD Tryz.prog 34 [.nilIface] w λr w'=>r=.tuple #[.int .i64 0,.int .i64 (-1)]/\w'=w:=by
 refine aE Tryz.func34 rfl (by kernel_rfl) [2,3] rfl ?_;push_cast -dsimp(maxSteps:=4000000) [Tryz.ntmps34];refine aA (Yo w) ?_;rintro _ w1 ⟨rfl,au⟩;push_cast -dsimp;refine aM [0,2,3,5,6,7,8,11,12,13,14,15,16,17,18,19,20,21,22,23,24,25,26,27,28,29,30,31,32,33,34,35,36] (λz wx=>z 0=.nilIface/\wx=w1) (λ_ _=>0) ⟨rfl,rfl⟩ ?_;intro z wx hI;obtain⟨h0,hw⟩:=hI;push_cast -dsimp[h0];exact hw.trans au
theorem Y1 (v:Value)(n p:Int)(w:World)(hE:kX w)(hv:nz w v n p):bD Tryz.prog 34 [v] w λr w'=>r=.tuple #[.int .i64 n,.int .i64 p]/\Below w.heap.size w w':=by
 refine aE Tryz.func34 rfl (by kernel_rfl) [2,3] rfl ?_;push_cast -dsimp(maxSteps:=4000000) [Tryz.ntmps34];refine aA (aDm v n w hE hv.aG5) ?_;rintro _ w1 ⟨rfl,de⟩;push_cast -dsimp;refine aM [0,2,3,5,6,7,8,11,12,13,14,15,16,17,18,19,20,21,22,23,24,25,26,27,28,29,30,31,32,33,34,35,36] (λz wx=>z 0=v/\wx=w1) (λ_ _=>0) ⟨rfl,rfl⟩ ?_;rintro z wx ⟨h0,rfl⟩;have hv1:=hv.below de;cases hv1 with
 | bare n =>
  push_cast -dsimp[h0];refine dq (v:=.tuple #[.pointer none,.bool false]) (w':=wx) (by kernel_rfl) ?_;push_cast -dsimp;refine sY (z:=.nilIface) Tryz.underlying133 (by kernel_rfl) (by kernel_rfl) ?_;push_cast -dsimp;exact de
 | at_ b n p h1 h2 =>
  push_cast -dsimp[h0];refine dq (v:=.tuple #[.pointer (some ⟨b,0,none⟩),.bool true]) (w':=wx) (by kernel_rfl) ?_;push_cast -dsimp;refine aX (λw'=>w'=wx.drew) mixed (by kernel_rfl) rfl ?_;have d2:wx.drew.cell? ⟨b,1,none⟩=some (.int .i64 p):=h2;push_cast -dsimp[d2];exact⟨λar hw=>by subst hw;rw[d2];exact rfl,de.drew⟩
end Go.Proofs.YtodeeahdhnjpkaaGreatDoor
end
section
namespace Go.Proofs.YtodeeahdhnjpkaaGreatDoor
open Go.Deep Go.ChangeShapes Go.WideShapes Go.ChangeAt Go.RowKit Go.Vc Cae
theorem own:ownKnob Tryz.prog.godebug=none:=by kernel_rfl
theorem laidOut:laidOutB Tryz.prog=true:=by kernel_rfl
def aE3:List Int:=[0,1,56,2,57,49,28,3,61,58,42,50,38,29,17,4,62,47,59,36,45,43,51,22,53,39,33,30,24,18,12,5,63,55,48,27,60,41,37,16,46,35,44,21,52,32,23,11,54,26,40,15,34,20,31,10,25,14,19,9,13,8,7,6]
theorem aE4 {W:World}{l:List (String×DataW Unit)}(hl:(l.filter λx=>x.1 == "math/bits.deBruijn64tab")=[("math/bits.deBruijn64tab",Rows.laid_math_bits_deBruijn64tab)])(h:laidMetH Tryz.prog l W):Db W:=by
 have h:=h.filter (λx=>x.1 == "math/bits.deBruijn64tab");rw[hl,MakeChecks.laidMetH_plain _ _ _ (by kernel_rfl)]at h;have hg:Tryz.prog.globalNamed "math/bits.deBruijn64tab"=some 12:=by kernel_rfl
 have ht:Lib.TabIs Tryz.prog W "math/bits.deBruijn64tab" .u8 aE3:=Lib.tabIs_of_head (n:=64) (t:=317) (e:=5) hg (by kernel_rfl) (by kernel_rfl) (by kernel_rfl) (by kernel_rfl) (by kernel_rfl) h;exact ht.cell hg 15 (by decide)
theorem Wy {W:World}{l:List (String×DataW Unit)}(h1:(l.filter λx=>x.1 == "strconv.ErrSyntax")=[("strconv.ErrSyntax",Rows.laid_strconv_ErrSyntax)])(h2:(l.filter λx=>x.1 == "strconv.ErrRange")=[("strconv.ErrRange",Rows.laid_strconv_ErrRange)])(h:laidMetH Tryz.prog l W):lZ W:=by
 constructor
 ·have h:=h.filter (λx=>x.1 == "strconv.ErrSyntax");rw[h1,MakeChecks.laidMetH_plain _ _ _ (by kernel_rfl)]at h;obtain⟨ps,⟨g,t,cs,fuel,p,q,hg,ht,hv,hd,_,_⟩,_,_⟩:=h;obtain rfl:=Option.some.inj ((show Tryz.prog.globalNamed "strconv.ErrSyntax"=some 6 by kernel_rfl).symm.trans hg)
  obtain rfl:=Option.some.inj ((show (Tryz.prog.globals[6]?).map (·.type)=some 32 by kernel_rfl).symm.trans ht)
  obtain⟨_,u,v,je,_,_⟩:=iface_of_trod Tryz.underlying32 hd;obtain⟨lc⟩:=cs;have aBD:lc=[.iface u v]:=je;subst aBD;exact⟨u,v,by simpa using World.var?_cell hg hv 0⟩
 have h:=h.filter (λx=>x.1 == "strconv.ErrRange");rw[h2,MakeChecks.laidMetH_plain _ _ _ (by kernel_rfl)]at h;obtain⟨ps,⟨g,t,cs,fuel,p,q,hg,ht,hv,hd,_,_⟩,_,_⟩:=h;obtain rfl:=Option.some.inj ((show Tryz.prog.globalNamed "strconv.ErrRange"=some 7 by kernel_rfl).symm.trans hg)
 obtain rfl:=Option.some.inj ((show (Tryz.prog.globals[7]?).map (·.type)=some 32 by kernel_rfl).symm.trans ht)
 obtain⟨_,u,v,je,_,_⟩:=iface_of_trod Tryz.underlying32 hd;obtain⟨lc⟩:=cs;have aBD:lc=[.iface u v]:=je;subst aBD;exact⟨u,v,by simpa using World.var?_cell hg hv 0⟩
def aHb:List (String×DataW Unit):=[("errors.errorType",Rows.laid_errors_errorType)]
theorem Ml {W:World}{l:List (String×DataW Unit)}(hl:(l.filter λx=>x.2.handleName?.isSome)=aHb)(h:laidMetH Tryz.prog l W):kX W:=by
 have h':=(laidMetH_iff.1 h).2;obtain⟨name,u,ty,e1,e2,e3,e4,e5⟩:=h' ("errors.errorType",Rows.laid_errors_errorType) (by rw[hl];exact List.mem_singleton.2 rfl);have en:name=[101,114,114,111,114]:=(Option.some.inj e1).symm;subst en;obtain rfl:=Option.some.inj ((show (Tryz.prog.cutTypes.find? (·.1 == "internal/reflectlite.rtype")).map (·.2)=some 232 by kernel_rfl).symm.trans e2)
 have hm:ty∈(List.range Tryz.prog.types.size).filter λt=>Tryz.prog.rowNamed t [101,114,114,111,114]:=List.mem_filter.2 ⟨List.mem_range.2 e3,e4⟩;rw[show ((List.range Tryz.prog.types.size).filter λt=>Tryz.prog.rowNamed t [101,114,114,111,114])=[32] by kernel_rfl]at hm
 obtain rfl:=List.mem_singleton.1 hm;rw[show typeHandle Tryz.prog 32=.pointer (some ⟨14,32,none⟩) by kernel_rfl]at e5
 have:=World.var?_cell (show Tryz.prog.globalNamed "errors.errorType"=some 3 by kernel_rfl) e5 0
 unfold kX;simpa using this
theorem Iz {H:Type}{enc:TypeId×Value->H}{a:Assume}{C:Checked}{os:Os}{f:FuncId}{fn:Func}{s:ChangeSpec}{conds:List PathCond}{apart fresh handsOn again:Bool}{X:World->Array Value->Prop}
  (hX:∀(w w':World) (args:Array Value),w.heap=w'.heap->X w args->X w' args)
  (own:ownKnob C.prog.godebug=none) (started:os.Started) (aCQ:C.prog.inits.idxOf? f=none) (hfn:C.prog.funcs[f]?=some fn)
  (witness:∃(w:World) (tape:Tape) (i:Input),w.os=os/\(w.forCall tape i).Shaped C.prog/\i.vars=[]/\Input.okWide C.prog (w.forCall tape i) .any w.heap.size f i /\
   ((s.pre enc C.prog fn conds apart (w.forCall tape i).memory i.args/\X (w.forCall tape i).memory i.args)/\sizedMet enc C.prog fn (OpenSpec.ofChange s) apart (w.forCall tape i).memory i.args)/\a.holds C.prog (lone (Frame.enter C.prog f i.args .normal) [] (w.forCall tape i)))
  (RQ:∀(W:World) (base:Nat) (args:Array Value) (ds gs:List (DataW H)) (before:List MemPlace),
   (∀(j:Nat) t v,fn.params[j]?=some t->args[j]?=some v->Value.okWide C.prog W .any base t v) ->
   DataW.Whole enc C.prog fn.params.toList s.vars apart W args.toList ds gs before ->
   (DataW.weightsEach C.prog (fn.params.toList++s.plain.varTypes C.prog) (ds++gs)).all (·<=reachBytes)=true->X W args->W.ShapedOpen C.prog ->
   Calls C.prog f args W λe W'=>∃v,e=.returned v/\s.post enc C.prog fn apart fresh handsOn again W args v W') :
  ReturnsInHanded a C os f .any (λw args=>(s.pre enc C.prog fn conds apart w args/\X w args)/\sizedMet enc C.prog fn (OpenSpec.ofChange s) apart w args) (s.post enc C.prog fn apart fresh handsOn again):=by
 refine returnsInHanded_of_calls own started aCQ witness ?_;intro w tape i _ eM _ cD aB3 aKA;obtain⟨_,_,_,fn',aKl,_,_,_,_,qw⟩:=cD;have e:fn'=fn:=Option.some.inj (aKl.symm.trans hfn);subst e;obtain⟨⟨⟨ds,gs,before,hw,hc⟩,hx⟩,hz⟩:=aB3;have wI:=DataW.Whole.of_heap (w':=w.forCall tape i) (by rfl) hw;refine(RQ (w.forCall tape i) w.heap.size i.args ds gs before qw wI (hz.weights hw) (hX _ _ _ (by rfl) hx) eM).mono λe W' ⟨v,he,hp⟩=>?_;subst he;exact ChangeSpec.post_blind hp
section
variable {H:Type} {enc:TypeId×Value->H} {W:World} {base:Nat} {sp:Nat->Bool} {held:Bool}
end
noncomputable def LJ (P:Program)(w:World)(fuel M:Nat)(l:List String):Option (List (String×DataW Unit)) :=
 (DataW.laidRun P w fuel l).bind λx=>if nodupBits M x.2 0 && laidRowsB P w x.2 then some x.1 else none
theorem G1 {P:Program}{w:World}{l:List (String×DataW Unit)}(fuel M:Nat)(h:LJ P w fuel M (l.map (·.1))=some l):laidMet P l w:=by
 unfold LJ at h;rw[Option.bind_eq_some_iff]at h;obtain⟨x,hx,h⟩:=h;split at h
 ·rename_i hb;rw[Bool.and_eq_true]at hb;cases h;exact laidMet_of_run (ps:=x.2) fuel hx (decide_eq_true (nodupBits_sound hb.1).1) hb.2
 cases h
theorem aHt {W:World}{l:List (String×DataW Unit)}(hl:(l.filter λx=>x.1 == "strings.asciiSpace")=[("strings.asciiSpace",Rows.laid_strings_asciiSpace)])(h:laidMetH Tryz.prog l W):Lib.TabIs Tryz.prog W "strings.asciiSpace" .u8 Lib.asciiSpaceTab:=by
 have h:=h.filter (λx=>x.1 == "strings.asciiSpace");rw[hl,MakeChecks.laidMetH_plain _ _ _ (by kernel_rfl)]at h;have hg:Tryz.prog.globalNamed "strings.asciiSpace"=some 4:=by kernel_rfl
 exact Lib.tabIs_of_head (n:=256) (t:=211) (e:=5) hg (by kernel_rfl) (by kernel_rfl) (by kernel_rfl) (by kernel_rfl) (by kernel_rfl) h
def KJ:Go.Shelf.Ren:=⟨λ| 199=>147|261=>178|311=>206|312=>207|n=>n,λ| 21=>21|4=>4|51=>206|141=>254|0=>0|196=>277|193=>274|3=>3|198=>280|49=>278|194=>275|201=>283|226=>301|46=>109|227=>302|n=>n,λ| 6=>5|n=>n⟩
theorem aDg:Go.Proofs.Lays.n199 Tryz.prog KJ:={
 mixed:=by kernel_rfl
 f199:=Tryz.func147.trans (congrArg some (by kernel_rfl))
 f261:=Tryz.func178.trans (congrArg some (by kernel_rfl))
 f311:=Tryz.func206.trans (congrArg some (by kernel_rfl))
 f312:=Tryz.func207.trans (congrArg some (by kernel_rfl))
 t0:=Tryz.underlying0
 a0:=Tryz.isAgg0
 z0:=Tryz.sizeOf0
 v0:=Tryz.zeroValue0
 t3:=Tryz.underlying3
 a3:=Tryz.isAgg3
 z3:=Tryz.sizeOf3
 v3:=Tryz.zeroValue3
 t4:=Tryz.underlying4
 a4:=Tryz.isAgg4
 z4:=Tryz.sizeOf4
 v4:=Tryz.zeroValue4
 t21:=Tryz.underlying21
 a21:=Tryz.isAgg21
 z21:=Tryz.sizeOf21
 v21:=Tryz.zeroValue21
 t46:=Tryz.underlying109
 a46:=Tryz.isAgg109
 z46:=Tryz.sizeOf109
 v46:=Tryz.zeroValue109
 t49:=Tryz.underlying278
 a49:=Tryz.isAgg278
 z49:=Tryz.sizeOf278
 v49:=Tryz.zeroValue278
 t51:=Tryz.underlying206
 a51:=Tryz.isAgg206
 z51:=Tryz.sizeOf206
 v51:=Tryz.zeroValue206
 t141:=Tryz.underlying254
 a141:=Tryz.isAgg254
 z141:=Tryz.sizeOf254
 v141:=Tryz.zeroValue254
 t193:=Tryz.underlying274
 a193:=Tryz.isAgg274
 z193:=Tryz.sizeOf274
 v193:=Tryz.zeroValue274
 t194:=Tryz.underlying275
 a194:=Tryz.isAgg275
 z194:=Tryz.sizeOf275
 v194:=Tryz.zeroValue275
 t196:=Tryz.underlying277
 a196:=Tryz.isAgg277
 z196:=Tryz.sizeOf277
 v196:=Tryz.zeroValue277
 t198:=Tryz.underlying280
 a198:=Tryz.isAgg280
 z198:=Tryz.sizeOf280
 v198:=Tryz.zeroValue280
 t201:=Tryz.underlying283
 a201:=Tryz.isAgg283
 z201:=Tryz.sizeOf283
 v201:=Tryz.zeroValue283
 t226:=Tryz.underlying301
 a226:=Tryz.isAgg301
 z226:=Tryz.sizeOf301
 v226:=Tryz.zeroValue301
 t227:=Tryz.underlying302
 a227:=Tryz.isAgg302
 z227:=Tryz.sizeOf302
 v227:=Tryz.zeroValue302
 g6:=by kernel_rfl }
theorem aHI {W:World}{l:List (String×DataW Unit)}(hl:(l.filter λx=>x.1 == "unicode.White_Space")=[("unicode.White_Space",Rows.laid_unicode_White_Space)])(h:laidMetH Tryz.prog l W):Lib.WhiteTab 5 W:=by
 have h:=h.filter (λx=>x.1 == "unicode.White_Space");rw[hl,MakeChecks.laidMetH_plain _ _ _ (by kernel_rfl)]at h;have e:(Rows.laid_unicode_White_Space:DataW Unit)=Lib.whiteData:=by kernel_rfl
 have hr:=Lib.laidMet.reads h (n := "unicode.White_Space") (d:=Rows.laid_unicode_White_Space) (List.mem_singleton.2 rfl);rw[e]at hr;exact whiteTab_of_reads aDg ⟨by kernel_rfl,by kernel_rfl,by kernel_rfl,by kernel_rfl,by kernel_rfl,by kernel_rfl,by kernel_rfl,by kernel_rfl⟩ hr
theorem aHB {W:World}{l:List (String×DataW Unit)}(h1:(l.filter λx=>x.1 == "strings.asciiSpace")=[("strings.asciiSpace",Rows.laid_strings_asciiSpace)])(h2:(l.filter λx=>x.1 == "unicode.White_Space")=[("unicode.White_Space",Rows.laid_unicode_White_Space)])(h:laidMetH Tryz.prog l W)(hs:W.ShapedOpen Tryz.prog):Tv W :=
 ⟨cell_of_shapedOpen_int (g:=2) (zero:=#[.int .i64 0]) hs (by decide +kernel) (by kernel_rfl) (by kernel_rfl) (by kernel_rfl) (by kernel_rfl) Tryz.underlying3,aHt h1 h,aHI h2 h⟩
theorem Ko {W:World}{l:List (String×DataW Unit)}(hl:(l.filter λx=>x.1 == "caesura/caesuraref.Fine")=[("caesura/caesuraref.Fine",Rows.laid_caesura_caesuraref_Fine)])(h:laidMetH Tryz.prog l W):W.cell? ⟨0,0,none⟩=some (.int .i64 0)/\W.cell? ⟨0,1,none⟩=some (.int .i64 (-1)):=by
 have h:=h.filter (λx=>x.1 == "caesura/caesuraref.Fine");rw[hl,MakeChecks.laidMetH_plain _ _ _ (by kernel_rfl)]at h;obtain⟨ps,⟨g,t,cs,fuel,p,q,hg,ht,hv,hd,_,_⟩,_,_⟩:=h;obtain rfl:=Option.some.inj ((show Tryz.prog.globalNamed "caesura/caesuraref.Fine"=some 0 by kernel_rfl).symm.trans hg)
 obtain rfl:=Option.some.inj ((show (Tryz.prog.globals[0]?).map (·.type)=some 28 by kernel_rfl).symm.trans ht)
 obtain⟨xs,m,_,ex,hlen,hl,AF⟩:=DataW.trod_struct Tryz.underlying28 hd;rw[show Tryz.prog.cellsOf 28=2 by kernel_rfl]at hlen
 have key:cs=#[.int .i64 0,.int .i64 (-1)]:=by
  obtain⟨l⟩:=cs;match l,hlen with
  | [a,b],_ =>
   match xs,hl with
   | [x0,x1],_ =>
    have e3:=(DataW.agg.inj (Prod.mk.inj ex).1);simp only[List.map_cons,List.map_nil,List.cons.injEq,and_true]at e3;have k0:=AF 0 _ rfl;have k1:=AF 1 _ rfl;obtain⟨z0,a0,b0,_⟩:=DataW.trod_int Tryz.underlying26 k0;obtain⟨z1,a1,b1,_⟩:=DataW.trod_int Tryz.underlying3 k1;have c0:Tryz.prog.cellsOf 26=1:=by kernel_rfl
    have c1:Tryz.prog.cellsOf 3=1:=by kernel_rfl
    have a0':List.take (Tryz.prog.cellsOf 26) [a,b]=[.int .i64 z0]:=a0;have a1':List.take (Tryz.prog.cellsOf 3) [b]=[.int .i64 z1]:=a1;rw[c0]at a0';rw[c1]at a1';have n0:a=.int .i64 z0:=by simpa using a0'
    have n1:b=.int .i64 z1:=by simpa using a1'
    subst b0 b1;have e4:(0:Int)=z0/\(-1:Int)=z1:=by simpa using e3
    rw[n0,n1,<-e4.1,<-e4.2]
 subst key;exact⟨by simpa using World.var?_cell hg hv 0,by simpa using World.var?_cell hg hv 1⟩
theorem aHh {W:World}(h:W.ShapedOpen Tryz.prog):14<=W.heap.size:=by
 obtain⟨o,o0,h1,_⟩:=h.2 14 (of_decide_eq_true (by kernel_rfl)) (of_decide_eq_true (by kernel_rfl))
 have:=(Array.getElem?_eq_some_iff.1 h1).1;omega
theorem aFo {W:World}{l:List (String×DataW Unit)}(h0:(l.filter λx=>x.1 == "math/bits.deBruijn64tab")=[("math/bits.deBruijn64tab",Rows.laid_math_bits_deBruijn64tab)])(h1:(l.filter λx=>x.1 == "strconv.ErrSyntax")=[("strconv.ErrSyntax",Rows.laid_strconv_ErrSyntax)])(h2:(l.filter λx=>x.1 == "strconv.ErrRange")=[("strconv.ErrRange",Rows.laid_strconv_ErrRange)])
  (h3:(l.filter λx=>x.1 == "strings.asciiSpace")=[("strings.asciiSpace",Rows.laid_strings_asciiSpace)]) (h4:(l.filter λx=>x.1 == "unicode.White_Space")=[("unicode.White_Space",Rows.laid_unicode_White_Space)]) (h5:(l.filter λx=>x.1 == "caesura/caesuraref.Fine")=[("caesura/caesuraref.Fine",Rows.laid_caesura_caesuraref_Fine)]) (h:laidMetH Tryz.prog l W) (hs:W.ShapedOpen Tryz.prog):Gr W :=
 ⟨aE4 h0 h,Wy h1 h2 h,aHB h3 h4 h hs,(Ko h5 h).1,(Ko h5 h).2⟩
end Go.Proofs.YtodeeahdhnjpkaaGreatDoor
end
section
namespace Cae
def cz (pts:List Int)(back:Bool)(i:Nat):Option (Nat×Int) :=
 if back then (if i=0 then none else (pts[i-1]?).map λp=>(i-1,p)) else (pts[i]?).map λp=>(i+1,p)
def iterM (R:Nat->Nat->Prop):Nat->Nat->Nat->Prop
 | 0,i,j=>i=j
 | n+1,i,j=>∃m,R i m/\iterM R n m j
section
variable (has:ax->Int->Prop) (pts:List Int) (back:Bool)
mutual
def dK:aI->Nat->Nat->Prop
 | .one k,i,j=>∃p,cz pts back i=some (j,p)/\has k p
 | .any,i,j=>∃p,cz pts back i=some (j,p)
 | .iA,i,j=>i=j/\cz pts back i=none
 | .cat l,i,j=>if back then lJ l i j else jU l i j
 | .alt l,i,j=>nJ l i j
 | .many x lo hi,i,j=>∃n:Nat,lo<=n/\(hi<0\/(n:Int)<=hi)/\iterM (λa b=>dK x a b) n i j
def jU:List aI->Nat->Nat->Prop
 | [],i,j=>i=j
 | x::l,i,j=>∃m,dK x i m/\jU l m j
def lJ:List aI->Nat->Nat->Prop
 | [],i,j=>i=j
 | x::l,i,j=>∃m,lJ l i m/\dK x m j
def nJ:List aI->Nat->Nat->Prop
 | [],_,_=>False
 | x::l,i,j=>dK x i j\/nJ l i j
end
end
section
variable {has:ax->Int->Prop} {pts:List Int} {back:Bool}
theorem Y9 {l:List aI}{i j:Nat}:dK has pts back (.cat l) i j↔(if back then lJ has pts back l i j else jU has pts back l i j):=by simp only[dK]
theorem tS {x:aI}{lo hi:Int}{i j:Nat}:dK has pts back (.many x lo hi) i j↔∃n:Nat,lo<=n/\(hi<0\/(n:Int)<=hi)/\iterM (dK has pts back x) n i j:=by simp only[dK]
theorem tR {l m:List aI}{i j:Nat}:jU has pts back (l++m) i j↔∃k,jU has pts back l i k/\jU has pts back m k j:=by
 induction l generalizing i with
 | nil=>simp[jU]
 | cons x l ih =>
  simp only[List.cons_append,jU];constructor
  ·rintro⟨a,h1,h2⟩;obtain⟨k,h3,h4⟩:=ih.1 h2;exact⟨k,⟨a,h1,h3⟩,h4⟩
  rintro⟨k,⟨a,h1,h3⟩,h4⟩;exact⟨a,h1,ih.2 ⟨k,h3,h4⟩⟩
theorem Ua {l m:List aI}{i j:Nat}:lJ has pts back (l++m) i j↔∃k,lJ has pts back m i k/\lJ has pts back l k j:=by
 induction l generalizing j with
 | nil=>simp[lJ]
 | cons x l ih =>
  simp only[List.cons_append,lJ];constructor
  ·rintro⟨a,h1,h2⟩;obtain⟨k,h3,h4⟩:=ih.1 h1;exact⟨k,h3,a,h4,h2⟩
  rintro⟨k,h3,a,h4,h2⟩;exact⟨a,ih.2 ⟨k,h3,h4⟩,h2⟩
theorem y7 {l:List aI}{i j:Nat}:nJ has pts back l i j↔∃x∈l,dK has pts back x i j:=by
 induction l with
 | nil=>simp[nJ]
 | cons x l ih=>simp[nJ,ih]
theorem jm {R:Nat->Nat->Prop}:∀{n i j:Nat},iterM R (n+1) i j↔∃m,iterM R n i m/\R m j
 | 0,i,j=>by simp[iterM]
 | n+1,i,j=>by
  constructor
  ·rintro⟨a,h1,h2⟩;obtain⟨b,h3,h4⟩:=jm.1 h2;exact⟨b,⟨a,h1,h3⟩,h4⟩
  rintro⟨b,⟨a,h1,h3⟩,h4⟩;exact⟨a,h1,jm.2 ⟨b,h3,h4⟩⟩
theorem nq {i j:Nat}{p:Int}(h:cz pts back i=some (j,p))(hi:i<=pts.length):j<=pts.length:=by
 unfold cz at h;split at h
 ·split at h
  ·cases h
  cases hp:pts[i-1]? with
  | none=>rw[hp]at h;cases h
  | some q=>rw[hp]at h;cases h;omega
 cases hp:pts[i]? with
 | none=>rw[hp]at h;cases h
 | some q =>
  rw[hp]at h;cases h
  have:=(List.getElem?_eq_some_iff.1 hp).1;omega
theorem xv {R:Nat->Nat->Prop}{N:Nat}(h:∀i j,i<=N->R i j->j<=N):∀{n i j:Nat},i<=N->iterM R n i j->j<=N
 | 0,_,_,hi,e=>by cases e;exact hi
 | n+1,_,_,hi,⟨m,h1,h2⟩=>xv h (h _ _ hi h1) h2
mutual
theorem ja:∀(x:aI) {i j:Nat},i<=pts.length->dK has pts back x i j->j<=pts.length
 | .one k,i,j,hi,h=>by simp only[dK]at h;obtain⟨p,h,_⟩:=h;exact nq h hi
 | .any,i,j,hi,h=>by simp only[dK]at h;obtain⟨p,h⟩:=h;exact nq h hi
 | .iA,i,j,hi,h=>by simp only[dK]at h;omega
 | .cat l,i,j,hi,h=>by
  simp only[dK]at h;split at h
  ·exact q5 l hi h
  exact wP l hi h
 | .alt l,i,j,hi,h=>by simp only[dK]at h;exact L1 l hi h
 | .many x lo AI,i,j,hi,h=>by
  simp only[dK]at h;obtain⟨n,_,_,h⟩:=h;exact xv (λa b ha hr=>ja x ha hr) hi h
theorem wP:∀(l:List aI) {i j:Nat},i<=pts.length->jU has pts back l i j->j<=pts.length
 | [],i,j,hi,h=>by simp only[jU]at h;omega
 | x::l,i,j,hi,h=>by simp only[jU]at h;obtain⟨m,h1,h2⟩:=h;exact wP l (ja x hi h1) h2
theorem q5:∀(l:List aI) {i j:Nat},i<=pts.length->lJ has pts back l i j->j<=pts.length
 | [],i,j,hi,h=>by simp only[lJ]at h;omega
 | x::l,i,j,hi,h=>by simp only[lJ]at h;obtain⟨m,h1,h2⟩:=h;exact ja x (q5 l hi h1) h2
theorem L1:∀(l:List aI) {i j:Nat},i<=pts.length->nJ has pts back l i j->j<=pts.length
 | [],i,j,hi,h=>by simp only[nJ]at h
 | x::l,i,j,hi,h=>by
  simp only[nJ]at h;rcases h with h|h
  ·exact ja x hi h
  exact L1 l hi h
end
end
mutual
def pt:aI->aI
 | .one k=>.one k
 | .any=>.any
 | .iA=>.iA
 | .cat l=>.cat (mE l).reverse
 | .alt l=>.alt (mE l)
 | .many x lo hi=>.many (pt x) lo hi
def mE:List aI->List aI
 | []=>[]
 | x::l=>pt x::mE l
end
section
variable {has:ax->Int->Prop} {pts:List Int} {back:Bool}
theorem tZ {i j:Nat}{p:Int}(hi:i<=pts.length)(hj:j<=pts.length):cz pts.reverse (!back) (pts.length-i)=some (pts.length-j,p)↔cz pts back i=some (j,p):=by
 unfold cz;cases back with
 | true =>
  simp only[Bool.not_true,Bool.false_eq_true,if_false,if_true];by_cases h0:i=0
  ·subst h0;rw[if_pos rfl,List.getElem?_eq_none (by simp)];simp
  rw[if_neg h0];have h1:pts.reverse[pts.length-i]?=pts[i-1]?:=by
   rw[List.getElem?_reverse (by omega)];congr 1;omega
  rw[h1];cases pts[i-1]? with
  | none=>simp
  | some q=>simp;intro _;omega
 | false =>
  simp only[Bool.not_false,Bool.false_eq_true,if_false,if_true];by_cases h0:i=pts.length
  ·subst h0;rw[if_pos (by omega),List.getElem?_eq_none (by omega)];simp
  rw[if_neg (by omega)];have h1:pts.reverse[pts.length-i-1]?=pts[i]?:=by
   rw[List.getElem?_reverse (by omega)];congr 1;omega
  rw[h1];cases pts[i]? with
  | none=>simp
  | some q=>simp;intro _;omega
theorem Oy {i:Nat}(hi:i<=pts.length):cz pts.reverse (!back) (pts.length-i)=none↔cz pts back i=none:=by
 constructor
 ·intro h;cases h2:cz pts back i with
  | none=>rfl
  | some q =>
   obtain⟨j,p⟩:=q
   have:=(tZ hi (nq h2 hi)).2 h2;rw[h]at this;cases this
 intro h;cases h2:cz pts.reverse (!back) (pts.length-i) with
 | none=>rfl
 | some q =>
  obtain⟨j,p⟩:=q;have hj:j<=pts.length:=by have:=nq h2 (by simp);simpa using this
  have e:j=pts.length-(pts.length-j):=by omega
  rw[e]at h2
  have:=(tZ hi (by omega)).1 h2;rw[h]at this;cases this
theorem xw {R S:Nat->Nat->Prop}{N:Nat}(hR:∀i j,i<=N->R i j->j<=N)(hS:∀i j,i<=N->S i j->j<=N)(h:∀i j,i<=N->j<=N->(S (N-i) (N-j)↔R i j)):∀{n i j:Nat},i<=N->j<=N->(iterM S n (N-i) (N-j)↔iterM R n i j)
 | 0,i,j,hi,hj=>by simp only[iterM];omega
 | n+1,i,j,hi,hj=>by
  constructor
  ·rintro⟨m,h1,h2⟩;have hm:m<=N:=hS _ _ (by omega) h1;have e:m=N-(N-m):=by omega
   rw[e]at h1 h2;exact⟨N-m,(h i (N-m) hi (by omega)).1 h1,(xw hR hS h (by omega) hj).1 h2⟩
  rintro⟨m,h1,h2⟩;have hm:m<=N:=hR _ _ hi h1;exact⟨N-m,(h i m hi hm).2 h1,(xw hR hS h hm hj).2 h2⟩
mutual
theorem mi:∀(back:Bool) (x:aI) {i j:Nat},i<=pts.length->j<=pts.length->(dK has pts.reverse (!back) (pt x) (pts.length-i) (pts.length-j)↔dK has pts back x i j)
 | back,.one k,i,j,hi,hj=>by
  simp only[pt,dK];exact exists_congr λp=>and_congr (tZ hi hj) Iff.rfl
 | back,.any,i,j,hi,hj=>by
  simp only[pt,dK];exact exists_congr λp=>tZ hi hj
 | back,.iA,i,j,hi,hj=>by
  simp only[pt,dK];exact and_congr (by omega) (Oy hi)
 | back,.cat l,i,j,hi,hj=>by
  simp only[pt,dK];cases back with
  | true =>
   simp only[Bool.not_true,Bool.false_eq_true,if_false,if_true];exact y9 l hi hj
  | false =>
   simp only[Bool.not_false,Bool.false_eq_true,if_false,if_true];exact y8 l hi hj
 | back,.alt l,i,j,hi,hj=>by
  simp only[pt,dK];exact Gw back l hi hj
 | back,.many x lo AI,i,j,hi,hj=>by
  simp only[pt,dK];refine exists_congr λn=>and_congr Iff.rfl (and_congr Iff.rfl ?_);exact xw (λa b ha hr=>ja x ha hr) (λa b ha hr=>by have:=ja (pt x) (pts:=pts.reverse) (by simpa using ha) hr;simpa using this) (λa b ha hb=>mi back x ha hb) hi hj
theorem y9:∀(l:List aI) {i j:Nat},i<=pts.length->j<=pts.length->(jU has pts.reverse (!true) (mE l).reverse (pts.length-i) (pts.length-j)↔lJ has pts true l i j)
 | [],i,j,hi,hj=>by simp only[mE,List.reverse_nil,jU,lJ];omega
 | x::l,i,j,hi,hj=>by
  simp only[mE,List.reverse_cons,lJ];rw[tR];simp only[jU];constructor
  ·rintro⟨k,h1,m,h2,h3⟩;subst h3;have hk:k<=pts.length:=by have:=wP (pts:=pts.reverse) _ (by simp) h1;simpa using this
   have e:k=pts.length-(pts.length-k):=by omega
   rw[e]at h1 h2;exact⟨pts.length-k,(y9 l hi (by omega)).1 h1,(mi true x (by omega) hj).1 h2⟩
  rintro⟨m,h1,h2⟩;have hm:m<=pts.length:=q5 l hi h1;exact⟨pts.length-m,(y9 l hi hm).2 h1,_,(mi true x hm hj).2 h2,rfl⟩
theorem y8:∀(l:List aI) {i j:Nat},i<=pts.length->j<=pts.length->(lJ has pts.reverse (!false) (mE l).reverse (pts.length-i) (pts.length-j)↔jU has pts false l i j)
 | [],i,j,hi,hj=>by simp only[mE,List.reverse_nil,jU,lJ];omega
 | x::l,i,j,hi,hj=>by
  simp only[mE,List.reverse_cons,jU];rw[Ua];simp only[lJ];constructor
  ·rintro⟨k,⟨m,h3,h1⟩,h2⟩;subst h3;have hk:k<=pts.length:=by have:=ja (pts:=pts.reverse) _ (by simp) h1;simpa using this
   have e:k=pts.length-(pts.length-k):=by omega
   rw[e]at h1 h2;exact⟨pts.length-k,(mi false x hi (by omega)).1 h1,(y8 l (by omega) hj).1 h2⟩
  rintro⟨m,h1,h2⟩;have hm:m<=pts.length:=ja x hi h1;exact⟨pts.length-m,⟨_,rfl,(mi false x hi hm).2 h1⟩,(y8 l hm hj).2 h2⟩
theorem Gw:∀(back:Bool) (l:List aI) {i j:Nat},i<=pts.length->j<=pts.length->(nJ has pts.reverse (!back) (mE l) (pts.length-i) (pts.length-j)↔nJ has pts back l i j)
 | back,[],i,j,hi,hj=>by simp only[mE,nJ]
 | back,x::l,i,j,hi,hj=>by
  simp only[mE,nJ];exact or_congr (mi back x hi hj) (Gw back l hi hj)
end
end
open Classical
section
variable (has:ax->Int->Prop) (pts:List Int)
def qd (x:aI)(i:Nat)(back:Bool):Prop:=∃j,dK has pts back x i j
def yJ (r:cW)(i:Nat):Prop:=qd has pts r.before i true/\qd has pts r.after i false
noncomputable def ml (els:Bool)(i:Nat):List cW->Bool
 | []=>els
 | r::l=>if yJ has pts r i then r.brk else ml els i l
noncomputable def Hz (rules:List cW)(els:Bool)(i:Nat):Bool:=ml has pts els i rules || decide (i=0) || decide (i=pts.length)
noncomputable def jx (rules:List cW)(els:Bool):List Nat:=if pts=[] then [] else (List.range (pts.length+1)).filter (Hz has pts rules els)
end
section
variable {has:ax->Int->Prop} {pts:List Int}
end
open Classical
section
variable {has:ax->Int->Prop} {pts:List Int} {back:Bool}
end
noncomputable def jf (N:Nat)(R:Nat->Nat->Prop)(from_:List Nat):List Nat:=(List.range (N+1)).filter λj=>decide (∃i∈from_,R i j)
theorem fw {N:Nat}{R:Nat->Nat->Prop}{l:List Nat}{j:Nat}:j∈jf N R l↔j<=N/\∃i∈l,R i j:=by
 unfold jf;rw[List.mem_filter,List.mem_range,Nat.lt_succ_iff,decide_eq_true_iff]
theorem cU (N:Nat)(R:Nat->Nat->Prop)(l:List Nat):(jf N R l).Pairwise (·<·):=List.Pairwise.filter _ List.pairwise_lt_range
theorem tU {l m:List Nat}(hl:l.Pairwise (·<·))(hm:m.Pairwise (·<·))(h:∀i,i∈l↔i∈m):l=m :=
 List.Perm.eq_of_pairwise (λa b _ _ h1 h2=>by omega) hl hm ((List.perm_ext_iff_of_nodup (hl.imp λh=>Nat.ne_of_lt h) (hm.imp λh=>Nat.ne_of_lt h)).2 h)
theorem cZ {N:Nat}{l:List Nat}(hl:l.Pairwise (·<·))(h:∀i∈l,i<=N):l.length<=N+1:=by
 have e:l=(List.range (N+1)).filter λi=>decide (i∈l):=tU hl (List.Pairwise.filter _ List.pairwise_lt_range) λi=>by
  rw[List.mem_filter,List.mem_range,Nat.lt_succ_iff,decide_eq_true_iff];exact⟨λhi=>⟨h i hi,hi⟩,λhi=>hi.2⟩
 rw[e];exact Nat.le_trans (List.length_filter_le _ _) (by simp)
section
variable {R:Nat->Nat->Prop} {N:Nat}
def stM (R:Nat->Nat->Prop)(l:List Nat)(n:Nat)(j:Nat):Prop:=∃i∈l,iterM R n i j
theorem mK {l:List Nat}{n j:Nat}:stM R l (n+1) j↔∃m,stM R l n m/\R m j:=by
 constructor
 ·rintro⟨i,hi,h⟩;obtain⟨m,h1,h2⟩:=jm.1 h;exact⟨m,⟨i,hi,h1⟩,h2⟩
 rintro⟨m,⟨i,hi,h1⟩,h2⟩;exact⟨i,hi,jm.2 ⟨m,h1,h2⟩⟩
theorem Dh {l:List Nat}{k:Nat}(h:∀j,stM R l (k+1) j↔stM R l k j):∀t j,stM R l (k+t) j↔stM R l k j
 | 0,j=>Iff.rfl
 | t+1,j=>by
  rw[show k+(t+1)=(k+t)+1 by omega,mK]
  constructor
  ·rintro⟨m,h1,h2⟩;exact(h j).1 (mK.2 ⟨m,(Dh h t m).1 h1,h2⟩)
  intro hj;obtain⟨m,h1,h2⟩:=mK.1 ((h j).2 hj);exact⟨m,(Dh h t m).2 h1,h2⟩
theorem qI {l:List Nat}{a k:Nat}(h:∀j,stM R l (a+k+1) j->∃s,s<=k/\stM R l (a+s) j):∀t j,stM R l (a+t) j->∃s,s<=k/\stM R l (a+s) j
 | 0,j,hj=>⟨0,by omega,hj⟩
 | t+1,j,hj=>by
  obtain⟨m,h1,h2⟩:=mK.1 (show stM R l (a+t+1) j from hj)
  obtain⟨s,hs,h3⟩:=qI h t m h1;have h4:stM R l (a+s+1) j:=mK.2 ⟨m,h3,h2⟩;by_cases he:s=k
  ·subst he;exact h j h4
  exact⟨s+1,by omega,h4⟩
theorem qJ {l:List Nat}{a:Nat}(h:∀j,¬stM R l a j):∀t j,¬stM R l (a+t) j
 | 0,j=>h j
 | t+1,j=>λhj=>by
  obtain⟨m,h1,_⟩:=mK.1 (show stM R l (a+t+1) j from hj)
  exact qJ h t m h1
end
def fY:ax->Prop
 | .lit _ s=>aH (-2) s=true/\s.length<10000000
 | .ref _ _=>True
 | .not _ k=>fY k
 | .bin c _ k r=>fY k/\fY r/\(c=3\/c=4\/c=5)
mutual
def bQ:aI->Prop
 | .one k=>fY k
 | .any=>True
 | .iA=>True
 | .cat l=>gI l
 | .alt l=>gI l
 | .many x lo hi=>bQ x/\0<=lo/\lo<100/\hi<100/\(hi<0\/lo<=hi)
def gI:List aI->Prop
 | []=>True
 | x::l=>bQ x/\gI l
end
end Cae
namespace Cae
theorem lX (l:List aI)(n:Nat):bH l n=l.map (al · n):=by
 induction l with
 | nil=>rfl
 | cons x l ih=>rw[bH,ih];rfl
theorem yB:∀{l:List (List UInt8)} {x:List UInt8},x∈l->x.length<=Go.Lib.lens l
 | y::l,x,h=>by
  simp only[Go.Lib.lens,List.map_cons,List.sum_cons];rcases List.mem_cons.1 h with rfl|h
  ·omega
  have:=yB h;simp only[Go.Lib.lens]at this;omega
theorem pk (l:List (List UInt8))(sep:List UInt8)(hs:1<=sep.length):Go.Lib.lens l<=(Go.Lib.join l sep).length/\l.length<=(Go.Lib.join l sep).length+1:=by
 cases l with
 | nil=>simp[Go.Lib.lens]
 | cons x l =>
  rw[Go.Lib.join_cons,List.length_append,Go.Lib.joinTail_length];have:1*l.length<=sep.length*l.length:=Nat.mul_le_mul_right _ hs;simp only[Go.Lib.lens,List.map_cons,List.sum_cons,List.length_cons];omega
theorem aC1 (x:aI):(al x 2).length<=(al x 1).length+2:=by
 cases x with
 | cat l =>
  have h1:=(gY (decide (1<2)) (Go.Lib.join (bH l 2) [32])).2;have h2:=(gY (decide (1<1)) (Go.Lib.join (bH l 2) [32])).1;simp only[al];omega
 | alt l =>
  have h1:=(gY (decide (0<2)) (Go.Lib.join (bH l 1) [32,124,32])).2;have h2:=(gY (decide (0<1)) (Go.Lib.join (bH l 1) [32,124,32])).1;simp only[al];omega
 | _=>simp[al]
theorem BE {l:List aI}:(Go.Lib.join (bH l 2) [32]).length+5=pn (.cat l)/\l.length<=pn (.cat l)/\∀x∈l,pn x<=pn (.cat l):=by
 have h0:=pk (bH l 2) [32] (by decide);have h1:(Go.Lib.join (bH l 2) [32]).length+5=pn (.cat l):=by simp[pn,al,pj]
 refine⟨h1,?_,λx hx=>?_⟩
 ·rw[lX,List.length_map]at h0;rw[lX]at h1;omega
 have:(al x 2).length<=Go.Lib.lens (bH l 2):=yB (by rw[lX];exact List.mem_map.2 ⟨x,hx,rfl⟩);have h2:pn x=(al x 2).length+3:=rfl;omega
theorem BD {l:List aI}:(Go.Lib.join (bH l 1) [32,124,32]).length+5=pn (.alt l)/\l.length<=pn (.alt l)/\∀x∈l,pn x<=pn (.alt l):=by
 have h0:=pk (bH l 1) [32,124,32] (by decide);have h1:(Go.Lib.join (bH l 1) [32,124,32]).length+5=pn (.alt l):=by simp[pn,al,pj]
 refine⟨h1,?_,λx hx=>?_⟩
 ·rw[lX,List.length_map]at h0;rw[lX]at h1;omega
 have:(al x 1).length<=Go.Lib.lens (bH l 1):=yB (by rw[lX];exact List.mem_map.2 ⟨x,hx,rfl⟩);have h2:pn x=(al x 2).length+3:=rfl
 have:=aC1 x;omega
end Cae
namespace Cae
theorem Mp {α:Type}(f:α->List UInt8){l:List α}{x:α}(h:x∈l):(f x).length<=(l.flatMap f).length:=by
 induction l with
 | nil=>cases h
 | cons y l ih =>
  simp only[List.flatMap_cons,List.length_append];rcases List.mem_cons.1 h with rfl|h
  ·omega
  have:=ih h;omega
theorem LZ (x:aI):(al x 2).length<=(al x 0).length+2:=by
 cases x with
 | cat l =>
  have h1:=(gY (decide (1<2)) (Go.Lib.join (bH l 2) [32])).2;have h2:=(gY (decide (1<0)) (Go.Lib.join (bH l 2) [32])).1;simp only[al];omega
 | alt l =>
  have h1:=(gY (decide (0<2)) (Go.Lib.join (bH l 1) [32,124,32])).2;have h2:=(gY (decide (0<0)) (Go.Lib.join (bH l 1) [32,124,32])).1;simp only[al];omega
 | _=>simp[al]
theorem aDc (r:cW):(al r.before 0).length+(al r.after 0).length<=(fz r).length/\(fz r).length<=(al r.before 0).length+(al r.after 0).length+20:=by
 unfold fz;split<;>split<;>split<;>simp[*]<;>omega
def rV (f:dQ):Prop:=(∀c∈f.bJ,fY c.kind)/\∀r∈f.rules,bQ r.before/\bQ r.after
theorem Ju {x:aI}{lo hi:Int}:pn x<=pn (.many x lo hi):=by
 simp only[pn,al,List.length_append];omega
end Cae
end
section
namespace Go.Proofs.YtodeeahdhnjpkaaGreatDoor
open Go.Vc Go.Proofs Go.RowKit Cae
attribute [local irreducible] cw ag aq a8 runK bD Sl Vc.Own vc aW cN ai
def bF (b:Nat):Value:=.pointer (some ⟨b,0,none⟩)
def gg (b:Nat):List Value:=[bF b]
theorem nR (b:Nat):∀u∈gg b,u.oneCell'=true:=by
 intro u hu;simp[gg,bF]at hu;subst hu;rfl
mutual
def aV (X:Nat->Prop)(w:World):Value->aI->Prop
 | v,.one k=>∃b u,v=.pointer (some ⟨b,0,none⟩)/\¬X b/\aO w b 129 [.int .i64 1,u,.slice none 0 0,.int .i64 0,.int .i64 0]/\eC X w u k
 | v,.any=>∃b,v=.pointer (some ⟨b,0,none⟩)/\¬X b/\aO w b 129 [.int .i64 2,.pointer none,.slice none 0 0,.int .i64 0,.int .i64 0]
 | v,.iA=>∃b,v=.pointer (some ⟨b,0,none⟩)/\¬X b/\aO w b 129 [.int .i64 3,.pointer none,.slice none 0 0,.int .i64 0,.int .i64 0]
 | v,.cat l=>∃b sv vs,v=.pointer (some ⟨b,0,none⟩)/\¬X b/\aO w b 129 [.int .i64 4,.pointer none,sv,.int .i64 0,.int .i64 0]/\Sl X 1 (En gg) w sv vs/\aU X w vs l
 | v,.alt l=>∃b sv vs,v=.pointer (some ⟨b,0,none⟩)/\¬X b/\aO w b 129 [.int .i64 5,.pointer none,sv,.int .i64 0,.int .i64 0]/\Sl X 1 (En gg) w sv vs/\aU X w vs l
 | v,.many x lo hi=>∃b sv u,v=.pointer (some ⟨b,0,none⟩)/\¬X b/\aO w b 129 [.int .i64 6,.pointer none,sv,.int .i64 lo,.int .i64 hi]/\Sl X 1 (En gg) w sv [u]/\aV X w (bF u) x
def aU (X:Nat->Prop)(w:World):List Nat->List aI->Prop
 | [],[]=>True
 | v::vs,x::l=>aV X w (bF v) x/\aU X w vs l
 | _,_=>False
end
mutual
theorem aV.mono {X X' Y:Nat->Prop}{w w':World}(hk:Kept Y w w')(hY:∀i,Y i->X i)(hX:∀i,X' i->X i):∀{x:aI} {v:Value},aV X w v x->aV X' w' v x
 | .one k,v,h=>by
  simp only[aV]at h ⊢
  obtain⟨b,u,hv,hb,hB,h⟩:=h;exact⟨b,u,hv,λhh=>hb (hX b hh),hB.kept hk (λhh=>hb (hY b hh)),h.mono hk hY hX⟩
 | .any,v,h=>by
  simp only[aV]at h ⊢
  obtain⟨b,hv,hb,hB⟩:=h;exact⟨b,hv,λhh=>hb (hX b hh),hB.kept hk (λhh=>hb (hY b hh))⟩
 | .iA,v,h=>by
  simp only[aV]at h ⊢
  obtain⟨b,hv,hb,hB⟩:=h;exact⟨b,hv,λhh=>hb (hX b hh),hB.kept hk (λhh=>hb (hY b hh))⟩
 | .cat l,v,h=>by
  simp only[aV]at h ⊢
  obtain⟨b,sv,vs,hv,hb,hB,hs,h⟩:=h;exact⟨b,sv,vs,hv,λhh=>hb (hX b hh),hB.kept hk (λhh=>hb (hY b hh)),(hs.kept hk hY).weaken hX,aU.mono hk hY hX h⟩
 | .alt l,v,h=>by
  simp only[aV]at h ⊢
  obtain⟨b,sv,vs,hv,hb,hB,hs,h⟩:=h;exact⟨b,sv,vs,hv,λhh=>hb (hX b hh),hB.kept hk (λhh=>hb (hY b hh)),(hs.kept hk hY).weaken hX,aU.mono hk hY hX h⟩
 | .many x lo hi,v,h=>by
  simp only[aV]at h ⊢
  obtain⟨b,sv,u,hv,hb,hB,hs,h⟩:=h;exact⟨b,sv,u,hv,λhh=>hb (hX b hh),hB.kept hk (λhh=>hb (hY b hh)),(hs.kept hk hY).weaken hX,aV.mono hk hY hX h⟩
theorem aU.mono {X X' Y:Nat->Prop}{w w':World}(hk:Kept Y w w')(hY:∀i,Y i->X i)(hX:∀i,X' i->X i):∀{l:List aI} {vs:List Nat},aU X w vs l->aU X' w' vs l
 | [],[],_=>by simp only[aU]
 | [],_::_,h=>by simp only[aU]at h
 | _::_,[],h=>by simp only[aU]at h
 | x::l,v::vs,h=>by
  simp only[aU]at h ⊢
  exact⟨aV.mono hk hY hX h.1,aU.mono hk hY hX h.2⟩
end
mutual
theorem aV.top {X:Nat->Prop}{w:World}:∀{x:aI} {v:Value},aV X w v x->aV (λb=>X b\/w.heap.size<=b) w v x
 | .one k,v,h=>by
  simp only[aV]at h ⊢
  obtain⟨b,u,hv,hb,hB,h⟩:=h;exact⟨b,u,hv,λhh=>hh.elim hb (λhh=>by have:=hB.lt;omega),hB,h.top⟩
 | .any,v,h=>by
  simp only[aV]at h ⊢
  obtain⟨b,hv,hb,hB⟩:=h;exact⟨b,hv,λhh=>hh.elim hb (λhh=>by have:=hB.lt;omega),hB⟩
 | .iA,v,h=>by
  simp only[aV]at h ⊢
  obtain⟨b,hv,hb,hB⟩:=h;exact⟨b,hv,λhh=>hh.elim hb (λhh=>by have:=hB.lt;omega),hB⟩
 | .cat l,v,h=>by
  simp only[aV]at h ⊢
  obtain⟨b,sv,vs,hv,hb,hB,hs,h⟩:=h;exact⟨b,sv,vs,hv,λhh=>hh.elim hb (λhh=>by have:=hB.lt;omega),hB,Sl.top (by decide) hs,aU.top h⟩
 | .alt l,v,h=>by
  simp only[aV]at h ⊢
  obtain⟨b,sv,vs,hv,hb,hB,hs,h⟩:=h;exact⟨b,sv,vs,hv,λhh=>hh.elim hb (λhh=>by have:=hB.lt;omega),hB,Sl.top (by decide) hs,aU.top h⟩
 | .many x lo hi,v,h=>by
  simp only[aV]at h ⊢
  obtain⟨b,sv,u,hv,hb,hB,hs,h⟩:=h;exact⟨b,sv,u,hv,λhh=>hh.elim hb (λhh=>by have:=hB.lt;omega),hB,Sl.top (by decide) hs,aV.top h⟩
theorem aU.top {X:Nat->Prop}{w:World}:∀{l:List aI} {vs:List Nat},aU X w vs l->aU (λb=>X b\/w.heap.size<=b) w vs l
 | [],[],_=>by simp only[aU]
 | [],_::_,h=>by simp only[aU]at h
 | _::_,[],h=>by simp only[aU]at h
 | x::l,v::vs,h=>by
  simp only[aU]at h ⊢
  exact⟨aV.top h.1,aU.top h.2⟩
end
theorem aV.ptr {X:Nat->Prop}{w:World}{x:aI}{v:Value}(h:aV X w v x):∃b,v=.pointer (some ⟨b,0,none⟩)/\b<w.heap.size/\¬X b:=by
 cases x<;>simp only[aV]at h
 ·obtain⟨b,u,hv,hx,hB,_⟩:=h;exact⟨b,hv,hB.lt,hx⟩
 ·obtain⟨b,hv,hx,hB⟩:=h;exact⟨b,hv,hB.lt,hx⟩
 ·obtain⟨b,hv,hx,hB⟩:=h;exact⟨b,hv,hB.lt,hx⟩
 ·obtain⟨b,_,_,hv,hx,hB,_⟩:=h;exact⟨b,hv,hB.lt,hx⟩
 ·obtain⟨b,_,_,hv,hx,hB,_⟩:=h;exact⟨b,hv,hB.lt,hx⟩
 obtain⟨b,_,_,hv,hx,hB,_⟩:=h;exact⟨b,hv,hB.lt,hx⟩
theorem aV.below {X:Nat->Prop}{w w':World}{x:aI}{v:Value}(h:aV X w v x)(hb:Below w.heap.size w w'):aV X w' v x :=
 h.mono (X:=X) (Kept.aJ hb (X:=λ_=>False) (λi h1 h2=>by omega)) (λ_ h=>h.elim) (λ_ h=>h)
theorem aU.snoc {X:Nat->Prop}{w:World}:∀{l:List aI} {vs:List Nat} {x:aI} {v:Nat},aU X w vs l->aV X w (bF v) x->aU X w (vs++[v]) (l++[x])
 | [],[],_,_,_,hx=>by
  simp only[List.nil_append,aU];exact⟨hx,trivial⟩
 | [],_::_,_,_,h,_=>by simp only[aU]at h
 | _::_,[],_,_,h,_=>by simp only[aU]at h
 | x::l,v::vs,y,u,h,hx=>by
  simp only[aU,List.cons_append]at h ⊢
  exact⟨h.1,aU.snoc h.2 hx⟩
theorem aU.len {X:Nat->Prop}{w:World}:∀{l:List aI} {vs:List Nat},aU X w vs l->vs.length=l.length
 | [],[],_=>rfl
 | [],_::_,h=>by simp only[aU]at h
 | _::_,[],h=>by simp only[aU]at h
 | x::l,v::vs,h=>by
  simp only[aU]at h;simp[aU.len h.2]
def Kf (d:Nat):Prop:=∀(n:Int),0<=n->n+(d:Int)=9->∀(pb B:Nat) (w:World) (l:List Cae.Tok),PS pb B w l->Pc 166 [.pointer (some ⟨pb,0,none⟩),.int .i64 n] pb B w l (aY d) (λw' r x=>aV (·<w.heap.size) w' r x)
def QA (d:Nat):Prop:=∀(n:Int),0<=n->n+(d:Int)=9->∀(pb B:Nat) (w:World) (l:List Cae.Tok),PS pb B w l->Pc 120 [.pointer (some ⟨pb,0,none⟩),.int .i64 n] pb B w l (aQ d (aY d)) (λw' r x=>aV (·<w.heap.size) w' r x)
def aEI (d:Nat):Prop:=∀(n:Int),0<=n->n+(d:Int)=9->∀(pb B:Nat) (w:World) (l:List Cae.Tok),PS pb B w l->Pc 93 [.pointer (some ⟨pb,0,none⟩),.int .i64 n] pb B w l (gV (aQ d (aY d))) (λw' r x=>aV (·<w.heap.size) w' r x)
def aAB (d:Nat):Prop:=∀(n:Int),0<=n->n+(d:Int)=9->∀(pb B:Nat) (w:World) (l:List Cae.Tok),PS pb B w l->Pc 61 [.pointer (some ⟨pb,0,none⟩),.int .i64 n] pb B w l (j8 d) (λw' r x=>aV (·<w.heap.size) w' r x)
theorem B0:Kf 0:=by
 intro n oK hn pb B w l h;refine dm Tryz.func166 rfl (by kernel_rfl) [.tmp 4] rfl ?_;push_cast -dsimp(maxSteps:=4000000) [Tryz.ntmps166];refine aK (lk n h) ?_ ?_
 ·rintro _ _ ⟨h8,rfl,rfl⟩;omega
 rintro c w' ⟨h8,ht,hb⟩;push_cast -dsimp;exact⟨4,_,rfl,ht,Kept.aJ hb (λi h1 h2=>by omega)⟩
theorem BZ (d:Nat)(ihp:aAB d):Kf (d+1):=by
 intro n oK hn pb B w l0 h0;obtain⟨t,r,sR⟩:=h0.tl.cons;have wF:Cae.hd l0=t:=by rw[sR];rfl
 have wC:=h0;rw[sR]at wC;obtain⟨b,o,c,hB,hc,dA,c0,c1,c2,c3⟩:=wC.hd;have cb:w.cell? ⟨pb,0,none⟩=some (.slice (some ⟨b,o,none⟩) (r.length+1) c):=hB.cell rfl;have hle:=h0.le;have bZ:=h0.lt;have mU:aY (d+1) l0=bE (bI [46]) (Cae.pb bV λ_=>pr .any)
  (bE (bI [36]) (Cae.pb bV λ_=>pr .iA)
  (bE (bI [40]) (Cae.pb bV λ_=>Cae.pb (j8 d) λx=>Cae.pb (a7 [41]) λ_=>pr x)
  (bE dx (Cae.pb (dI (d+1)) λk=>pr (.one k)) (ck 3)))) l0:=rfl
 refine dm Tryz.func166 rfl (by kernel_rfl) [.tmp 4] rfl ?_;push_cast -dsimp(maxSteps:=4000000) [Tryz.ntmps166];refine aK (lk n h0) ?_ (λc w' hh=>by have:=hh.1;omega);rintro _ w0 ⟨h8,rfl,GQ⟩;obtain rfl:w=w0:=GQ.symm;push_cast -dsimp;refine aA (gQ [46] h0) ?_;rintro _ w2 hT;rcases hT with ⟨eY,rfl,t1,r1,gy,lx,P2,kt,hz⟩|⟨eY,rfl,pg⟩
 ·have ew:bV l0=.ok ((),r1):=by rw[gy];exact bB lx
  push_cast -dsimp;refine ah ?_;intro w3 bO;have B3:aO w3 w2.heap.size 129 [.int .i64 2,.pointer none,.slice none 0 0,.int .i64 0,.int .i64 0]:=bO.aN;have P3:=P2.below bO.below;have k3:=kt.trans (Kept.new (X:=(·=pb)) bO) (λi _ h=>h);push_cast -dsimp;refine⟨.any,r1,?_,?_,P3,k3⟩
  ·rw[mU];unfold bE;rw[eY,if_pos rfl,aG ew];rfl
  simp only[aV];exact⟨_,rfl,by omega,B3⟩
 obtain rfl:w=w2:=pg.symm;push_cast -dsimp;refine aA (gQ [36] h0) ?_;rintro _ w2 hT;rcases hT with ⟨iP,rfl,t1,r1,gy,lx,P2,kt,hz⟩|⟨iP,rfl,pg⟩
 ·have ew:bV l0=.ok ((),r1):=by rw[gy];exact bB lx
  push_cast -dsimp;refine ah ?_;intro w3 bO;have B3:aO w3 w2.heap.size 129 [.int .i64 3,.pointer none,.slice none 0 0,.int .i64 0,.int .i64 0]:=bO.aN;have P3:=P2.below bO.below;have k3:=kt.trans (Kept.new (X:=(·=pb)) bO) (λi _ h=>h);push_cast -dsimp;refine⟨.iA,r1,?_,?_,P3,k3⟩
  ·rw[mU];unfold bE;rw[eY,iP,if_neg (by decide),if_pos rfl,aG ew];rfl
  simp only[aV];exact⟨_,rfl,by omega,B3⟩
 obtain rfl:w=w2:=pg.symm;push_cast -dsimp;refine aA (gQ [40] h0) ?_;rintro _ w2 hT;rcases hT with ⟨nZ,rfl,t1,r1,gy,lx,P2,kt,hz⟩|⟨nZ,rfl,pg⟩
 ·have ew:bV l0=.ok ((),r1):=by rw[gy];exact bB lx
  have iM:aY (d+1) l0=Cae.pb (j8 d) (λx=>Cae.pb (a7 [41]) λ_=>pr x) r1:=by
   rw[mU];unfold bE;rw[eY,iP,nZ,if_neg (by decide),if_neg (by decide),if_pos rfl,aG ew]
  push_cast -dsimp;refine⟨⟨by omega,by omega⟩,?_⟩;refine aK (ihp (n+1) (by omega) (by omega) pb B w2 r1 P2) ?_ ?_
  ·rintro u w3 ⟨x,l3,e3,V3,P3,k3⟩;push_cast -dsimp;refine aK (fj [41] P3) ?_ ?_
   ·rintro _ w4 ⟨_,l4,e4,rfl,P4,k4⟩;push_cast -dsimp;have z3:=k3.size;refine⟨x,l4,?_,V3.mono k4 (λi h=>by omega) (λi h=>by omega),P4,(kt.trans k3 (λi _ h=>h)).trans k4 (λi _ h=>h)⟩;rw[iM,aG e3,aG e4];rfl
   rintro c w4 ⟨e,pos,he,ht,hk⟩;push_cast -dsimp;have z3:=k3.size;refine⟨e,pos,?_,ht.mono (by omega),(kt.trans k3 (λi _ h=>h)).trans hk (λi _ h=>h)⟩;rw[iM,aG e3];unfold Cae.pb;rw[he]
  rintro c w3 ⟨e,pos,he,ht,hk⟩;push_cast -dsimp;refine⟨e,pos,?_,ht.mono (by omega),kt.trans hk (λi _ h=>h)⟩;rw[iM];unfold Cae.pb;rw[he]
 obtain rfl:w=w2:=pg.symm;have GP:dx l0=(t.kind == 3 || fI l0):=by unfold dx isKind;rw[wF]
 push_cast -dsimp[cb,c0];have tB:dx l0=true->aY (d+1) l0=Cae.pb (dI (d+1)) (λk=>pr (.one k)) l0:=λhu=>by
  rw[mU];unfold bE;rw[eY,iP,nZ,hu,if_neg (by decide),if_neg (by decide),if_neg (by decide),if_pos rfl]
 refine⟨by omega,λh3=>?_,λh3=>?_⟩
 ·refine aA (DV h0) ?_;rintro _ w1 ⟨rfl,b1⟩;have P1:=h0.below b1;have k1:Kept (·=pb) w w1:=Kept.aJ b1 (λi h1 h2=>by omega);have z1:=b1.size;have qq:(t.kind == 3)=false:=by
   have:t.kind≠3:=λe=>h3 (by omega);simpa using this
  rw[qq,Bool.false_or]at GP;cases jR:fI l0 with
  | true =>
   have iM:=tB (by rw[GP,jR]);push_cast -dsimp;refine aK (LU (d+1) n (by omega) (by omega) pb B w1 l0 P1) ?_ ?_
   ·rintro u w3 ⟨k,l3,e3,V3,P3,k3⟩;obtain⟨ub,rfl,zM⟩:=V3.ptr;push_cast -dsimp;refine ah ?_;intro w4 aj;have B4:aO w4 w3.heap.size 129 [.int .i64 1,.pointer (some ⟨ub,0,none⟩),.slice none 0 0,.int .i64 0,.int .i64 0]:=aj.aN;have P4:=P3.below aj.below;have z3:=k3.size;have k4:=(k1.trans k3 (λi _ h=>h)).trans (Kept.new (X:=(·=pb)) aj) (λi _ h=>h);push_cast -dsimp;refine⟨.one k,l3,?_,?_,P4,k4⟩
    ·rw[iM,aG e3];rfl
    simp only[aV];exact⟨_,_,rfl,by omega,B4,V3.mono (Kept.new (X:=λ_=>False) aj) (λ_ h=>h.elim) (λi h=>by omega)⟩
   rintro c w3 ⟨e,pos,he,ht,hk⟩;push_cast -dsimp;refine⟨e,pos,?_,ht.mono (by omega),k1.trans hk (λi _ h=>h)⟩;rw[iM];unfold Cae.pb;rw[he]
  | false =>
   push_cast -dsimp;refine aK (j2 3 P1) (λ_ _ h=>h.elim) ?_;rintro c w4 ⟨ht,hb⟩;push_cast -dsimp;refine⟨3,_,?_,ht.mono (by omega),k1.trans (Kept.aJ hb (X:=(·=pb)) (λi h1 h2=>by omega)) (λi _ h=>h)⟩;rw[mU];unfold bE;rw[eY,iP,nZ,GP,jR,if_neg (by decide),if_neg (by decide),if_neg (by decide),if_neg (by decide)];rfl
 have iM:=tB (by
  have:t.kind=3:=by omega
  rw[GP,this];rfl)
 have k1:Kept (·=pb) w w:=Kept.refl _ _;have z1:w.heap.size<=w.heap.size:=Nat.le_refl _;refine aK (LU (d+1) n (by omega) (by omega) pb B w l0 h0) ?_ ?_
 ·rintro u w3 ⟨k,l3,e3,V3,P3,k3⟩;obtain⟨ub,rfl,zM⟩:=V3.ptr;push_cast -dsimp;refine ah ?_;intro w4 aj;have B4:aO w4 w3.heap.size 129 [.int .i64 1,.pointer (some ⟨ub,0,none⟩),.slice none 0 0,.int .i64 0,.int .i64 0]:=aj.aN;have P4:=P3.below aj.below;have z3:=k3.size;have k4:=(k1.trans k3 (λi _ h=>h)).trans (Kept.new (X:=(·=pb)) aj) (λi _ h=>h);push_cast -dsimp;refine⟨.one k,l3,?_,?_,P4,k4⟩
  ·rw[iM,aG e3];rfl
  simp only[aV];exact⟨_,_,rfl,by omega,B4,V3.mono (Kept.new (X:=λ_=>False) aj) (λ_ h=>h.elim) (λi h=>by omega)⟩
 rintro c w3 ⟨e,pos,he,ht,hk⟩;push_cast -dsimp;refine⟨e,pos,?_,ht.mono (by omega),k1.trans hk (λi _ h=>h)⟩;rw[iM];unfold Cae.pb;rw[he]
end Go.Proofs.YtodeeahdhnjpkaaGreatDoor
end
