/- Texts of this claim, merged: Rra, Rkd, Pwd0, Mn2, Mn3, Rnm, Rlo, Chk, Bld. -/
import Derived.Test.YtodeeahdhnjpkaaGreatDoorM10
set_option maxRecDepth 100000
set_option linter.unusedSimpArgs false
set_option linter.unusedVariables false
set_option maxHeartbeats 8000000
section
namespace Cae
theorem Tm (c:UInt8):Go.Lib.contains mg [c]=mg.contains c:=by
 have h:∀n:Fin 256,Go.Lib.contains mg [UInt8.ofNat n.val]=mg.contains (UInt8.ofNat n.val):=by decide +kernel
 have:=h ⟨c.toNat,c.toNat_lt⟩;simpa using this
theorem u4 {f:UInt8->Bool}{s:List UInt8}{i k:Nat}(h1:i<=k)(h2:k<=s.length)(ha:∀j,i<=j->j<k->f (s.getD j 0)=true)(hs:k=s.length\/f (s.getD k 0)=false):k=i+gk f (s.drop i):=by
 have hg:∀j,(s.drop i).getD j 0=s.getD (i+j) 0:=λj=>by simp[List.getD_eq_getElem?_getD]
 have:=wQ f (s.drop i) (k-i) (by rw[List.length_drop];omega) (λj hj=>by rw[hg];exact ha _ (by omega) (by omega)) (by
  rw[hg,List.length_drop,show i+(k-i)=k by omega]
  exact hs.imp (λh=>by omega) id)
 omega
end Cae
namespace Go.Proofs.YtodeeahdhnjpkaaGreatDoor
open Go.Vc Go.Proofs Go.RowKit Cae
attribute [local irreducible] cw ag aq a8 runK bD Sl Vc.Own vc aW cN ai
def MR:Go.Shelf.Ren:=⟨λ| 144=>49|143=>48|219=>82|217=>107|225=>108|224=>109|267=>110|266=>144|314=>145|n=>n,λ| 9=>9|4=>4|3=>3|5=>5|46=>109|146=>209|51=>206|n=>n,λ| 1=>2|n=>n⟩
theorem aEY:Go.Proofs.Lays.n144 Tryz.prog MR:={
 mixed:=by kernel_rfl
 f143:=Tryz.func48.trans (congrArg some (by kernel_rfl))
 f144:=Tryz.func49.trans (congrArg some (by kernel_rfl))
 f217:=Tryz.func107.trans (congrArg some (by kernel_rfl))
 f219:=Tryz.func82.trans (congrArg some (by kernel_rfl))
 f224:=Tryz.func109.trans (congrArg some (by kernel_rfl))
 f225:=Tryz.func108.trans (congrArg some (by kernel_rfl))
 f266:=Tryz.func144.trans (congrArg some (by kernel_rfl))
 f267:=Tryz.func110.trans (congrArg some (by kernel_rfl))
 f314:=Tryz.func145.trans (congrArg some (by kernel_rfl))
 t3:=Tryz.underlying3
 a3:=Tryz.isAgg3
 z3:=Tryz.sizeOf3
 v3:=Tryz.zeroValue3
 t4:=Tryz.underlying4
 a4:=Tryz.isAgg4
 z4:=Tryz.sizeOf4
 v4:=Tryz.zeroValue4
 t5:=Tryz.underlying5
 a5:=Tryz.isAgg5
 z5:=Tryz.sizeOf5
 v5:=Tryz.zeroValue5
 t9:=Tryz.underlying9
 a9:=Tryz.isAgg9
 z9:=Tryz.sizeOf9
 v9:=Tryz.zeroValue9
 t46:=Tryz.underlying109
 a46:=Tryz.isAgg109
 z46:=Tryz.sizeOf109
 v46:=Tryz.zeroValue109
 t51:=Tryz.underlying206
 a51:=Tryz.isAgg206
 z51:=Tryz.sizeOf206
 v51:=Tryz.zeroValue206
 t146:=Tryz.underlying209
 a146:=Tryz.isAgg209
 z146:=Tryz.sizeOf209
 v146:=Tryz.zeroValue209
 g1:=by kernel_rfl }
theorem Nh (c:UInt8)(w:World)(hm:Tv w):bD Tryz.prog 49 [str mg,str [c]] w λr w'=>r=.bool (mg.contains c)/\w'=w:=by
 obtain⟨m,hm⟩:=hm.mx;refine bx Tryz.func49 (by kernel_rfl) (by kernel_rfl) ?_;refine Calls.mono (Any.strings_Contains aEY ⟨mg.toArray⟩ ⟨[c].toArray⟩ m w (by show mg.toArray.size<_;decide) hm) ?_
 rintro e w' ⟨rfl,rfl⟩;exact⟨_,rfl,by rw[<-Tm],rfl⟩
theorem aAl (c:UInt8)(w:World):bD Tryz.prog 46 [.int .u8 c.toNat] w λr w'=>r=.bool (dV c)/\w'=w:=by
 have h:dV c=(decide (97<=c.toNat) && decide (c.toNat<=122)):=rfl;refine aE Tryz.func46 rfl (by kernel_rfl) [2] rfl ?_;push_cast -dsimp(maxSteps:=4000000) [Tryz.ntmps46];refine⟨λh1=>?_,λh1=>?_⟩
 ·rw[h,decide_eq_true (show 97<=c.toNat by omega),Bool.true_and]
  congr 1;exact decide_eq_decide.2 (by omega)
 rw[h,decide_eq_false (show ¬97<=c.toNat by omega)];rfl
theorem Re (c:UInt8)(w:World):bD Tryz.prog 47 [.int .u8 c.toNat] w λr w'=>r=.bool (bu c)/\w'=w:=by
 have h:bu c=(decide (48<=c.toNat) && decide (c.toNat<=57)):=rfl;refine aE Tryz.func47 rfl (by kernel_rfl) [2] rfl ?_;push_cast -dsimp(maxSteps:=4000000) [Tryz.ntmps47];refine⟨λh1=>?_,λh1=>?_⟩
 ·rw[h,decide_eq_true (show 48<=c.toNat by omega),Bool.true_and]
  congr 1;exact decide_eq_decide.2 (by omega)
 rw[h,decide_eq_false (show ¬48<=c.toNat by omega)];rfl
theorem aL {w:World}(h:Gr w):aB w ⟨0,0,none⟩ 0 2=some [.int .i64 0,.int .i64 (-1)]:=bL [.int .i64 0,.int .i64 (-1)] 0 (λj u hu=>by
  rw[Nat.zero_add,Nat.zero_add];match j,hu with
  | 0,hu=>cases hu;exact h.f0
  | 1,hu=>cases hu;exact h.f1
  | j+2,hu=>cases hu)
theorem Kj (c:UInt8):(c != 10)=decide (¬((c.toNat:Nat):Int)=10):=by
 have:(((c.toNat:Nat):Int)=10)↔c=10:=⟨λh=>UInt8.toNat_inj.1 (by show c.toNat=10;omega),λh=>by subst h;rfl⟩
 by_cases h:c=10
 ·subst h;rfl
 rw[decide_eq_true (p:=¬((c.toNat:Nat):Int)=10) (λhh=>h (this.1 hh))];simpa using h
def ZV (w:World)(s:List UInt8)(r:Value)(w':World):Prop :=
 (∃l v,yp s=.ok l/\r=.tuple #[v,.agg #[.int .i64 0,.int .i64 (-1)]]/\Vc.Own w.heap.size 71 3 fF w' v l) \/
 (∃e pos:Nat,yp s=.error (e,pos)/\e≠0/\r=.tuple #[.slice none 0 0,.agg #[.int .i64 e,.int .i64 pos]])
theorem OV (s:List UInt8)(hs:s.length<=1000000)(w:World)(hg:Gr w):bD Tryz.prog 21 [str s] w λr w'=>ZV w s r w'/\Below w.heap.size w w':=by
 refine Im Tryz.func21 rfl (by kernel_rfl) [.tmp 2,.cell 3 28] rfl ?_;push_cast -dsimp(maxSteps:=4000000) [Tryz.ntmps21];refine aR (z:=[.int .i64 0,.int .i64 0]) (by kernel_rfl) ?_;intro w1 au;have F1:aO w1 w.heap.size 28 [.int .i64 0,.int .i64 0]:=au.aN;have z1:=au.size;have b1:=au.below;push_cast -dsimp;refine jP [2,4,5,6,7,8,9,10,11,12,13,14,15,16,17,18,19,20,21,22,23,24,25,26,27,28,29,30,31,32,33,34,35,36,37,38,39,40,41,42,43,44,45,46,47,48,49,50,51,52,53,54,55,56,57,58,59,60,61,62,63,64,65,66,67,68,69,70,71,72,73,74,75,76,77,78,79,80,81,82,83,84,85,86,87,88,89,90,91,92,93,94,95,96,97,98,99,100,101,102,103,104,105,106,107,108,109,110,111,112,113,114,115,116,117,118,119,120,121,122] (λz w'=>∃(m i:Nat) (acc:List Cae.Tok) (v:Value),z 5=.int .i64 i/\z 4=v/\i<=s.length/\(s.drop i).length<m/\acc.length<=500/\jA m i (s.drop i) acc=yp s/\Vc.Own (w.heap.size+1) 71 3 fF w' v acc/\aO w' w.heap.size 28 [.int .i64 0,.int .i64 0]/\Below w.heap.size w w') (λz w'=>s.length-(intOf (z 5)).toNat) ?_ ?_
 ·exact⟨s.length+1,0,[],_,rfl,rfl,Nat.zero_le _,by simp,by simp,rfl,Vc.Own.nil (enc:=fF) _ _ (λ_=>rfl) _,F1,b1⟩
 rintro z w' ⟨m,i,acc,v,rr,xq,hi,hm,r8,dB,hO,hF,hb⟩;obtain⟨m',rfl⟩:∃m',m=m'+1:=⟨m-1,by omega⟩;have TO:=hb.size;obtain⟨va,vc,rfl⟩:=hO.slice;have Vv:(s.drop i).length=s.length-i:=List.length_drop;refine aD ?_;push_cast -dsimp[rr];refine⟨λbZ=>?_,λgh=>?_⟩
 ·obtain⟨c,r,EE⟩:∃c r,s.drop i=c::r:=by
   cases hd:s.drop i with
   | nil=>rw[hd]at Vv;simp at Vv;omega
   | cons c r=>exact⟨c,r,rfl⟩
  have qo:s.getD i 0=c:=by
   have:(s.drop i).getD 0 0=c:=by rw[EE];rfl
   rw[<-this];simp[List.getD_eq_getElem?_getD]
  rw[EE]at dB hm Vv;have NR:r.length+1=s.length-i:=by simpa using Vv
  have bN:=dB;rw[jA]at bN;have S9:(((c.toNat:Nat):Int)=32)↔c=32:=⟨λh=>UInt8.toNat_inj.1 (by show c.toNat=32;omega),λh=>by subst h;rfl⟩
  have S7:(((c.toNat:Nat):Int)=10)↔c=10:=⟨λh=>UInt8.toNat_inj.1 (by show c.toNat=10;omega),λh=>by subst h;rfl⟩
  have JB:(((c.toNat:Nat):Int)=35)↔c=35:=⟨λh=>UInt8.toNat_inj.1 (by show c.toNat=35;omega),λh=>by subst h;rfl⟩
  have aF1:(((c.toNat:Nat):Int)=91)↔c=91:=⟨λh=>UInt8.toNat_inj.1 (by show c.toNat=91;omega),λh=>by subst h;rfl⟩
  have Fv:∀k,s.drop (i+k)=(c::r).drop k:=λk=>by rw[<-EE,List.drop_drop]
  refine dr (aD ?_);push_cast -dsimp[rr,qo];refine⟨⟨by omega,by omega⟩,aD ?_⟩;by_cases Fa:((c.toNat:Nat):Int)=32
  ·rw[if_pos (.inl (S9.1 Fa))]at bN;push_cast -dsimp[Fa];refine⟨⟨by omega,by omega⟩,⟨m',i+1,acc,_,rfl,xq,by omega,by rw[Fv 1];simp;omega,r8,by rw[Fv 1];exact bN,hO,hF,hb⟩,by simp only[intOf,rr];omega⟩
  by_cases nH:((c.toNat:Nat):Int)=10
  ·rw[if_pos (.inr (S7.1 nH))]at bN;push_cast -dsimp[Fa,nH];refine⟨⟨by omega,by omega⟩,⟨m',i+1,acc,_,rfl,xq,by omega,by rw[Fv 1];simp;omega,r8,by rw[Fv 1];exact bN,hO,hF,hb⟩,by simp only[intOf,rr];omega⟩
  rw[if_neg (λh=>h.elim (λh=>Fa (S9.2 h)) (λh=>nH (S7.2 h)))]at bN;push_cast -dsimp[Fa,nH];refine aD ?_;by_cases SK:((c.toNat:Nat):Int)=35
  ·rw[if_pos (JB.1 SK)]at bN;have pG:0<gk (· != 10) (c::r):=HH (by rw[JB.1 SK];decide);have hle:=oV (· != 10) (c::r);rw[List.length_cons]at hle;push_cast -dsimp[SK];refine kR [5,28,29,30,31,32,33,34,35,36,37,38,39] (λz wx=>∃k:Nat,z 5=.int .i64 k/\k=i+gk (· != 10) (c::r)/\wx=w') ?_ ?_
   ·refine aM [5,28,29,30,31,32,33,34,35,36,37,38,39] (λz wx=>∃k:Nat,z 5=.int .i64 k/\i<=k/\k<=s.length/\(∀j,i<=j->j<k->(· != 10) (s.getD j 0)=true)/\wx=w') (λz wx=>s.length-(intOf (z 5)).toNat) ?_ ?_
    ·exact⟨i,rfl,Nat.le_refl _,hi,λj h1 h2=>by omega,rfl⟩
    rintro z2 w2 ⟨k,hz,Ps,iY,cg,rfl⟩;have qt:(· != 10) (s.getD k 0)=true->∀j,i<=j->j<k+1->(· != 10) (s.getD j 0)=true:=λhb j h1 h2=>by
     by_cases h:j<k
     ·exact cg j h1 h
     rw[show j=k by omega];exact hb
    have nW:(k=s.length\/(· != 10) (s.getD k 0)=false)->k=i+gk (· != 10) (c::r):=λh=>by rw[<-EE];exact u4 Ps iY cg h
    push_cast -dsimp[hz];refine⟨λhkl=>⟨⟨by omega,by omega⟩,?_⟩,λhkl=>⟨k,rfl,nW (.inl (by omega))⟩⟩;refine⟨λh=>⟨⟨by omega,by omega⟩,⟨k+1,rfl,by omega,by omega,qt ((Kj _).trans (decide_eq_true h))⟩,by simp only[intOf];omega⟩,λh=>⟨k,rfl,nW (.inr ((Kj _).trans (decide_eq_false h)))⟩⟩
   rintro z2 w2 ⟨k,hz,hk,rfl⟩;push_cast -dsimp[hz];exact⟨⟨m',k,acc,_,rfl,xq,by omega,by rw[hk,Fv];simp;omega,r8,by rw[hk,Fv];exact bN,hO,hF,hb⟩,by simp only[intOf,rr];omega⟩
  rw[if_neg (λh=>SK (JB.2 h))]at bN;have hn:=jq c r;push_cast -dsimp[SK];refine aD ?_;push_cast -dsimp;refine aR (z:=[.int .i64 0,str [],.int .i64 0]) (by kernel_rfl) ?_;intro w4 aj;have z4:=aj.size;push_cast -dsimp;refine aF (xt:=71) (n:=3) (by kernel_rfl) aj.aN rfl (by decide) (by simp;exact⟨rfl,rfl,rfl⟩) ?_;intro w5 bW;have NK:∃tb,tb=w'.heap.size:=⟨_,rfl⟩;obtain⟨tb,htb⟩:=NK;have T5:aO w5 tb 71 [.int .i64 0,str [],.int .i64 i]:=by rw[htb];exact bW.aN
  have z5:=bW.size;have k5:Kept (λ_=>False) w' w5:=Kept.aJ (aj.below.trans (bW.kept.below (B:=w'.heap.size) (by omega) (λi h=>by omega))) (λi h1 h2=>by omega);rw[<-htb];push_cast -dsimp;refine mO [7,9,42,43,44,45,46,47,48,49,50,51,52,53,54,55,56,57,58,59,60,61,62,63,64,65,66,67,68,69,70,71,72,73,74,75,76,77,78,79,80,81,82,83,84,85,86,87,88,89,90,91,92,93,94,95,96,97,98,99,100,101,102] (λz wx=>∃k n kk:Nat,z 7=.int .i64 k/\k=i+n/\gG (c::r)=(kk,n)/\aO wx tb 71 [.int .i64 kk,str [],.int .i64 i]/\Kept (·=tb) w5 wx) ?_ ?_
  ·push_cast -dsimp;refine aA (aAl c w5) ?_;rintro _ wq ⟨rfl,oy⟩;obtain rfl:w5=wq:=oy.symm;cases h1:dV c with
   | true =>
    rw[h1,if_pos rfl]at hn;push_cast -dsimp;refine aC T5 (by simp) rfl ?_;intro w6 cB;have T6:aO w6 tb 71 [.int .i64 1,str [],.int .i64 i]:=cB.aN;have k6:=cB.kept;push_cast -dsimp;refine kR [7,55,56,57,58,59,60,61,62,63,64,65,66,67,68,69,70,71,72] (λz wx=>∃k:Nat,z 7=.int .i64 k/\k=i+gk (λc=>dV c || bu c) (c::r)/\wx=w6) ?_ ?_
    ·refine aM [7,55,56,57,58,59,60,61,62,63,64,65,66,67,68,69,70,71,72] (λz wx=>∃k:Nat,z 7=.int .i64 k/\i<=k/\k<=s.length/\(∀j,i<=j->j<k->(λc=>dV c || bu c) (s.getD j 0)=true)/\wx=w6) (λz wx=>s.length-(intOf (z 7)).toNat) ?_ ?_
     ·exact⟨i,rfl,Nat.le_refl _,hi,λj h1 h2=>by omega,rfl⟩
     rintro z2 w2 ⟨k,hz,Ps,iY,cg,rfl⟩;have qt:(λc=>dV c || bu c) (s.getD k 0)=true->∀j,i<=j->j<k+1->(λc=>dV c || bu c) (s.getD j 0)=true:=λhb j h1 h2=>by
      by_cases h:j<k
      ·exact cg j h1 h
      rw[show j=k by omega];exact hb
     have nW:(k=s.length\/(λc=>dV c || bu c) (s.getD k 0)=false)->k=i+gk (λc=>dV c || bu c) (c::r):=λh=>by rw[<-EE];exact u4 Ps iY cg h
     push_cast -dsimp[hz];refine⟨λhkl=>⟨⟨by omega,by omega⟩,?_⟩,λhkl=>⟨k,rfl,nW (.inl (by omega))⟩⟩;skip;refine aA (aAl (s.getD k 0) w2) ?_;rintro _ wq ⟨rfl,oy⟩;obtain rfl:w2=wq:=oy.symm;cases hl:dV (s.getD k 0) with
     | true =>
      push_cast -dsimp;exact⟨⟨by omega,by omega⟩,⟨k+1,rfl,by omega,by omega,qt (by show (dV _ || bu _)=true;rw[hl];rfl)⟩,by simp only[intOf,hz];omega⟩
     | false =>
      push_cast -dsimp;refine⟨⟨by omega,by omega⟩,?_⟩;refine aA (Re (s.getD k 0) w2) ?_;rintro _ wq ⟨rfl,oy⟩;obtain rfl:w2=wq:=oy.symm;cases hd:bu (s.getD k 0) with
      | true =>
       push_cast -dsimp;exact⟨⟨by omega,by omega⟩,⟨k+1,rfl,by omega,by omega,qt (by show (dV _ || bu _)=true;rw[hd,Bool.or_true])⟩,by simp only[intOf,hz];omega⟩
      | false =>
       push_cast -dsimp;exact⟨k,rfl,nW (.inr (by show (dV _ || bu _)=false;rw[hl,hd];rfl))⟩
    rintro z2 w7 ⟨k,hz,hk,rfl⟩;push_cast -dsimp[hz];exact⟨k,_,1,rfl,hk,hn,T6,k6⟩
   | false =>
    rw[h1,if_neg (by decide)]at hn;push_cast -dsimp;refine aA (Re c w5) ?_;rintro _ wq ⟨rfl,oy⟩;obtain rfl:w5=wq:=oy.symm;cases h2:bu c with
    | true =>
     rw[h2,if_pos rfl]at hn;push_cast -dsimp;refine aC T5 (by simp) rfl ?_;intro w6 cB;have T6:aO w6 tb 71 [.int .i64 2,str [],.int .i64 i]:=cB.aN;have k6:=cB.kept;push_cast -dsimp;refine kR [7,77,78,79,80,81,82,83,84,85,86,87,88] (λz wx=>∃k:Nat,z 7=.int .i64 k/\k=i+gk bu (c::r)/\wx=w6) ?_ ?_
     ·refine aM [7,77,78,79,80,81,82,83,84,85,86,87,88] (λz wx=>∃k:Nat,z 7=.int .i64 k/\i<=k/\k<=s.length/\(∀j,i<=j->j<k->bu (s.getD j 0)=true)/\wx=w6) (λz wx=>s.length-(intOf (z 7)).toNat) ?_ ?_
      ·exact⟨i,rfl,Nat.le_refl _,hi,λj h1 h2=>by omega,rfl⟩
      rintro z2 w2 ⟨k,hz,Ps,iY,cg,rfl⟩;have qt:bu (s.getD k 0)=true->∀j,i<=j->j<k+1->bu (s.getD j 0)=true:=λhb j h1 h2=>by
       by_cases h:j<k
       ·exact cg j h1 h
       rw[show j=k by omega];exact hb
      have nW:(k=s.length\/bu (s.getD k 0)=false)->k=i+gk bu (c::r):=λh=>by rw[<-EE];exact u4 Ps iY cg h
      push_cast -dsimp[hz];refine⟨λhkl=>⟨⟨by omega,by omega⟩,?_⟩,λhkl=>⟨k,rfl,nW (.inl (by omega))⟩⟩;skip;refine aA (Re (s.getD k 0) w2) ?_;rintro _ wq ⟨rfl,oy⟩;obtain rfl:w2=wq:=oy.symm;cases hd:bu (s.getD k 0) with
      | true =>
       push_cast -dsimp;exact⟨⟨by omega,by omega⟩,⟨k+1,rfl,by omega,by omega,qt hd⟩,by simp only[intOf,hz];omega⟩
      | false =>
       push_cast -dsimp;exact⟨k,rfl,nW (.inr hd)⟩
     rintro z2 w7 ⟨k,hz,hk,rfl⟩;push_cast -dsimp[hz];exact⟨k,_,2,rfl,hk,hn,T6,k6⟩
    | false =>
     rw[h2,if_neg (by decide)]at hn;push_cast -dsimp;refine⟨λh3=>?_,λh3=>?_⟩
     ·rw[if_pos (aF1.1 h3)]at hn;refine aC T5 (by simp) rfl ?_;intro w6 cB;have T6:aO w6 tb 71 [.int .i64 3,str [],.int .i64 i]:=cB.aN;have k6:=cB.kept;have Zq:=TP (s:=c::r) (c:=93);push_cast -dsimp[EE];refine⟨⟨by omega,by omega⟩,?_⟩;refine aA (Kz (c::r) 93 w6) ?_;rintro _ wq ⟨rfl,oy⟩;obtain rfl:w6=wq:=oy.symm;cases hct:(c::r).contains 93 with
      | true =>
       rw[hct,if_pos rfl]at Zq hn;have aLf:=oV (· != 93) (c::r);rw[List.length_cons]at aLf;push_cast -dsimp;exact⟨λ_=>⟨⟨by omega,by omega⟩,⟨by omega,by omega⟩,i+(gk (· != 93) (c::r)+1),_,3,by rw[show (i:Int)+Lib.indexByte (c::r) 93+1=((i+(gk (· != 93) (c::r)+1):Nat):Int) by omega],rfl,hn,T6,k6⟩,λh=>by omega⟩
      | false =>
       rw[hct,if_neg (by decide)]at Zq hn;push_cast -dsimp;exact⟨λh=>by omega,λ_=>⟨i,0,3,rfl,rfl,hn,T6,k6⟩⟩
     rw[if_neg (λh=>h3 (aF1.2 h))]at hn;refine aC T5 (by simp) rfl ?_;intro w6 cB;have T6:aO w6 tb 71 [.int .i64 4,str [],.int .i64 i]:=cB.aN;have k6:=cB.kept;have tB:(s.take ((i:Int)+1).toNat).drop i=[c]:=by rw[show ((i:Int)+1).toNat=i+1 by omega,List.drop_take,EE,show i+1-i=1 by omega];rfl
     push_cast -dsimp[tB];refine⟨⟨by omega,by omega⟩,⟨by omega,by omega,by omega⟩,?_⟩;refine aA (Nh c w6 (hg.below (hb.trans (((k5.weaken (Y:=λi=>w'.heap.size<=i) (λi _ h=>h.elim)).trans k6 (λi h1 h2=>by omega)).below (B:=w.heap.size) TO (λi h=>by omega)))).t) ?_;rintro _ wq ⟨rfl,oy⟩;obtain rfl:w6=wq:=oy.symm;cases hct:mg.contains c with
     | true =>
      rw[hct,if_pos rfl]at hn;push_cast -dsimp;exact⟨⟨by omega,by omega⟩,i+1,1,4,rfl,rfl,hn,T6,k6⟩
     | false =>
      rw[hct,if_neg (by decide)]at hn;push_cast -dsimp;exact⟨i,0,4,rfl,rfl,hn,T6,k6⟩
  rintro z2 w6 ⟨k,n,kk,hz7,hk,AJ,T6,k6⟩;refine cC ?_;have hle:=qA c r;rw[AJ]at hle bN;dsimp only at hle bN;rw[List.length_cons]at hle;have sQ:=hF.lt;have F6:=(hF.kept k5 (λh=>h)).kept k6 (by omega);have kk6:Kept (λi=>w'.heap.size<=i) w' w6:=(k5.weaken (λi _ h=>h.elim)).trans k6 (λi h1 h2=>by omega);have b6:=hb.trans (kk6.below (B:=w.heap.size) TO (λi h=>by omega));have z6:=k6.size;push_cast -dsimp[hz7];refine⟨λh0=>?_,λh0=>?_⟩;·
   refine aF (xt:=28) (n:=2) (by kernel_rfl) F6 rfl (by decide) (by simp;exact⟨rfl,rfl⟩) ?_
   intro w7 dN
   have F7:aO w7 w.heap.size 28 [.int .i64 (3:Nat),.int .i64 i]:=dN.aN
   have d7:aB w7 ⟨w.heap.size,0,none⟩ 0 2=some [.int .i64 (3:Nat),.int .i64 i]:=F7.aB
   have b7:=b6.trans (dN.kept.below (B:=w.heap.size) (by omega) (λi h=>by omega))
   push_cast -dsimp[d7]
   exact⟨.inr ⟨3,i,by rw[<-bN,if_pos (show n=0 by omega)],by decide,rfl⟩,b7⟩
  rw[if_neg (by omega)]at bN;push_cast -dsimp[xq];refine⟨λaBc=>?_,λaBc=>?_⟩;·
   refine aF (xt:=28) (n:=2) (by kernel_rfl) F6 rfl (by decide) (by simp;exact⟨rfl,rfl⟩) ?_
   intro w7 dN
   have F7:aO w7 w.heap.size 28 [.int .i64 (4:Nat),.int .i64 i]:=dN.aN
   have d7:aB w7 ⟨w.heap.size,0,none⟩ 0 2=some [.int .i64 (4:Nat),.int .i64 i]:=F7.aB
   have b7:=b6.trans (dN.kept.below (B:=w.heap.size) (by omega) (λi h=>by omega))
   push_cast -dsimp[d7]
   exact⟨.inr ⟨4,i,by rw[<-bN,if_pos (show acc.length=500 by omega)],by decide,rfl⟩,b7⟩
  rw[if_neg (by omega)]at bN;have aCc:(s.take k).drop i=(c::r).take n:=by rw[List.drop_take,EE];congr 1;omega
  have nC:cJ [(0,Value.agg #[.int .i64 kk,str ((c::r).take n),.int .i64 i])]=[(⟨kk,(c::r).take n,i⟩:Cae.Tok)].flatMap fF:=rfl;push_cast -dsimp[aCc];refine⟨⟨by omega,by omega,by omega⟩,?_⟩;refine aC T6 (by simp) rfl ?_;intro w7 dN;have T7:aO w7 tb 71 [.int .i64 kk,str ((c::r).take n),.int .i64 i]:=dN.aN;have d7:aB w7 ⟨tb,0,none⟩ 0 3=some [.int .i64 kk,str ((c::r).take n),.int .i64 i]:=T7.aB;have k7:=kk6.trans dN.kept (λi h1 h2=>by omega);have z7:=dN.size;have b7:=hb.trans (k7.below (B:=w.heap.size) TO (λi h=>by omega));have F7:=F6.kept dN.kept (by omega);have O7:=hO.ak k7 (λg hg h=>by have:=(hO.block g hg).2;omega);push_cast -dsimp[d7];refine cY CJ rfl rfl (by omega) ?_;rw[nC];intro w8 n9;have Kq:=O7.new n9;have z8:=n9.size;have b8:=b7.trans (n9.below.mono b7.size);have F8:=F7.below n9.below F7.lt;push_cast -dsimp[xq];refine ae (base:=w.heap.size+1) [⟨kk,(c::r).take n,i⟩] (enc:=fF) CJ Kq (by rfl) (λj y hy=>by rw[Nat.zero_add];exact n9.cell hy) oD (by simp only[List.length_cons,List.length_nil];omega) (by omega) ?_;intro v9 w9 sr hg9 hn9;have kg:=Kept.grown hg9 (X:=λj=>(Value.slice va acc.length vc).ownBlock=some j) (λ_ h=>h);have b9:=b8.trans (kg.below (B:=w.heap.size) (by omega) (λi h=>by have:=(Kq.block i h).1;omega));have F9:=F8.kept kg (λh=>by have:=(Kq.block _ h).1;omega);push_cast -dsimp
  exact⟨⟨m',k,acc++[⟨kk,(c::r).take n,i⟩],v9,rfl,rfl,by omega,by rw[hk,Fv];simp;omega,by rw[List.length_append,List.length_singleton];omega,by rw[hk,Fv];exact bN,sr,F9,b9⟩,by simp only[intOf,rr];omega⟩
 have hgw:=hg.below hb;have nW:s.drop i=[]:=List.drop_eq_nil_iff.2 (by omega);have cD:yp s=.ok (acc++[⟨5,[],s.length⟩]):=by
  rw[<-dB,nW,jA,show i=s.length by omega]
 have nC:cJ [(0,Value.agg #[.int .i64 5,str [],.int .i64 s.length])]=[(⟨5,[],s.length⟩:Cae.Tok)].flatMap fF:=rfl;refine aX (λar=>aB ar ⟨0,0,none⟩ 0 2=some [.int .i64 0,.int .i64 (-1)]) mixed (by kernel_rfl) (aL (w:=w'.drew) (hgw.below (aS w'))) ?_;have zd:w'.drew.heap.size=w'.heap.size:=rfl;have bd:=hb.trans ((aS w').mono TO);have hOd:=hO.ak (Kept.refl (λ_=>False) w').drew (λ_ _ h=>h);have hFd:=hF.drew;push_cast -dsimp[xq];refine cY CJ rfl rfl (by omega) ?_;rw[nC];intro w4 aj;have uk:=hOd.new aj;have z4':=aj.size;have b4:=bd.trans (aj.below.mono (by omega));have F4:=hFd.below aj.below hFd.lt;refine⟨aL (hg.below b4),?_⟩;push_cast -dsimp;refine ae (base:=w.heap.size+1) [⟨5,[],s.length⟩] (enc:=fF) CJ uk (by rfl) (λj y hy=>by rw[Nat.zero_add];exact aj.cell hy) oD (by simp only[List.length_cons,List.length_nil];omega) (by omega) ?_;intro v5 w5 gR rh mT;have kg:=Kept.grown rh (X:=λj=>(Value.slice va acc.length vc).ownBlock=some j) (λ_ h=>h);have b5:=b4.trans (kg.below (B:=w.heap.size) (by omega) (λi h=>by have:=(uk.block i h).1;omega));have F5:=F4.kept kg (λh=>by have:=(uk.block _ h).1;omega);have d5:=aL (hg.below b5);have eM:=gR.slice;obtain⟨a5,c5,rfl⟩:=eM;refine⟨d5,?_⟩;push_cast -dsimp[d5];refine⟨λar h=>by rw[h];exact rfl,?_⟩;refine aF (xt:=28) (n:=2) (by kernel_rfl) F5 rfl (by decide) (by simp;exact⟨rfl,rfl⟩) ?_;intro w6 cB;have F6:aO w6 w.heap.size 28 [.int .i64 0,.int .i64 (-1)]:=cB.aN;have d6:aB w6 ⟨w.heap.size,0,none⟩ 0 2=some [.int .i64 0,.int .i64 (-1)]:=F6.aB
 have b6:=b5.trans (cB.kept.below (B:=w.heap.size) b5.size (λi h=>by omega));refine⟨aL (hg.below b6),?_⟩;push_cast -dsimp[d6];exact⟨.inl ⟨_,_,cD,rfl,(gR.ak cB.kept (λg hg h=>by have:=(gR.block g hg).1;omega)).mono (by omega)⟩,b6⟩
end Go.Proofs.YtodeeahdhnjpkaaGreatDoor
end
section
namespace Go.Proofs.YtodeeahdhnjpkaaGreatDoor
open Go.Vc Go.Proofs Go.RowKit Cae
attribute [local irreducible] cw ag aq a8 runK bD Sl Vc.Own vc aW cN ai
def gu (X:Nat->Prop)(B:Nat)(nm:bP)(k:ax)(r:Value)(w:World):Prop:=match ay nm k with
 | .ok s=>∃v,r=.tuple #[v,.agg #[.int .i64 0,.int .i64 (-1)]]/\Sl (λb=>X b/\b<B) 2 (En encR) w v s/\Arg v
 | .error e=>r=.tuple #[.slice none 0 0,.agg #[.int .i64 7,.int .i64 (e:Int)]]
theorem D9:∀(k:ax),fY k->∀(nm:bP),fZ nm->∀(X:Nat->Prop) (v:Value) (b:Nat) (w:World),Gr w->eC X w v k->gH X w b nm ->
  bD Tryz.prog 35 [v,.map (some b)] w λr w'=>gu X w.heap.size nm k r w'/\Below w.heap.size w w':=by
 intro k;induction k with
 | lit pos s =>
  rintro cD nm hr X v mb w hg ⟨b,sv,rfl,hb,hB,hs,ha⟩ hm;obtain⟨sa,sc,rfl,_⟩:=hs.shape;have bZ:=hB.lt
  (refine cM Tryz.func35 rfl (by kernel_rfl) [.tmp 4,.cell 5 28] rfl ?_;push_cast -dsimp(maxSteps:=4000000) [Tryz.ntmps35]);refine aD ?_;push_cast -dsimp;refine aR (z:=[.int .i64 0,.int .i64 0]) (by kernel_rfl) ?_;intro w1 au;have E1:aO w1 w.heap.size 28 [.int .i64 0,.int .i64 0]:=au.aN;have z1:=au.size;have b1:=au.below;have iK:=hB.below b1 hB.lt;have d0:w1.cell? ⟨b,0,none⟩=some (.int .i64 1):=iK.cell rfl;have d2:w1.cell? ⟨b,2,none⟩=some (.slice sa s.length sc):=iK.cell rfl;have d2d:w1.drew.cell? ⟨b,2,none⟩=some (.slice sa s.length sc):=d2;have e2:∀ar:World,ar.cell? ⟨b,2,none⟩=some (.slice sa s.length sc)->ar.cell? ⟨b,2,none⟩=some (.slice sa s.length sc):=λ_ h=>h;push_cast -dsimp;refine aD ?_;push_cast -dsimp[d0];have gF:=aL (hg.below b1);have Zc:aB w1.drew ⟨0,0,none⟩ 0 2=some [.int .i64 0,.int .i64 (-1)]:=gF;refine aX (λar=>ar.cell? ⟨b,2,none⟩=some (.slice sa s.length sc)/\aB ar ⟨0,0,none⟩ 0 2=some [.int .i64 0,.int .i64 (-1)]) mixed (by kernel_rfl) ⟨d2d,Zc⟩ ?_;push_cast -dsimp[d2d,Zc];refine⟨λar h=>by rw[h.1];exact rfl,λar h=>by rw[h.2];exact rfl,?_⟩;refine aF (xt:=28) (n:=2) (by kernel_rfl) E1.drew rfl (by decide) (by simp;exact⟨rfl,rfl⟩) ?_;intro w2 bT;have E2:aO w2 w.heap.size 28 [.int .i64 0,.int .i64 (-1)]:=bT.aN;have b2:=(b1.trans ((aS w1).mono (by omega))).trans (bT.kept.below (B:=w.heap.size) (by have:w1.drew.heap.size=w1.heap.size:=rfl;omega) (λi h=>by omega));have dE:aB w2 ⟨w.heap.size,0,none⟩ 0 2=some [.int .i64 0,.int .i64 (-1)]:=E2.aB
  refine⟨⟨(b2.cell (by show b<_;omega)).trans (hB.cell rfl),(aL (hg.below b2))⟩,?_⟩
  push_cast -dsimp[dE];refine⟨?_,b2⟩;exact⟨_,rfl,(hs.below b2).weaken (λb hh=>hh.1),ha⟩
 | ref pos n =>
  rintro cD nm hr X v mb w hg ⟨b,rfl,hb,hB⟩ hm;have bZ:=hB.lt
  (refine cM Tryz.func35 rfl (by kernel_rfl) [.tmp 4,.cell 5 28] rfl ?_;push_cast -dsimp(maxSteps:=4000000) [Tryz.ntmps35]);refine aD ?_;push_cast -dsimp;refine aR (z:=[.int .i64 0,.int .i64 0]) (by kernel_rfl) ?_;intro w1 au;have E1:aO w1 w.heap.size 28 [.int .i64 0,.int .i64 0]:=au.aN;have z1:=au.size;have b1:=au.below;have iK:=hB.below b1 hB.lt;obtain⟨gD,hM0,hA⟩:=hm;have hM:=hM0.below b1 hM0.lt;have hf:=gH.find (n:=n) hA;have d0:w1.cell? ⟨b,0,none⟩=some (.int .i64 2):=iK.cell rfl;have d3:w1.cell? ⟨b,3,none⟩=some (str n):=iK.cell rfl;have d1:w1.cell? ⟨b,1,none⟩=some (.int .i64 pos):=iK.cell rfl;have d1d:w1.drew.cell? ⟨b,1,none⟩=some (.int .i64 pos):=d1;have gF:=aL (hg.below b1);have Zc:aB w1.drew ⟨0,0,none⟩ 0 2=some [.int .i64 0,.int .i64 (-1)]:=gF;push_cast -dsimp;refine aD ?_;push_cast -dsimp[d0,d3];rcases hf with ⟨f1,f2⟩|⟨s,u,f1,f2,hs,ha⟩
  ·refine lP (kt:=9) (et:=44) (z:=.slice none 0 0) (by kernel_rfl) (gL (by kernel_rfl)) (by kernel_rfl) hM rfl f2 ?_;push_cast -dsimp;refine aX (λar=>ar.cell? ⟨b,1,none⟩=some (.int .i64 pos)) mixed (by kernel_rfl) d1d ?_;push_cast -dsimp[d1d];refine⟨λar h=>by rw[h];exact rfl,?_⟩;refine aF (xt:=28) (n:=2) (by kernel_rfl) E1.drew rfl (by decide) (by simp;exact⟨rfl,rfl⟩) ?_;intro w2 bT;have E2:aO w2 w.heap.size 28 [.int .i64 7,.int .i64 pos]:=bT.aN;have b2:=(b1.trans ((aS w1).mono (by omega))).trans (bT.kept.below (B:=w.heap.size) (by have:w1.drew.heap.size=w1.heap.size:=rfl;omega) (λi h=>by omega));have dE:aB w2 ⟨w.heap.size,0,none⟩ 0 2=some [.int .i64 7,.int .i64 pos]:=E2.aB;refine⟨(b2.cell (by show b<_;omega)).trans (hB.cell rfl),?_⟩
   push_cast -dsimp[dE];refine⟨?_,b2⟩;unfold gu;rw[show ay nm (.ref pos n)=.error pos from by rw[ay,f1]]
  refine lQ (kt:=9) (et:=44) (z:=.slice none 0 0) (by kernel_rfl) (gL (by kernel_rfl)) (by kernel_rfl) hM rfl f2 ?_;obtain⟨_,_,rfl,_⟩:=hs.shape;push_cast -dsimp;refine aX (λar=>aB ar ⟨0,0,none⟩ 0 2=some [.int .i64 0,.int .i64 (-1)]) mixed (by kernel_rfl) Zc ?_;push_cast -dsimp[Zc];refine⟨λar h=>by rw[h];exact rfl,?_⟩;refine aF (xt:=28) (n:=2) (by kernel_rfl) E1.drew rfl (by decide) (by simp;exact⟨rfl,rfl⟩) ?_;intro w2 bT;have E2:aO w2 w.heap.size 28 [.int .i64 0,.int .i64 (-1)]:=bT.aN;have b2:=(b1.trans ((aS w1).mono (by omega))).trans (bT.kept.below (B:=w.heap.size) (by have:w1.drew.heap.size=w1.heap.size:=rfl;omega) (λi h=>by omega));have dE:aB w2 ⟨w.heap.size,0,none⟩ 0 2=some [.int .i64 0,.int .i64 (-1)]:=E2.aB;refine⟨aL (hg.below b2),?_⟩;push_cast -dsimp[dE];refine⟨?_,b2⟩;unfold gu;rw[show ay nm (.ref pos n)=.ok s from by rw[ay,f1]]
  exact⟨_,rfl,(hs.below b2).weaken (λb hh=>hh.1),ha⟩
 | not pos k ih =>
  rintro cD nm hr X v mb w hg ⟨b,u,rfl,hb,hB,h1⟩ hm;obtain⟨b1,rfl,de⟩:=h1.ptr;have bZ:=hB.lt
  (refine cM Tryz.func35 rfl (by kernel_rfl) [.tmp 4,.cell 5 28] rfl ?_;push_cast -dsimp(maxSteps:=4000000) [Tryz.ntmps35]);refine aD ?_;push_cast -dsimp;refine aR (z:=[.int .i64 0,.int .i64 0]) (by kernel_rfl) ?_;intro w1 au;have E1:aO w1 w.heap.size 28 [.int .i64 0,.int .i64 0]:=au.aN;have z1:=au.size;have c1:=au.below;have iK:=hB.below c1 hB.lt;have d0:w1.cell? ⟨b,0,none⟩=some (.int .i64 6):=iK.cell rfl;have d4:w1.cell? ⟨b,4,none⟩=some (.pointer (some ⟨b1,0,none⟩)):=iK.cell rfl;push_cast -dsimp;refine aD ?_;push_cast -dsimp[d0];refine aD ?_;push_cast -dsimp[d4];refine aA (ih cD nm hr X _ mb w1 (hg.below c1) (h1.below c1) (hm.below c1)) ?_;rintro r w2 ⟨hR,c2⟩;have z2:=c2.size;have RW:=c1.trans (c2.mono (by omega));have E2:=E1.below c2 (by omega);unfold gu at hR;cases hk:ay nm k with
  | error e =>
   rw[hk]at hR;have hR:r=_:=hR;subst hR;push_cast -dsimp;refine aR (z:=[.int .i64 0,.int .i64 0]) (by kernel_rfl) ?_;intro w3 bO;have z3:=bO.size;push_cast -dsimp;refine aF (xt:=28) (n:=2) (by kernel_rfl) bO.aN rfl (by decide) (by simp;exact⟨rfl,rfl⟩) ?_;intro w4 aj;have F4:aO w4 w2.heap.size 28 [.int .i64 7,.int .i64 e]:=aj.aN;have z4:=aj.size;have c4:Below w2.heap.size w2 w4:=bO.below.trans (aj.kept.below (B:=w2.heap.size) (by omega) (λi h=>by omega));have lK:=RW.trans (c4.mono (by omega));have g4:=aL (hg.below lK);have f4:aB w4 ⟨w2.heap.size,0,none⟩ 0 2=some [.int .i64 7,.int .i64 e]:=F4.aB;have E4:=E2.below c4 (by omega);push_cast -dsimp;refine aD ?_;push_cast -dsimp[f4,g4];refine aX (λar=>aB ar ⟨w2.heap.size,0,none⟩ 0 2=some [.int .i64 7,.int .i64 e]) mixed (by kernel_rfl) f4 ?_;have f4d:aB w4.drew ⟨w2.heap.size,0,none⟩ 0 2=some [.int .i64 7,.int .i64 e]:=f4;push_cast -dsimp[f4d];refine⟨λar h=>by rw[h];exact rfl,?_⟩;refine aF (xt:=28) (n:=2) (by kernel_rfl) E4.drew rfl (by decide) (by simp;exact⟨rfl,rfl⟩) ?_;intro w5 bW;have E5:aO w5 w.heap.size 28 [.int .i64 7,.int .i64 e]:=bW.aN;have dE:aB w5 ⟨w.heap.size,0,none⟩ 0 2=some [.int .i64 7,.int .i64 e]:=E5.aB;have pL:=(lK.trans ((aS w4).mono (by omega))).trans (bW.kept.below (B:=w.heap.size) (by have:w4.drew.heap.size=w4.heap.size:=rfl;omega) (λi h=>by omega));refine⟨(F4.drew.kept bW.kept (by omega)).aB,?_⟩;push_cast -dsimp[dE];refine⟨?_,pL⟩;unfold gu;rw[show ay nm (.not pos k)=.error e from by rw[ay,hk]]
  | ok s =>
   rw[hk]at hR;obtain⟨v1,rfl,eY,zH⟩:=hR;have fO:=cA (k:=k) hr cD hk;have hle:=dt fO;have eM:=eY.shape;obtain⟨_,_,rfl,_⟩:=eM;push_cast -dsimp;refine aR (z:=[.int .i64 0,.int .i64 0]) (by kernel_rfl) ?_;intro w3 bO;have z3:=bO.size;push_cast -dsimp;refine aF (xt:=28) (n:=2) (by kernel_rfl) bO.aN rfl (by decide) (by simp;exact⟨rfl,rfl⟩) ?_;intro w4 aj;have F4:aO w4 w2.heap.size 28 [.int .i64 0,.int .i64 (-1)]:=aj.aN;have z4:=aj.size;have c4:Below w2.heap.size w2 w4:=bO.below.trans (aj.kept.below (B:=w2.heap.size) (by omega) (λi h=>by omega));have lK:=RW.trans (c4.mono (by omega));have g4:=aL (hg.below lK);have f4:aB w4 ⟨w2.heap.size,0,none⟩ 0 2=some [.int .i64 0,.int .i64 (-1)]:=F4.aB;have E4:=E2.below c4 (by omega);have qW:=hB.below lK hB.lt;have d6:w4.cell? ⟨b,0,none⟩=some (.int .i64 6):=qW.cell rfl;push_cast -dsimp;refine aD ?_;push_cast -dsimp[f4,g4];refine aD ?_;push_cast -dsimp[d6];have g4d:aB w4.drew ⟨0,0,none⟩ 0 2=some [.int .i64 0,.int .i64 (-1)]:=g4;refine aX (λar=>aB ar ⟨0,0,none⟩ 0 2=some [.int .i64 0,.int .i64 (-1)]) mixed (by kernel_rfl) g4 ?_;push_cast -dsimp[g4d];have zd:w4.drew.heap.size=w4.heap.size:=rfl;refine aA (aC4 s (by omega) fO _ _ w4.drew ((eY.below c4).below (aS w4))) ?_;rintro v5 w5 ⟨Vy,c5⟩;have z5:=c5.size;have aJe:=lK.trans ((aS w4).mono (by omega));have pL:=aJe.trans (c5.mono (by omega));have g5:=aL (hg.below pL);have E5:=E4.drew.below c5 (by omega);have ha5:Arg v5:=Vy.dH;have rL:=Vy.slice;obtain⟨_,_,rfl⟩:=rL;refine⟨g5,?_⟩;push_cast -dsimp[g5]
   refine⟨λar h=>by rw[h];exact rfl,?_⟩;refine aF (xt:=28) (n:=2) (by kernel_rfl) E5 rfl (by decide) (by simp;exact⟨rfl,rfl⟩) ?_;intro w6 cB;have E6:aO w6 w.heap.size 28 [.int .i64 0,.int .i64 (-1)]:=cB.aN;have dE:aB w6 ⟨w.heap.size,0,none⟩ 0 2=some [.int .i64 0,.int .i64 (-1)]:=E6.aB;have tx:=pL.trans (cB.kept.below (B:=w.heap.size) (by omega) (λi h=>by omega));refine⟨aL (hg.below tx),?_⟩;push_cast -dsimp[dE];refine⟨?_,tx⟩;unfold gu;rw[show ay nm (.not pos k)=.ok (fm s) from by rw[ay,hk]]
   exact⟨_,rfl,(Vy.ak cB.kept (λg vh h=>by have:=(Vy.block g vh).1;omega)).sl.weaken (λb hh=>by have:=hh.2;omega),ha5⟩
 | bin c pos k r ih TS =>
  rintro cD nm hr X v mb w hg ⟨b,u,x,rfl,hb,hB,h1,h2⟩ hm;obtain⟨b1,rfl,de⟩:=h1.ptr;obtain⟨b2,rfl,eW⟩:=h2.ptr;obtain⟨rk,uN,hc⟩:=cD;rcases hc with rfl|rfl|rfl
  case inl =>
   have bZ:=hB.lt
   (refine cM Tryz.func35 rfl (by kernel_rfl) [.tmp 4,.cell 5 28] rfl ?_;push_cast -dsimp(maxSteps:=4000000) [Tryz.ntmps35]);refine aD ?_;push_cast -dsimp;refine aR (z:=[.int .i64 0,.int .i64 0]) (by kernel_rfl) ?_;intro w1 au;have E1:aO w1 w.heap.size 28 [.int .i64 0,.int .i64 0]:=au.aN;have z1:=au.size;have c1:=au.below;have iK:=hB.below c1 hB.lt;have d0:w1.cell? ⟨b,0,none⟩=some (.int .i64 3):=iK.cell rfl;have d4:w1.cell? ⟨b,4,none⟩=some (.pointer (some ⟨b1,0,none⟩)):=iK.cell rfl;push_cast -dsimp;refine aD ?_;push_cast -dsimp[d0];refine aD ?_;push_cast -dsimp[d4];refine aA (ih rk nm hr X _ mb w1 (hg.below c1) (h1.below c1) (hm.below c1)) ?_;rintro r0 w2 ⟨hR,c2⟩;have z2:=c2.size;have RW:=c1.trans (c2.mono (by omega));have E2:=E1.below c2 (by omega);unfold gu at hR;cases hk:ay nm k with
   | error e =>
    rw[hk]at hR;have hR:r0=_:=hR;subst hR;push_cast -dsimp;refine aR (z:=[.int .i64 0,.int .i64 0]) (by kernel_rfl) ?_;intro w3 bO;have z3:=bO.size;push_cast -dsimp;refine aF (xt:=28) (n:=2) (by kernel_rfl) bO.aN rfl (by decide) (by simp;exact⟨rfl,rfl⟩) ?_;intro w4 aj;have F4:aO w4 w2.heap.size 28 [.int .i64 7,.int .i64 e]:=aj.aN;have z4:=aj.size;have c4:Below w2.heap.size w2 w4:=bO.below.trans (aj.kept.below (B:=w2.heap.size) (by omega) (λi h=>by omega));have lK:=RW.trans (c4.mono (by omega));have g4:=aL (hg.below lK);have f4:aB w4 ⟨w2.heap.size,0,none⟩ 0 2=some [.int .i64 7,.int .i64 e]:=F4.aB;have E4:=E2.below c4 (by omega);push_cast -dsimp;refine aD ?_;push_cast -dsimp[f4,g4];refine aX (λar=>aB ar ⟨w2.heap.size,0,none⟩ 0 2=some [.int .i64 7,.int .i64 e]) mixed (by kernel_rfl) f4 ?_;have f4d:aB w4.drew ⟨w2.heap.size,0,none⟩ 0 2=some [.int .i64 7,.int .i64 e]:=f4;push_cast -dsimp[f4d];refine⟨λar h=>by rw[h];exact rfl,?_⟩;refine aF (xt:=28) (n:=2) (by kernel_rfl) E4.drew rfl (by decide) (by simp;exact⟨rfl,rfl⟩) ?_;intro w5 bW;have E5:aO w5 w.heap.size 28 [.int .i64 7,.int .i64 e]:=bW.aN;have dE:aB w5 ⟨w.heap.size,0,none⟩ 0 2=some [.int .i64 7,.int .i64 e]:=E5.aB;have pL:=(lK.trans ((aS w4).mono (by omega))).trans (bW.kept.below (B:=w.heap.size) (by have:w4.drew.heap.size=w4.heap.size:=rfl;omega) (λi h=>by omega));refine⟨(F4.drew.kept bW.kept (by omega)).aB,?_⟩;push_cast -dsimp[dE];refine⟨?_,pL⟩;unfold gu;rw[show ay nm (.bin 3 pos k r)=.error e from by rw[ay,hk]]
   | ok s =>
    rw[hk]at hR;obtain⟨v1,rfl,eY,zH⟩:=hR;have fO:=cA (k:=k) hr rk hk;have hle:=dt fO;have eM:=eY.shape;obtain⟨_,_,rfl,_⟩:=eM;push_cast -dsimp;refine aR (z:=[.int .i64 0,.int .i64 0]) (by kernel_rfl) ?_;intro w3 bO;have z3:=bO.size;push_cast -dsimp;refine aF (xt:=28) (n:=2) (by kernel_rfl) bO.aN rfl (by decide) (by simp;exact⟨rfl,rfl⟩) ?_;intro w4 aj;have F4:aO w4 w2.heap.size 28 [.int .i64 0,.int .i64 (-1)]:=aj.aN;have z4:=aj.size;have c4:Below w2.heap.size w2 w4:=bO.below.trans (aj.kept.below (B:=w2.heap.size) (by omega) (λi h=>by omega));have lK:=RW.trans (c4.mono (by omega));have g4:=aL (hg.below lK);have f4:aB w4 ⟨w2.heap.size,0,none⟩ 0 2=some [.int .i64 0,.int .i64 (-1)]:=F4.aB;have E4:=E2.below c4 (by omega);have qW:=hB.below lK hB.lt;have d6:w4.cell? ⟨b,0,none⟩=some (.int .i64 3):=qW.cell rfl;have d7:w4.cell? ⟨b,5,none⟩=some (.pointer (some ⟨b2,0,none⟩)):=qW.cell rfl;push_cast -dsimp;refine aD ?_;push_cast -dsimp[f4,g4];refine aD ?_;push_cast -dsimp[d6];refine aD ?_;push_cast -dsimp[d7];have hmT:gH (λb=>X b\/w.heap.size<=b) w mb nm:=by
     obtain⟨gD,p,q⟩:=hm;exact⟨gD,p,q.imp λa b h=>⟨h.1,Sl.top (by decide) h.2.1,h.2.2⟩⟩
    refine aA (TS uN nm hr _ _ mb w4 (hg.below lK) (h2.top.below lK) (hmT.below lK)) ?_;rintro r5 w5 ⟨xY,c5⟩;have z5:=c5.size;have pL:=lK.trans (c5.mono (by omega));have E5:=E4.below c5 (by omega);have F5:=F4.below c5 (by omega);unfold gu at xY;cases iY:ay nm r with
    | error e =>
     rw[iY]at xY;have xY:r5=_:=xY;subst xY;push_cast -dsimp;refine aF (xt:=28) (n:=2) (by kernel_rfl) F5 rfl (by decide) (by simp;exact⟨rfl,rfl⟩) ?_;intro w6 cB;have F6:aO w6 w2.heap.size 28 [.int .i64 7,.int .i64 e]:=cB.aN;have z6:=cB.size;have tx:=pL.trans (cB.kept.below (B:=w.heap.size) (by omega) (λi h=>by omega));have E6:=E5.kept cB.kept (by omega);have f6:aB w6 ⟨w2.heap.size,0,none⟩ 0 2=some [.int .i64 7,.int .i64 e]:=F6.aB;have g6:=aL (hg.below tx);push_cast -dsimp;refine aD ?_;push_cast -dsimp[f6,g6];refine aX (λar=>aB ar ⟨w2.heap.size,0,none⟩ 0 2=some [.int .i64 7,.int .i64 e]) mixed (by kernel_rfl) f6 ?_;have f6d:aB w6.drew ⟨w2.heap.size,0,none⟩ 0 2=some [.int .i64 7,.int .i64 e]:=f6;push_cast -dsimp[f6d];refine⟨λar h=>by rw[h];exact rfl,?_⟩;refine aF (xt:=28) (n:=2) (by kernel_rfl) E6.drew rfl (by decide) (by simp;exact⟨rfl,rfl⟩) ?_;intro w7 dN;have E7:aO w7 w.heap.size 28 [.int .i64 7,.int .i64 e]:=dN.aN;have dE:aB w7 ⟨w.heap.size,0,none⟩ 0 2=some [.int .i64 7,.int .i64 e]:=E7.aB;have se:=(tx.trans ((aS w6).mono (by omega))).trans (dN.kept.below (B:=w.heap.size) (by have:w6.drew.heap.size=w6.heap.size:=rfl;omega) (λi h=>by omega));refine⟨(F6.drew.kept dN.kept (by omega)).aB,?_⟩;push_cast -dsimp[dE];refine⟨?_,se⟩;unfold gu;rw[show ay nm (.bin 3 pos k r)=.error e from by rw[ay,hk];dsimp only;rw[iY]]
    | ok t =>
     rw[iY]at xY;obtain⟨v2,rfl,iP,Pn⟩:=xY;have uO:=cA (k:=r) hr uN iY;have NM:=dt uO;have TJ:=iP.shape;obtain⟨_,_,rfl,_⟩:=TJ;push_cast -dsimp;refine aF (xt:=28) (n:=2) (by kernel_rfl) F5 rfl (by decide) (by simp;exact⟨rfl,rfl⟩) ?_;intro w6 cB;have F6:aO w6 w2.heap.size 28 [.int .i64 0,.int .i64 (-1)]:=cB.aN;have z6:=cB.size;have tx:=pL.trans (cB.kept.below (B:=w.heap.size) (by omega) (λi h=>by omega));have c26:=(c4.trans (c5.mono (by omega))).trans (cB.kept.below (B:=w2.heap.size) (by omega) (λi h=>by omega));have E6:=E5.kept cB.kept (by omega);have f6:aB w6 ⟨w2.heap.size,0,none⟩ 0 2=some [.int .i64 0,.int .i64 (-1)]:=F6.aB;have g6:=aL (hg.below tx);have Cs:=hB.below tx hB.lt;have d8:w6.cell? ⟨b,0,none⟩=some (.int .i64 3):=Cs.cell rfl;have TH:=((eY.below c26).below (aS w6)).weaken (X':=λ_=>False) (λ_ h=>h.elim);have TI:=((iP.kept cB.kept (λi h=>⟨.inr (by omega),by omega⟩)).below (aS w6)).weaken (X':=λ_=>False) (λ_ h=>h.elim);push_cast -dsimp;refine aD ?_;push_cast -dsimp[f6,g6,d8];have zd:w6.drew.heap.size=w6.heap.size:=rfl;have Zb:aB w6.drew ⟨0,0,none⟩ 0 2=some [.int .i64 0,.int .i64 (-1)]:=g6;refine aX (λar=>aB ar ⟨0,0,none⟩ 0 2=some [.int .i64 0,.int .i64 (-1)]) mixed (by kernel_rfl) Zb ?_;push_cast -dsimp[Zb];refine aA (aHn s t (by omega) (by omega) fO uO _ _ _ _ TH TI) ?_;rintro v7 w7 ⟨pF,c7⟩;have z7:=c7.size;have RX:=tx.trans ((aS w6).mono (by omega));have se:=RX.trans (c7.mono (by omega));have g7:=aL (hg.below se);have E7:=E6.drew.below c7 (by omega)
     have ha7:Arg v7:=pF.dH;have rL:=pF.slice;obtain⟨_,_,rfl⟩:=rL;refine⟨g7,?_⟩;push_cast -dsimp[g7];refine⟨λar h=>by rw[h];exact rfl,?_⟩;refine aF (xt:=28) (n:=2) (by kernel_rfl) E7 rfl (by decide) (by simp;exact⟨rfl,rfl⟩) ?_;intro w8 n9;have E8:aO w8 w.heap.size 28 [.int .i64 0,.int .i64 (-1)]:=n9.aN;have dE:aB w8 ⟨w.heap.size,0,none⟩ 0 2=some [.int .i64 0,.int .i64 (-1)]:=E8.aB;have Z7:=se.trans (n9.kept.below (B:=w.heap.size) (by omega) (λi h=>by omega));refine⟨aL (hg.below Z7),?_⟩;push_cast -dsimp[dE];refine⟨?_,Z7⟩;unfold gu;rw[show ay nm (.bin 3 pos k r)=.ok (pA s t) from by rw[ay,hk];dsimp only;rw[iY];rfl]
     exact⟨_,rfl,(pF.ak n9.kept (λg vh h=>by have:=(pF.block g vh).1;omega)).sl.weaken (λb hh=>by have:=hh.2;omega),ha7⟩
  case inr.inl =>
   have bZ:=hB.lt
   (refine cM Tryz.func35 rfl (by kernel_rfl) [.tmp 4,.cell 5 28] rfl ?_;push_cast -dsimp(maxSteps:=4000000) [Tryz.ntmps35]);refine aD ?_;push_cast -dsimp;refine aR (z:=[.int .i64 0,.int .i64 0]) (by kernel_rfl) ?_;intro w1 au;have E1:aO w1 w.heap.size 28 [.int .i64 0,.int .i64 0]:=au.aN;have z1:=au.size;have c1:=au.below;have iK:=hB.below c1 hB.lt;have d0:w1.cell? ⟨b,0,none⟩=some (.int .i64 4):=iK.cell rfl;have d4:w1.cell? ⟨b,4,none⟩=some (.pointer (some ⟨b1,0,none⟩)):=iK.cell rfl;push_cast -dsimp;refine aD ?_;push_cast -dsimp[d0];refine aD ?_;push_cast -dsimp[d4];refine aA (ih rk nm hr X _ mb w1 (hg.below c1) (h1.below c1) (hm.below c1)) ?_;rintro r0 w2 ⟨hR,c2⟩;have z2:=c2.size;have RW:=c1.trans (c2.mono (by omega));have E2:=E1.below c2 (by omega);unfold gu at hR;cases hk:ay nm k with
   | error e =>
    rw[hk]at hR;have hR:r0=_:=hR;subst hR;push_cast -dsimp;refine aR (z:=[.int .i64 0,.int .i64 0]) (by kernel_rfl) ?_;intro w3 bO;have z3:=bO.size;push_cast -dsimp;refine aF (xt:=28) (n:=2) (by kernel_rfl) bO.aN rfl (by decide) (by simp;exact⟨rfl,rfl⟩) ?_;intro w4 aj;have F4:aO w4 w2.heap.size 28 [.int .i64 7,.int .i64 e]:=aj.aN;have z4:=aj.size;have c4:Below w2.heap.size w2 w4:=bO.below.trans (aj.kept.below (B:=w2.heap.size) (by omega) (λi h=>by omega));have lK:=RW.trans (c4.mono (by omega));have g4:=aL (hg.below lK);have f4:aB w4 ⟨w2.heap.size,0,none⟩ 0 2=some [.int .i64 7,.int .i64 e]:=F4.aB;have E4:=E2.below c4 (by omega);push_cast -dsimp;refine aD ?_;push_cast -dsimp[f4,g4];refine aX (λar=>aB ar ⟨w2.heap.size,0,none⟩ 0 2=some [.int .i64 7,.int .i64 e]) mixed (by kernel_rfl) f4 ?_;have f4d:aB w4.drew ⟨w2.heap.size,0,none⟩ 0 2=some [.int .i64 7,.int .i64 e]:=f4;push_cast -dsimp[f4d];refine⟨λar h=>by rw[h];exact rfl,?_⟩;refine aF (xt:=28) (n:=2) (by kernel_rfl) E4.drew rfl (by decide) (by simp;exact⟨rfl,rfl⟩) ?_;intro w5 bW;have E5:aO w5 w.heap.size 28 [.int .i64 7,.int .i64 e]:=bW.aN;have dE:aB w5 ⟨w.heap.size,0,none⟩ 0 2=some [.int .i64 7,.int .i64 e]:=E5.aB;have pL:=(lK.trans ((aS w4).mono (by omega))).trans (bW.kept.below (B:=w.heap.size) (by have:w4.drew.heap.size=w4.heap.size:=rfl;omega) (λi h=>by omega));refine⟨(F4.drew.kept bW.kept (by omega)).aB,?_⟩;push_cast -dsimp[dE];refine⟨?_,pL⟩;unfold gu;rw[show ay nm (.bin 4 pos k r)=.error e from by rw[ay,hk]]
   | ok s =>
    rw[hk]at hR;obtain⟨v1,rfl,eY,zH⟩:=hR;have fO:=cA (k:=k) hr rk hk;have hle:=dt fO;have eM:=eY.shape;obtain⟨_,_,rfl,_⟩:=eM;push_cast -dsimp;refine aR (z:=[.int .i64 0,.int .i64 0]) (by kernel_rfl) ?_;intro w3 bO;have z3:=bO.size;push_cast -dsimp;refine aF (xt:=28) (n:=2) (by kernel_rfl) bO.aN rfl (by decide) (by simp;exact⟨rfl,rfl⟩) ?_;intro w4 aj;have F4:aO w4 w2.heap.size 28 [.int .i64 0,.int .i64 (-1)]:=aj.aN;have z4:=aj.size;have c4:Below w2.heap.size w2 w4:=bO.below.trans (aj.kept.below (B:=w2.heap.size) (by omega) (λi h=>by omega));have lK:=RW.trans (c4.mono (by omega));have g4:=aL (hg.below lK);have f4:aB w4 ⟨w2.heap.size,0,none⟩ 0 2=some [.int .i64 0,.int .i64 (-1)]:=F4.aB;have E4:=E2.below c4 (by omega);have qW:=hB.below lK hB.lt;have d6:w4.cell? ⟨b,0,none⟩=some (.int .i64 4):=qW.cell rfl;have d7:w4.cell? ⟨b,5,none⟩=some (.pointer (some ⟨b2,0,none⟩)):=qW.cell rfl;push_cast -dsimp;refine aD ?_;push_cast -dsimp[f4,g4];refine aD ?_;push_cast -dsimp[d6];refine aD ?_;push_cast -dsimp[d7];have hmT:gH (λb=>X b\/w.heap.size<=b) w mb nm:=by
     obtain⟨gD,p,q⟩:=hm;exact⟨gD,p,q.imp λa b h=>⟨h.1,Sl.top (by decide) h.2.1,h.2.2⟩⟩
    refine aA (TS uN nm hr _ _ mb w4 (hg.below lK) (h2.top.below lK) (hmT.below lK)) ?_;rintro r5 w5 ⟨xY,c5⟩;have z5:=c5.size;have pL:=lK.trans (c5.mono (by omega));have E5:=E4.below c5 (by omega);have F5:=F4.below c5 (by omega);unfold gu at xY;cases iY:ay nm r with
    | error e =>
     rw[iY]at xY;have xY:r5=_:=xY;subst xY;push_cast -dsimp;refine aF (xt:=28) (n:=2) (by kernel_rfl) F5 rfl (by decide) (by simp;exact⟨rfl,rfl⟩) ?_;intro w6 cB;have F6:aO w6 w2.heap.size 28 [.int .i64 7,.int .i64 e]:=cB.aN;have z6:=cB.size;have tx:=pL.trans (cB.kept.below (B:=w.heap.size) (by omega) (λi h=>by omega));have E6:=E5.kept cB.kept (by omega);have f6:aB w6 ⟨w2.heap.size,0,none⟩ 0 2=some [.int .i64 7,.int .i64 e]:=F6.aB;have g6:=aL (hg.below tx);push_cast -dsimp;refine aD ?_;push_cast -dsimp[f6,g6];refine aX (λar=>aB ar ⟨w2.heap.size,0,none⟩ 0 2=some [.int .i64 7,.int .i64 e]) mixed (by kernel_rfl) f6 ?_;have f6d:aB w6.drew ⟨w2.heap.size,0,none⟩ 0 2=some [.int .i64 7,.int .i64 e]:=f6;push_cast -dsimp[f6d];refine⟨λar h=>by rw[h];exact rfl,?_⟩;refine aF (xt:=28) (n:=2) (by kernel_rfl) E6.drew rfl (by decide) (by simp;exact⟨rfl,rfl⟩) ?_;intro w7 dN;have E7:aO w7 w.heap.size 28 [.int .i64 7,.int .i64 e]:=dN.aN;have dE:aB w7 ⟨w.heap.size,0,none⟩ 0 2=some [.int .i64 7,.int .i64 e]:=E7.aB;have se:=(tx.trans ((aS w6).mono (by omega))).trans (dN.kept.below (B:=w.heap.size) (by have:w6.drew.heap.size=w6.heap.size:=rfl;omega) (λi h=>by omega));refine⟨(F6.drew.kept dN.kept (by omega)).aB,?_⟩;push_cast -dsimp[dE];refine⟨?_,se⟩;unfold gu;rw[show ay nm (.bin 4 pos k r)=.error e from by rw[ay,hk];dsimp only;rw[iY]]
    | ok t =>
     rw[iY]at xY;obtain⟨v2,rfl,iP,Pn⟩:=xY;have uO:=cA (k:=r) hr uN iY;have NM:=dt uO;have TJ:=iP.shape;obtain⟨_,_,rfl,_⟩:=TJ;push_cast -dsimp;refine aF (xt:=28) (n:=2) (by kernel_rfl) F5 rfl (by decide) (by simp;exact⟨rfl,rfl⟩) ?_;intro w6 cB;have F6:aO w6 w2.heap.size 28 [.int .i64 0,.int .i64 (-1)]:=cB.aN;have z6:=cB.size;have tx:=pL.trans (cB.kept.below (B:=w.heap.size) (by omega) (λi h=>by omega));have c26:=(c4.trans (c5.mono (by omega))).trans (cB.kept.below (B:=w2.heap.size) (by omega) (λi h=>by omega));have E6:=E5.kept cB.kept (by omega);have f6:aB w6 ⟨w2.heap.size,0,none⟩ 0 2=some [.int .i64 0,.int .i64 (-1)]:=F6.aB;have g6:=aL (hg.below tx);have Cs:=hB.below tx hB.lt;have d8:w6.cell? ⟨b,0,none⟩=some (.int .i64 4):=Cs.cell rfl;have TH:=((eY.below c26).below (aS w6)).weaken (X':=λ_=>False) (λ_ h=>h.elim);have TI:=((iP.kept cB.kept (λi h=>⟨.inr (by omega),by omega⟩)).below (aS w6)).weaken (X':=λ_=>False) (λ_ h=>h.elim);push_cast -dsimp;refine aD ?_;push_cast -dsimp[f6,g6,d8];have zd:w6.drew.heap.size=w6.heap.size:=rfl;have Zb:aB w6.drew ⟨0,0,none⟩ 0 2=some [.int .i64 0,.int .i64 (-1)]:=g6;refine aX (λar=>aB ar ⟨0,0,none⟩ 0 2=some [.int .i64 0,.int .i64 (-1)]) mixed (by kernel_rfl) Zb ?_;push_cast -dsimp[Zb];refine aA (aC3 s t (by omega) (by omega) fO uO _ _ _ _ TH TI) ?_;rintro v7 w7 ⟨pF,c7⟩;have z7:=c7.size;have RX:=tx.trans ((aS w6).mono (by omega));have se:=RX.trans (c7.mono (by omega));have g7:=aL (hg.below se);have E7:=E6.drew.below c7 (by omega)
     have ha7:Arg v7:=pF.dH;have rL:=pF.slice;obtain⟨_,_,rfl⟩:=rL;refine⟨g7,?_⟩;push_cast -dsimp[g7];refine⟨λar h=>by rw[h];exact rfl,?_⟩;refine aF (xt:=28) (n:=2) (by kernel_rfl) E7 rfl (by decide) (by simp;exact⟨rfl,rfl⟩) ?_;intro w8 n9;have E8:aO w8 w.heap.size 28 [.int .i64 0,.int .i64 (-1)]:=n9.aN;have dE:aB w8 ⟨w.heap.size,0,none⟩ 0 2=some [.int .i64 0,.int .i64 (-1)]:=E8.aB;have Z7:=se.trans (n9.kept.below (B:=w.heap.size) (by omega) (λi h=>by omega));refine⟨aL (hg.below Z7),?_⟩;push_cast -dsimp[dE];refine⟨?_,Z7⟩;unfold gu;rw[show ay nm (.bin 4 pos k r)=.ok (nF s t) from by rw[ay,hk];dsimp only;rw[iY];rfl]
     exact⟨_,rfl,(pF.ak n9.kept (λg vh h=>by have:=(pF.block g vh).1;omega)).sl.weaken (λb hh=>by have:=hh.2;omega),ha7⟩
  case inr.inr =>
   have bZ:=hB.lt
   (refine cM Tryz.func35 rfl (by kernel_rfl) [.tmp 4,.cell 5 28] rfl ?_;push_cast -dsimp(maxSteps:=4000000) [Tryz.ntmps35]);refine aD ?_;push_cast -dsimp;refine aR (z:=[.int .i64 0,.int .i64 0]) (by kernel_rfl) ?_;intro w1 au;have E1:aO w1 w.heap.size 28 [.int .i64 0,.int .i64 0]:=au.aN;have z1:=au.size;have c1:=au.below;have iK:=hB.below c1 hB.lt;have d0:w1.cell? ⟨b,0,none⟩=some (.int .i64 5):=iK.cell rfl;have d4:w1.cell? ⟨b,4,none⟩=some (.pointer (some ⟨b1,0,none⟩)):=iK.cell rfl;push_cast -dsimp;refine aD ?_;push_cast -dsimp[d0];refine aD ?_;push_cast -dsimp[d4];refine aA (ih rk nm hr X _ mb w1 (hg.below c1) (h1.below c1) (hm.below c1)) ?_;rintro r0 w2 ⟨hR,c2⟩;have z2:=c2.size;have RW:=c1.trans (c2.mono (by omega));have E2:=E1.below c2 (by omega);unfold gu at hR;cases hk:ay nm k with
   | error e =>
    rw[hk]at hR;have hR:r0=_:=hR;subst hR;push_cast -dsimp;refine aR (z:=[.int .i64 0,.int .i64 0]) (by kernel_rfl) ?_;intro w3 bO;have z3:=bO.size;push_cast -dsimp;refine aF (xt:=28) (n:=2) (by kernel_rfl) bO.aN rfl (by decide) (by simp;exact⟨rfl,rfl⟩) ?_;intro w4 aj;have F4:aO w4 w2.heap.size 28 [.int .i64 7,.int .i64 e]:=aj.aN;have z4:=aj.size;have c4:Below w2.heap.size w2 w4:=bO.below.trans (aj.kept.below (B:=w2.heap.size) (by omega) (λi h=>by omega));have lK:=RW.trans (c4.mono (by omega));have g4:=aL (hg.below lK);have f4:aB w4 ⟨w2.heap.size,0,none⟩ 0 2=some [.int .i64 7,.int .i64 e]:=F4.aB;have E4:=E2.below c4 (by omega);push_cast -dsimp;refine aD ?_;push_cast -dsimp[f4,g4];refine aX (λar=>aB ar ⟨w2.heap.size,0,none⟩ 0 2=some [.int .i64 7,.int .i64 e]) mixed (by kernel_rfl) f4 ?_;have f4d:aB w4.drew ⟨w2.heap.size,0,none⟩ 0 2=some [.int .i64 7,.int .i64 e]:=f4;push_cast -dsimp[f4d];refine⟨λar h=>by rw[h];exact rfl,?_⟩;refine aF (xt:=28) (n:=2) (by kernel_rfl) E4.drew rfl (by decide) (by simp;exact⟨rfl,rfl⟩) ?_;intro w5 bW;have E5:aO w5 w.heap.size 28 [.int .i64 7,.int .i64 e]:=bW.aN;have dE:aB w5 ⟨w.heap.size,0,none⟩ 0 2=some [.int .i64 7,.int .i64 e]:=E5.aB;have pL:=(lK.trans ((aS w4).mono (by omega))).trans (bW.kept.below (B:=w.heap.size) (by have:w4.drew.heap.size=w4.heap.size:=rfl;omega) (λi h=>by omega));refine⟨(F4.drew.kept bW.kept (by omega)).aB,?_⟩;push_cast -dsimp[dE];refine⟨?_,pL⟩;unfold gu;rw[show ay nm (.bin 5 pos k r)=.error e from by rw[ay,hk]]
   | ok s =>
    rw[hk]at hR;obtain⟨v1,rfl,eY,zH⟩:=hR;have fO:=cA (k:=k) hr rk hk;have hle:=dt fO;have eM:=eY.shape;obtain⟨_,_,rfl,_⟩:=eM;push_cast -dsimp;refine aR (z:=[.int .i64 0,.int .i64 0]) (by kernel_rfl) ?_;intro w3 bO;have z3:=bO.size;push_cast -dsimp;refine aF (xt:=28) (n:=2) (by kernel_rfl) bO.aN rfl (by decide) (by simp;exact⟨rfl,rfl⟩) ?_;intro w4 aj;have F4:aO w4 w2.heap.size 28 [.int .i64 0,.int .i64 (-1)]:=aj.aN;have z4:=aj.size;have c4:Below w2.heap.size w2 w4:=bO.below.trans (aj.kept.below (B:=w2.heap.size) (by omega) (λi h=>by omega));have lK:=RW.trans (c4.mono (by omega));have g4:=aL (hg.below lK);have f4:aB w4 ⟨w2.heap.size,0,none⟩ 0 2=some [.int .i64 0,.int .i64 (-1)]:=F4.aB;have E4:=E2.below c4 (by omega);have qW:=hB.below lK hB.lt;have d6:w4.cell? ⟨b,0,none⟩=some (.int .i64 5):=qW.cell rfl;have d7:w4.cell? ⟨b,5,none⟩=some (.pointer (some ⟨b2,0,none⟩)):=qW.cell rfl;push_cast -dsimp;refine aD ?_;push_cast -dsimp[f4,g4];refine aD ?_;push_cast -dsimp[d6];refine aD ?_;push_cast -dsimp[d7];have hmT:gH (λb=>X b\/w.heap.size<=b) w mb nm:=by
     obtain⟨gD,p,q⟩:=hm;exact⟨gD,p,q.imp λa b h=>⟨h.1,Sl.top (by decide) h.2.1,h.2.2⟩⟩
    refine aA (TS uN nm hr _ _ mb w4 (hg.below lK) (h2.top.below lK) (hmT.below lK)) ?_;rintro r5 w5 ⟨xY,c5⟩;have z5:=c5.size;have pL:=lK.trans (c5.mono (by omega));have E5:=E4.below c5 (by omega);have F5:=F4.below c5 (by omega);unfold gu at xY;cases iY:ay nm r with
    | error e =>
     rw[iY]at xY;have xY:r5=_:=xY;subst xY;push_cast -dsimp;refine aF (xt:=28) (n:=2) (by kernel_rfl) F5 rfl (by decide) (by simp;exact⟨rfl,rfl⟩) ?_;intro w6 cB;have F6:aO w6 w2.heap.size 28 [.int .i64 7,.int .i64 e]:=cB.aN;have z6:=cB.size;have tx:=pL.trans (cB.kept.below (B:=w.heap.size) (by omega) (λi h=>by omega));have E6:=E5.kept cB.kept (by omega);have f6:aB w6 ⟨w2.heap.size,0,none⟩ 0 2=some [.int .i64 7,.int .i64 e]:=F6.aB;have g6:=aL (hg.below tx);push_cast -dsimp;refine aD ?_;push_cast -dsimp[f6,g6];refine aX (λar=>aB ar ⟨w2.heap.size,0,none⟩ 0 2=some [.int .i64 7,.int .i64 e]) mixed (by kernel_rfl) f6 ?_;have f6d:aB w6.drew ⟨w2.heap.size,0,none⟩ 0 2=some [.int .i64 7,.int .i64 e]:=f6;push_cast -dsimp[f6d];refine⟨λar h=>by rw[h];exact rfl,?_⟩;refine aF (xt:=28) (n:=2) (by kernel_rfl) E6.drew rfl (by decide) (by simp;exact⟨rfl,rfl⟩) ?_;intro w7 dN;have E7:aO w7 w.heap.size 28 [.int .i64 7,.int .i64 e]:=dN.aN;have dE:aB w7 ⟨w.heap.size,0,none⟩ 0 2=some [.int .i64 7,.int .i64 e]:=E7.aB;have se:=(tx.trans ((aS w6).mono (by omega))).trans (dN.kept.below (B:=w.heap.size) (by have:w6.drew.heap.size=w6.heap.size:=rfl;omega) (λi h=>by omega));refine⟨(F6.drew.kept dN.kept (by omega)).aB,?_⟩;push_cast -dsimp[dE];refine⟨?_,se⟩;unfold gu;rw[show ay nm (.bin 5 pos k r)=.error e from by rw[ay,hk];dsimp only;rw[iY]]
    | ok t =>
     rw[iY]at xY;obtain⟨v2,rfl,iP,Pn⟩:=xY;have uO:=cA (k:=r) hr uN iY;have NM:=dt uO;have TJ:=iP.shape;obtain⟨_,_,rfl,_⟩:=TJ;push_cast -dsimp;refine aF (xt:=28) (n:=2) (by kernel_rfl) F5 rfl (by decide) (by simp;exact⟨rfl,rfl⟩) ?_;intro w6 cB;have F6:aO w6 w2.heap.size 28 [.int .i64 0,.int .i64 (-1)]:=cB.aN;have z6:=cB.size;have tx:=pL.trans (cB.kept.below (B:=w.heap.size) (by omega) (λi h=>by omega));have c26:=(c4.trans (c5.mono (by omega))).trans (cB.kept.below (B:=w2.heap.size) (by omega) (λi h=>by omega));have E6:=E5.kept cB.kept (by omega);have f6:aB w6 ⟨w2.heap.size,0,none⟩ 0 2=some [.int .i64 0,.int .i64 (-1)]:=F6.aB;have g6:=aL (hg.below tx);have Cs:=hB.below tx hB.lt;have d8:w6.cell? ⟨b,0,none⟩=some (.int .i64 5):=Cs.cell rfl;have TH:=((eY.below c26).below (aS w6)).weaken (X':=λ_=>False) (λ_ h=>h.elim);have TI:=((iP.kept cB.kept (λi h=>⟨.inr (by omega),by omega⟩)).below (aS w6)).weaken (X':=λ_=>False) (λ_ h=>h.elim);push_cast -dsimp;refine aD ?_;push_cast -dsimp[f6,g6,d8];have zd:w6.drew.heap.size=w6.heap.size:=rfl;have Zb:aB w6.drew ⟨0,0,none⟩ 0 2=some [.int .i64 0,.int .i64 (-1)]:=g6;refine aD ?_;push_cast -dsimp;refine aX (λar=>aB ar ⟨0,0,none⟩ 0 2=some [.int .i64 0,.int .i64 (-1)]) mixed (by kernel_rfl) Zb ?_;push_cast -dsimp[Zb];refine aA (Y6 s t (by omega) (by omega) fO uO _ _ _ _ TH TI) ?_;rintro v7 w7 ⟨pF,c7⟩;have z7:=c7.size;have RX:=tx.trans ((aS w6).mono (by omega));have se:=RX.trans (c7.mono (by omega));have g7:=aL (hg.below se)
     have E7:=E6.drew.below c7 (by omega);have ha7:Arg v7:=pF.dH;have rL:=pF.slice;obtain⟨_,_,rfl⟩:=rL;refine⟨g7,?_⟩;push_cast -dsimp[g7];refine⟨λar h=>by rw[h];exact rfl,?_⟩;refine aF (xt:=28) (n:=2) (by kernel_rfl) E7 rfl (by decide) (by simp;exact⟨rfl,rfl⟩) ?_;intro w8 n9;have E8:aO w8 w.heap.size 28 [.int .i64 0,.int .i64 (-1)]:=n9.aN;have dE:aB w8 ⟨w.heap.size,0,none⟩ 0 2=some [.int .i64 0,.int .i64 (-1)]:=E8.aB;have Z7:=se.trans (n9.kept.below (B:=w.heap.size) (by omega) (λi h=>by omega));refine⟨aL (hg.below Z7),?_⟩;push_cast -dsimp[dE];refine cC ?_;push_cast -dsimp[dE];refine⟨?_,Z7⟩;unfold gu;rw[show ay nm (.bin 5 pos k r)=.ok (lU s t) from by rw[ay,hk];dsimp only;rw[iY];rfl]
     exact⟨_,rfl,(pF.ak n9.kept (λg vh h=>by have:=(pF.block g vh).1;omega)).sl.weaken (λb hh=>by have:=hh.2;omega),ha7⟩
end Go.Proofs.YtodeeahdhnjpkaaGreatDoor
end
section
namespace Cae
mutual
def wd:aI->Nat
 | .one _=>0
 | .any=>0
 | .iA=>0
 | .cat l=>Nat.max l.length (ZO l)
 | .alt l=>Nat.max l.length (ZO l)
 | .many x _ _=>wd x
def ZO:List aI->Nat
 | []=>0
 | x::l=>Nat.max (wd x) (ZO l)
end
theorem Dw:∀{l:List aI} {x:aI},x∈l->wd x<=ZO l
 | y::l,x,h=>by
  rw[ZO];rcases List.mem_cons.1 h with rfl|h
  ·exact Nat.le_max_left _ _
  exact Nat.le_trans (Dw h) (Nat.le_max_right _ _)
theorem K3 {n:Nat}:∀{l:List aI},(∀x∈l,wd x<=n)->ZO l<=n
 | [],_=>Nat.zero_le _
 | y::l,h=>by
  rw[ZO];exact Nat.max_le.2 ⟨h y (List.mem_cons_self ..),K3 λx hx=>h x (List.mem_cons_of_mem _ hx)⟩
theorem qi {l:List aI}:ZO l<=wd (.cat l)/\l.length<=wd (.cat l)/\∀x∈l,wd x<=wd (.cat l):=by
 rw[wd];exact⟨Nat.le_max_right _ _,Nat.le_max_left _ _,λx hx=>Nat.le_trans (Dw hx) (Nat.le_max_right _ _)⟩
theorem qh {l:List aI}:ZO l<=wd (.alt l)/\l.length<=wd (.alt l)/\∀x∈l,wd x<=wd (.alt l):=by
 rw[wd];exact⟨Nat.le_max_right _ _,Nat.le_max_left _ _,λx hx=>Nat.le_trans (Dw hx) (Nat.le_max_right _ _)⟩
theorem oh {x:aI}{lo hi:Int}:wd x<=wd (.many x lo hi):=by rw[wd];exact Nat.le_refl _
mutual
theorem Lq:∀x:aI,wd x<=pn x
 | .one k=>Nat.zero_le _
 | .any=>Nat.zero_le _
 | .iA=>Nat.zero_le _
 | .cat l=>by
  rw[wd];exact Nat.max_le.2 ⟨BE.2.1,K3 λx hx=>Nat.le_trans (K4 l x hx) (BE.2.2 x hx)⟩
 | .alt l=>by
  rw[wd];exact Nat.max_le.2 ⟨BD.2.1,K3 λx hx=>Nat.le_trans (K4 l x hx) (BD.2.2 x hx)⟩
 | .many x lo hi=>by
  rw[wd];exact Nat.le_trans (Lq x) Ju
theorem K4:∀(l:List aI) (x:aI),x∈l->wd x<=pn x
 | [],x,h=>by cases h
 | y::l,x,h=>by
  rcases List.mem_cons.1 h with h|h
  ·rw[h];exact Lq y
  exact K4 l x h
end
end Cae
end
section
namespace Go.Proofs.YtodeeahdhnjpkaaGreatDoor
open Go.Vc Go.Proofs Go.RowKit Cae
attribute [local irreducible] cw ag aq a8 runK bD Sl Vc.Own vc aW cN ai
def sV (B:Nat)(o:Option (Int×Nat))(r:Value)(w:World):Prop:=match o with
 | none=>r=.nilIface
 | some (c,e)=>∃b,B<=b/\r=.iface 96 (.pointer (some ⟨b,0,none⟩))/\aO w b 97 [.int .i64 c,.int .i64 e]
theorem sV.mono {B B':Nat}{o:Option (Int×Nat)}{r:Value}{w:World}(h:sV B o r w)(hb:B'<=B):sV B' o r w:=by
 unfold sV at h ⊢
 cases o with
 | none=>exact h
 | some p=>obtain⟨b,h1,h2,h3⟩:=h;exact⟨b,by omega,h2,h3⟩
def mQ (nm:bP)(x:aI):Option (Int×Nat):=(im nm x).map λe=>((7:Int),e)
def vV (x:aI):Prop:=bQ x->wd x<=100000000->∀(nm:bP),fZ nm->∀(X:Nat->Prop) (v:Value) (b:Nat) (w:World),aV X w v x->gH X w b nm ->
 bD Tryz.prog 37 [v,.map (some b)] w λr w'=>sV w.heap.size (mQ nm x) r w'/\Below w.heap.size w w'
theorem Wi (k:ax):vV (.one k):=by
 intro cD jS nm hr X v mb w hV hm;simp only[aV]at hV;obtain⟨b,u,rfl,hb,hB,h1⟩:=hV;obtain⟨b1,rfl,de⟩:=h1.ptr;have d0:w.cell? ⟨b,0,none⟩=some (.int .i64 1):=hB.cell rfl;have d1:w.cell? ⟨b,1,none⟩=some (.pointer (some ⟨b1,0,none⟩)):=hB.cell rfl;simp only[bQ]at cD;refine aE Tryz.func37 rfl (by kernel_rfl) [4] rfl ?_;push_cast -dsimp(maxSteps:=4000000) [Tryz.ntmps37];push_cast -dsimp[d0,d1];refine aA (CD k cD nm hr X _ mb w h1 hm) ?_;rintro r w1 ⟨hR,jd⟩;unfold dU at hR;cases hk:ay nm k with
 | ok s =>
  rw[hk]at hR;obtain⟨v1,rfl,eY,zH⟩:=hR;push_cast -dsimp;refine⟨?_,jd⟩;unfold mQ;rw[im,hk];rfl
 | error e =>
  rw[hk]at hR;obtain⟨eb,zI,rfl,hE⟩:=hR;push_cast -dsimp;refine⟨?_,jd⟩;unfold mQ;rw[im,hk];exact⟨eb,zI,rfl,hE⟩
theorem jt {nm:bP}:∀(a b:List aI),fq nm (a++b)=match fq nm a with
  | some e=>some e
  | none=>fq nm b
 | [],b=>by simp only[List.nil_append,fq]
 | x::a,b=>by
  simp only[List.cons_append,fq];cases im nm x with
  | some e=>rfl
  | none=>exact jt a b
theorem nP (code lo hi:Int)(hc:code≠1)(l:List aI)(hl:∀x∈l,vV x)(cD:∀x∈l,bQ x/\wd x<=100000000)(hlen:l.length<=100000000)(nm:bP)(hr:fZ nm)(X:Nat->Prop)(b mb:Nat)(pv sv:Value)(vs:List Nat)(w:World)
  (hB:aO w b 129 [.int .i64 code,pv,sv,.int .i64 lo,.int .i64 hi]) (hs:Sl X 1 (En gg) w sv vs) (hV:aU X w vs l) (hm:gH X w mb nm) :
  bD Tryz.prog 37 [.pointer (some ⟨b,0,none⟩),.map (some mb)] w λr w'=>sV w.heap.size ((fq nm l).map λe=>((7:Int),e)) r w'/\Below w.heap.size w w':=by
 have hvl:=hV.len;obtain⟨sa,sc,rfl,WA⟩:=hs.shape;have d0:w.cell? ⟨b,0,none⟩=some (.int .i64 code):=hB.cell rfl;have d2:w.cell? ⟨b,2,none⟩=some (.slice sa vs.length sc):=hB.cell rfl;refine aE Tryz.func37 rfl (by kernel_rfl) [4] rfl ?_;push_cast -dsimp(maxSteps:=4000000) [Tryz.ntmps37];push_cast -dsimp[d0,d2];refine⟨λh=>absurd h hc,λ_=>?_⟩;refine aM [4,8,9,30,31,32,33,34,35,36,37,38,39,40] (λz wx=>∃(i:Nat),z 30=.int .i64 i/\i<=l.length/\fq nm (l.take i)=none/\Below w.heap.size w wx) (λz _=>l.length-(intOf (z 30)).toNat) ?_ ?_
 ·exact⟨0,rfl,Nat.zero_le _,by simp[fq],Below.refl _ _⟩
 intro z wx hI;obtain⟨i,h30,hi,gC,bC⟩:=hI;have zx:=bC.size;push_cast -dsimp[h30];refine⟨λbZ=>?_,λgh=>?_⟩
 ·obtain⟨x,hx,lO,_,ht⟩:=bK (l:=l) (i:=i) (by omega);obtain⟨u,hu,My⟩:=aU.nth hV hx;obtain⟨b1,o,rfl,zJ,aP⟩:=(hs.below bC).get hu;have c0:wx.cell? ⟨b1,o+i,none⟩=some (.pointer (some ⟨u,0,none⟩)):=by simpa[gg,bF] using aP 0 _ rfl
  push_cast -dsimp[c0,Nat.mul_one];refine⟨⟨by omega,by omega⟩,?_⟩;refine aA (hl x lO (cD x lO).1 (cD x lO).2 nm hr X _ mb wx (aV.below My bC) (hm.below bC)) ?_;rintro r wy ⟨hE,cp⟩;have gz:=bC.trans (cp.mono zx);unfold mQ at hE;cases hp:im nm x with
  | none =>
   rw[hp]at hE;have hE:r=.nilIface:=hE;subst hE;push_cast -dsimp;refine⟨⟨by omega,by omega⟩,⟨i+1,rfl,by omega,?_,gz⟩,by rw[h30];simp only[intOf];omega⟩;rw[ht,jt,gC];simp only[fq,hp]
  | some e =>
   rw[hp]at hE;obtain⟨eb,zI,rfl,Zh⟩:=hE;push_cast -dsimp;refine⟨?_,gz⟩;have cg:fq nm l=some e:=by
    have qv:l=l.take (i+1)++l.drop (i+1):=(List.take_append_drop _ _).symm;rw[qv,jt,ht,jt,gC];simp only[fq,hp]
   rw[cg];exact⟨eb,by omega,rfl,Zh⟩
 rw[List.take_of_length_le (by omega)]at gC;refine⟨?_,bC⟩;rw[gC];rfl
theorem Wg:vV .any:=by
 intro cD jS nm hr X v mb w hV hm;simp only[aV]at hV;obtain⟨b,rfl,hb,hB⟩:=hV;exact(nP 2 0 0 (by decide) [] (λx h=>by cases h) (λx h=>by cases h) (by simp) nm hr X b mb _ _ [] w hB (Sl.nil _ _ _ _ _ _) (by simp only[aU]) hm).mono λr w' ⟨h1,h2⟩=>⟨by simpa[mQ,im,fq] using h1,h2⟩
theorem Qz:vV .iA:=by
 intro cD jS nm hr X v mb w hV hm;simp only[aV]at hV;obtain⟨b,rfl,hb,hB⟩:=hV;exact(nP 3 0 0 (by decide) [] (λx h=>by cases h) (λx h=>by cases h) (by simp) nm hr X b mb _ _ [] w hB (Sl.nil _ _ _ _ _ _) (by simp only[aU]) hm).mono λr w' ⟨h1,h2⟩=>⟨by simpa[mQ,im,fq] using h1,h2⟩
theorem Wh (l:List aI)(hl:∀x∈l,vV x):vV (.cat l):=by
 intro cD jS nm hr X v mb w hV hm;simp only[aV]at hV;obtain⟨b,sv,vs,rfl,hb,hB,hs,hV⟩:=hV;have nC:=qi (l:=l);simp only[bQ]at cD;exact(nP 4 0 0 (by decide) l hl (λx h=>⟨fk cD h,by have:=nC.2.2 x h;omega⟩) (by have:=nC.2.1;omega) nm hr X b mb _ sv vs w hB hs hV hm).mono λr w' ⟨h1,h2⟩=>⟨by simpa[mQ,im] using h1,h2⟩
theorem Wf (l:List aI)(hl:∀x∈l,vV x):vV (.alt l):=by
 intro cD jS nm hr X v mb w hV hm;simp only[aV]at hV;obtain⟨b,sv,vs,rfl,hb,hB,hs,hV⟩:=hV;have nC:=qh (l:=l);simp only[bQ]at cD;exact(nP 5 0 0 (by decide) l hl (λx h=>⟨fk cD h,by have:=nC.2.2 x h;omega⟩) (by have:=nC.2.1;omega) nm hr X b mb _ sv vs w hB hs hV hm).mono λr w' ⟨h1,h2⟩=>⟨by simpa[mQ,im] using h1,h2⟩
theorem RA (x:aI)(lo hi:Int)(hx:vV x):vV (.many x lo hi):=by
 intro cD jS nm hr X v mb w hV hm;simp only[aV]at hV;obtain⟨b,sv,u,rfl,hb,hB,hs,hV⟩:=hV;have hpm:=oh (x:=x) (lo:=lo) (hi:=hi);simp only[bQ]at cD;refine(nP 6 lo hi (by decide) [x] (λy h=>by rw[List.mem_singleton]at h;rw[h];exact hx) (λy h=>by rw[List.mem_singleton]at h;rw[h];exact⟨cD.1,by omega⟩) (by simp) nm hr X b mb _ sv [u] w hB hs (by simp only[aU];exact⟨hV,trivial⟩) hm).mono λr w' ⟨h1,h2⟩=>⟨?_,h2⟩;have e:fq nm [x]=im nm x:=by
  simp only[fq];cases im nm x<;>rfl
 rw[e]at h1;simpa[mQ,im] using h1
mutual
theorem Kl:∀x,vV x
 | .one k=>Wi k
 | .any=>Wg
 | .iA=>Qz
 | .cat l=>Wh l (Ia l)
 | .alt l=>Wf l (Ia l)
 | .many x lo hi=>RA x lo hi (Kl x)
theorem Ia:∀(l:List aI) (x:aI),x∈l->vV x
 | [],x,h=>by cases h
 | y::l,x,h=>by
  have hy:=Kl y;rcases List.mem_cons.1 h with h|h
  ·rw[h];exact hy
  exact Ia l x h
end
def CL (p:Nat×Nat):Int×Nat:=(if p.1=5 then 9 else 7,p.2)
def nI (X:Nat->Prop)(B:Nat)(f:dQ)(r:Value)(w:World):Prop:=match fA [] f.bJ with
 | .ok nm=>∃mb,B<=mb/\r=.tuple #[.map (some mb),.nilIface]/\gH (λb=>X b/\b<B) w mb nm/\fZ nm
 | .error e=>∃v,r=.tuple #[.map none,v]/\sV B (some (CL e)) v w
theorem vF {nm:bP}{n:List UInt8}{s:List Rg}(h:fZ nm)(hs:aH (-2) s=true):fZ (nm++[(n,s)]):=λx hx=>by
 rw[List.mem_append,List.mem_singleton]at hx;rcases hx with hx|rfl
 ·exact h x hx
 exact hs
theorem jo {nm:bP}{c:eD}{l:List eD}:fA nm (c::l)=if (rG c.name nm).isSome then .error (5,c.pos) else match ay nm c.kind with
  | .error e=>.error (6,e)
  | .ok s=>fA (nm++[(c.name,s)]) l:=by
 first|(rw[fA];done)|(rw[fA];rfl)
theorem jV {α β:Type}{R:α->β->Prop}{l:List α}{m:List β}(h:dd R l m){i:Nat}{y:β}(hy:m[i]?=some y):∃x,l[i]?=some x/\R x y:=by
 induction h generalizing i with
 | nil=>simp at hy
 | cons h1 _ ih =>
  cases i with
  | zero=>cases hy;exact⟨_,rfl,h1⟩
  | succ i=>exact ih (by simpa using hy)
theorem LR (f:dQ)(cD:∀c∈f.bJ,fY c.kind)(hlen:f.bJ.length<=1000000)(X:Nat->Prop)(v:Value)(w:World)(hv:gn X w v f) :
  bD Tryz.prog 9 [v] w λr w'=>nI X w.heap.size f r w'/\Below w.heap.size w w':=by
 obtain⟨cv,rv,cs,rs,rfl,je,fO,hC,hR⟩:=hv;have lC:=dd.len hC;obtain⟨ca,cc,rfl,Sb⟩:=je.shape;obtain⟨ra,rc,rfl,hrc⟩:=fO.shape;refine aE Tryz.func9 rfl (by kernel_rfl) [2,3] rfl ?_;push_cast -dsimp(maxSteps:=4000000) [Tryz.ntmps9];refine ah ?_;intro w1 au;have au:qR w w1 25 [.slice ca cs.length cc,.slice ra rs.length rc,.bool f.els]:=au;have z1:=au.size;push_cast -dsimp;refine tK (key:=λl:List UInt8=>str l) ?_;intro w2 m2 eW z2;have B2:=au.aN.below eW (by omega);have d2:w2.cell? ⟨w.heap.size,0,none⟩=some (.slice ca cs.length cc):=B2.cell rfl;have jD:=au.below.trans (eW.mono (by omega));have hN:∃Xn:Nat->Prop,Xn=(λb=>(X b/\b<w.heap.size)\/b=w1.heap.size):=⟨_,rfl⟩;obtain⟨Xn,Ho⟩:=hN;push_cast -dsimp[d2];refine aM [2,3,6,7,8,9,10,15,16,17,18,19,20,21,22,23,24,25,26,27,28,29,30,31,32,33,34,35,36,37,38,39,40,41,42,43,44,45,46] (λz wx=>∃(i:Nat) (nm:bP),z 15=.int .i64 i/\i<=f.bJ.length/\fA [] f.bJ=fA nm (f.bJ.drop i)/\gH Xn wx w1.heap.size nm/\fZ nm/\Below w.heap.size w wx/\w2.heap.size<=wx.heap.size) (λz _=>f.bJ.length-(intOf (z 15)).toNat) ?_ ?_
 ·exact⟨0,[],rfl,Nat.zero_le _,rfl,⟨[],m2,.nil⟩,(λx h=>(by cases h)),jD,Nat.le_refl _⟩
 intro z wx hI;obtain⟨i,nm,Vo,hi,jR,EB,vf,bC,zx⟩:=hI;push_cast -dsimp[Vo];refine⟨λbZ=>?_,λgh=>?_⟩
 ·obtain⟨c,hc,qm,_,ht⟩:=bK (l:=f.bJ) (i:=i) (by omega);obtain⟨x,hx,hxn,wK,hxk⟩:=jV hC hc;obtain⟨xn,xp,xk⟩:=x;simp only at hxn wK hxk;subst hxn;subst wK;obtain⟨b1,o,rfl,zJ,aP⟩:=(je.below bC).get hx;have c3:aB wx ⟨b1,o+i*3,none⟩ 0 3=some [str c.name,.int .i64 c.pos,bF xk]:=bL _ 0 (λj u hu=>by simpa[uA] using aP j u hu);have xm:bF xk=.pointer (some ⟨xk,0,none⟩):=rfl;rw[xm]at c3;push_cast -dsimp[c3];refine⟨⟨by omega,by omega⟩,?_⟩;refine aR (z:=[str [],.int .i64 0,.pointer none]) (by kernel_rfl) ?_;intro wa eL;have za:=eL.size;push_cast -dsimp;refine aF (n:=3) (by kernel_rfl) eL.aN rfl (by simp) (by simp[Value.oneCell',str]) ?_;intro wb cX;have zb:=cX.size;have me:Below wx.heap.size wx wb:=eL.below.trans (cX.kept.below (by omega) (λi h=>by omega));have oI:=bC.trans (me.mono bC.size);have Cb:aO wb wx.heap.size 74 [str c.name,.int .i64 c.pos,.pointer (some ⟨xk,0,none⟩)]:=cX.aN;have e0:wb.cell? ⟨wx.heap.size,0,none⟩=some (str c.name):=Cb.cell rfl;have e1:wb.cell? ⟨wx.heap.size,1,none⟩=some (.int .i64 c.pos):=Cb.cell rfl;have e2:wb.cell? ⟨wx.heap.size,2,none⟩=some (.pointer (some ⟨xk,0,none⟩)):=Cb.cell rfl;have hNb:=EB.below me;obtain⟨gD,hM,hA⟩:=hNb;have hf:=gH.find (n:=c.name) hA;have x9:f.bJ.drop i=c::f.bJ.drop (i+1):=by rw[List.drop_eq_getElem?_toList_append,hc];rfl
  push_cast -dsimp[e0];rcases hf with ⟨f1,f2⟩|⟨s,u,f1,f2,hs,ha⟩
  ·refine lP (kt:=9) (et:=44) (z:=.slice none 0 0) (by kernel_rfl) (gL (by kernel_rfl)) (by kernel_rfl) hM rfl f2 ?_;push_cast -dsimp[e2];have EH:eC Xn wb (.pointer (some ⟨xk,0,none⟩)) c.kind:=(hxk.top.below oI).mono (Kept.refl (λ_=>False) wb) (λ_ h=>h.elim) (λb hb=>by
    rw[Ho]at hb;rcases hb with hb|hb
    ·exact .inl hb.1
    exact .inr (by omega))
   refine aA (CD c.kind (cD c qm) nm vf Xn _ w1.heap.size wb EH ⟨gD,hM,hA⟩) ?_;rintro r wd ⟨hK,um⟩;have zd:=um.size;have ND:=oI.trans (um.mono oI.size);have Cd:=Cb.below um Cb.lt;have g0:wd.cell? ⟨wx.heap.size,0,none⟩=some (str c.name):=Cd.cell rfl;unfold dU at hK;cases wG:ay nm c.kind with
   | error e =>
    rw[wG]at hK;obtain⟨eb,zI,rfl,hE⟩:=hK;push_cast -dsimp;refine⟨?_,ND⟩;unfold nI;rw[jR,x9,jo,f1,wG];exact⟨_,rfl,eb,by omega,rfl,hE⟩
   | ok s =>
    rw[wG]at hK;obtain⟨v1,rfl,eY,zH⟩:=hK;have fO:=cA (k:=c.kind) vf (cD c qm) wG;obtain⟨_,_,rfl,_⟩:=eY.shape;have hMd:=hM.below um hM.lt;push_cast -dsimp[g0];refine fU (kt:=9) (et:=44) (by kernel_rfl) (gL (by kernel_rfl)) hMd rfl f2 ?_;intro we hMe fL GN;have aBy:Below w.heap.size w we:=ND.trans (fL.below (by omega) (λi h=>by omega));push_cast -dsimp;refine⟨⟨by omega,by omega⟩,⟨i+1,nm++[(c.name,s)],rfl,by omega,?_,⟨_,hMe,?_⟩,vF vf fO,aBy,by omega⟩,by rw[Vo];simp only[intOf];omega⟩
    ·rw[jR,x9,jo,f1,wG];rfl
    refine dd.snoc (hA.imp λa b h=>⟨h.1,(h.2.1.below um).kept fL (λi hi=>by rw[Ho];exact .inr hi),h.2.2⟩) ⟨rfl,(eY.kept fL (λi hi=>?_)).weaken (λb hb=>?_),zH⟩
    ·exact⟨by rw[Ho];exact .inr hi,by omega⟩
    refine⟨hb,?_⟩;rw[Ho]at hb;rcases hb with hb|hb
    ·omega
    omega
  refine lQ (kt:=9) (et:=44) (z:=.slice none 0 0) (by kernel_rfl) (gL (by kernel_rfl)) (by kernel_rfl) hM rfl f2 ?_;obtain⟨_,_,rfl,_⟩:=hs.shape;push_cast -dsimp;have e1d:wb.drew.cell? ⟨wx.heap.size,1,none⟩=some (.int .i64 c.pos):=e1;refine aX (λw'=>w'.cell? ⟨wx.heap.size,1,none⟩=some (.int .i64 c.pos)) mixed (by kernel_rfl) e1 ?_;push_cast -dsimp[e1d];refine⟨λar h=>by rw[h];exact rfl,?_⟩;refine ah ?_;intro wd ur;have ur:qR wb.drew wd 97 [.int .i64 9,.int .i64 c.pos]:=ur;have um:Below wb.heap.size wb wd:=((Kept.refl (λ_=>False) wb).drew.below (Nat.le_refl _) (λ_ h=>h.elim)).trans ur.below;refine⟨(um.cell (by show wx.heap.size<_;omega)).trans e1,?_⟩
  push_cast -dsimp;refine⟨?_,oI.trans (um.mono oI.size)⟩;unfold nI;rw[jR,x9,jo,f1];exact⟨_,rfl,wb.heap.size,oI.size,rfl,ur.aN⟩
 refine⟨?_,bC⟩;rw[List.drop_of_length_le (by omega),fA]at jR;unfold nI;rw[jR];obtain⟨gD,hM,hA⟩:=EB;exact⟨_,by omega,rfl,⟨gD,hM,hA.imp λa b h=>⟨h.1,h.2.1.weaken (λb hb=>by rw[Ho];exact .inl hb),h.2.2⟩⟩,vf⟩
def rX (X:Nat->Prop)(B:Nat)(f:dQ)(r:Value)(w:World):Prop:=match fA [] f.bJ with
 | .ok nm=>∃mb,B<=mb/\r=.tuple #[.map (some mb),.agg #[.int .i64 0,.int .i64 (-1)]]/\gH (λb=>X b/\b<B) w mb nm/\fZ nm
 | .error e=>r=.tuple #[.map none,.agg #[.int .i64 (CL e).1,.int .i64 (CL e).2]]
theorem ye (f:dQ)(cD:∀c∈f.bJ,fY c.kind)(hlen:f.bJ.length<=1000000)(X:Nat->Prop)(v:Value)(w:World)(hg:Gr w)(hv:gn X w v f) :
  bD Tryz.prog 8 [v] w λr w'=>rX X w.heap.size f r w'/\Below w.heap.size w w':=by
 obtain⟨cv,rv,cs,rs,rfl,je,fO,hC,hR⟩:=hv;have lC:=dd.len hC;obtain⟨ca,cc,rfl,Sb⟩:=je.shape;obtain⟨ra,rc,rfl,hrc⟩:=fO.shape;refine cM Tryz.func8 rfl (by kernel_rfl) [.tmp 2,.cell 3 28] rfl ?_;push_cast -dsimp(maxSteps:=4000000) [Tryz.ntmps8];refine aD ?_;push_cast -dsimp;refine ah ?_;intro w1 au;have au:qR w w1 25 [.slice ca cs.length cc,.slice ra rs.length rc,.bool f.els]:=au;have z1:=au.size;push_cast -dsimp;refine aR (z:=[.int .i64 0,.int .i64 0]) (by kernel_rfl) ?_;intro wq oy;have zq:=oy.size;have Eq:aO wq w1.heap.size 28 [.int .i64 0,.int .i64 0]:=oy.aN;have vg:=au.below.trans (oy.below.mono (by omega));push_cast -dsimp;refine aD ?_;push_cast -dsimp;refine tK (key:=λl:List UInt8=>str l) ?_;intro w2 m2 eW z2;have B2:=(au.aN.below oy.below (by omega)).below eW (by omega);have E2:=Eq.below eW (by omega);have d2:w2.cell? ⟨w.heap.size,0,none⟩=some (.slice ca cs.length cc):=B2.cell rfl;have jD:=vg.trans (eW.mono (by omega));have hN:∃Xn:Nat->Prop,Xn=(λb=>(X b/\b<w.heap.size)\/b=w1.heap.size\/b=wq.heap.size):=⟨_,rfl⟩;obtain⟨Xn,Ho⟩:=hN;push_cast -dsimp;refine aD ?_;push_cast -dsimp[d2]
 refine aM [2,6,7,8,9,10,15,16,17,18,19,20,21,22,23,24,25,26,27,28,29,30,31,32,33,34,35,36,37,38,39,40,41,42,43,44,45] (λz wx=>∃(i:Nat) (nm:bP),z 15=.int .i64 i/\i<=f.bJ.length/\fA [] f.bJ=fA nm (f.bJ.drop i)/\gH Xn wx wq.heap.size nm/\fZ nm/\Below w.heap.size w wx/\w2.heap.size<=wx.heap.size/\aO wx w1.heap.size 28 [.int .i64 0,.int .i64 0]) (λz _=>f.bJ.length-(intOf (z 15)).toNat) ?_ ?_
 ·exact⟨0,[],rfl,Nat.zero_le _,rfl,⟨[],m2,.nil⟩,(λx h=>(by cases h)),jD,Nat.le_refl _,E2⟩
 intro z wx hI;obtain⟨i,nm,Vo,hi,jR,EB,vf,bC,zx,Ex⟩:=hI;push_cast -dsimp[Vo];refine⟨λbZ=>?_,λgh=>?_⟩
 ·obtain⟨c,hc,qm,_,ht⟩:=bK (l:=f.bJ) (i:=i) (by omega);obtain⟨x,hx,hxn,wK,hxk⟩:=jV hC hc;obtain⟨xn,xp,xk⟩:=x;simp only at hxn wK hxk;subst hxn;subst wK;obtain⟨b1,o,rfl,zJ,aP⟩:=(je.below bC).get hx;have c3:aB wx ⟨b1,o+i*3,none⟩ 0 3=some [str c.name,.int .i64 c.pos,bF xk]:=bL _ 0 (λj u hu=>by simpa[uA] using aP j u hu);have xm:bF xk=.pointer (some ⟨xk,0,none⟩):=rfl;rw[xm]at c3;push_cast -dsimp[c3];refine⟨⟨by omega,by omega⟩,?_⟩;refine aR (z:=[str [],.int .i64 0,.pointer none]) (by kernel_rfl) ?_;intro wa eL;have za:=eL.size;push_cast -dsimp;refine aF (n:=3) (by kernel_rfl) eL.aN rfl (by simp) (by simp[Value.oneCell',str]) ?_;intro wb cX;have zb:=cX.size;have me:Below wx.heap.size wx wb:=eL.below.trans (cX.kept.below (by omega) (λi h=>by omega));have oI:=bC.trans (me.mono bC.size);have Eb:=Ex.below me Ex.lt;have Cb:aO wb wx.heap.size 74 [str c.name,.int .i64 c.pos,.pointer (some ⟨xk,0,none⟩)]:=cX.aN;have e0:wb.cell? ⟨wx.heap.size,0,none⟩=some (str c.name):=Cb.cell rfl;have e1:wb.cell? ⟨wx.heap.size,1,none⟩=some (.int .i64 c.pos):=Cb.cell rfl;have e2:wb.cell? ⟨wx.heap.size,2,none⟩=some (.pointer (some ⟨xk,0,none⟩)):=Cb.cell rfl;have hNb:=EB.below me;obtain⟨gD,hM,hA⟩:=hNb;have hf:=gH.find (n:=c.name) hA;have x9:f.bJ.drop i=c::f.bJ.drop (i+1):=by rw[List.drop_eq_getElem?_toList_append,hc];rfl
  push_cast -dsimp[e0];rcases hf with ⟨f1,f2⟩|⟨s,u,f1,f2,hs,ha⟩
  ·refine lP (kt:=9) (et:=44) (z:=.slice none 0 0) (by kernel_rfl) (gL (by kernel_rfl)) (by kernel_rfl) hM rfl f2 ?_;push_cast -dsimp[e2];have EH:eC Xn wb (.pointer (some ⟨xk,0,none⟩)) c.kind:=(hxk.top.below oI).mono (Kept.refl (λ_=>False) wb) (λ_ h=>h.elim) (λb hb=>by
    rw[Ho]at hb;rcases hb with hb|hb|hb
    ·exact .inl hb.1
    ·exact .inr (by omega)
    exact .inr (by omega))
   refine aA (D9 c.kind (cD c qm) nm vf Xn _ wq.heap.size wb (hg.below oI) EH ⟨gD,hM,hA⟩) ?_;rintro r wd ⟨hK,um⟩;have zd:=um.size;have ND:=oI.trans (um.mono oI.size);have zwd:=ND.size;have Ed:=Eb.below um (by omega);have Cd:=Cb.below um Cb.lt;unfold gu at hK;cases wG:ay nm c.kind with
   | error e =>
    rw[wG]at hK;have hK:r=_:=hK;subst hK;push_cast -dsimp;refine aR (z:=[.int .i64 0,.int .i64 0]) (by kernel_rfl) ?_;intro we lN;have ze:=lN.size;push_cast -dsimp;refine aF (xt:=28) (n:=2) (by kernel_rfl) lN.aN rfl (by decide) (by simp;exact⟨rfl,rfl⟩) ?_;intro wf DG;have Ff:aO wf wd.heap.size 28 [.int .i64 7,.int .i64 e]:=DG.aN;have zf:=DG.size;have XS:Below wd.heap.size wd wf:=lN.below.trans (DG.kept.below (B:=wd.heap.size) (by omega) (λi h=>by omega));have cwf:=ND.trans (XS.mono (by omega));have gf:=aL (hg.below cwf);have ff:aB wf ⟨wd.heap.size,0,none⟩ 0 2=some [.int .i64 7,.int .i64 e]:=Ff.aB;have Ef:=Ed.below XS (by omega);have ffd:aB wf.drew ⟨wd.heap.size,0,none⟩ 0 2=some [.int .i64 7,.int .i64 e]:=ff;push_cast -dsimp[ff,gf];refine aX (λar=>aB ar ⟨wd.heap.size,0,none⟩ 0 2=some [.int .i64 7,.int .i64 e]) mixed (by kernel_rfl) ff ?_;push_cast -dsimp[ffd];refine⟨λar h=>by rw[h];exact rfl,?_⟩;refine aF (xt:=28) (n:=2) (by kernel_rfl) Ef.drew rfl (by decide) (by simp;exact⟨rfl,rfl⟩) ?_;intro w7 dN;have E7:aO w7 w1.heap.size 28 [.int .i64 7,.int .i64 e]:=dN.aN;have dE:aB w7 ⟨w1.heap.size,0,none⟩ 0 2=some [.int .i64 7,.int .i64 e]:=E7.aB;have k7:Kept (λi=>i=w1.heap.size) wf w7:=(Kept.refl (λi=>i=w1.heap.size) wf).drew.trans dN.kept (λi _ h=>h);have se:=cwf.trans (k7.below (B:=w.heap.size) cwf.size (λi h=>by omega));refine⟨(Ff.kept k7 (by omega)).aB,?_⟩;push_cast -dsimp[dE];refine⟨?_,se⟩;unfold rX;rw[jR,x9,jo,f1,wG];rfl
   | ok s =>
    rw[wG]at hK;obtain⟨v1,rfl,eY,zH⟩:=hK;have fO:=cA (k:=c.kind) vf (cD c qm) wG;have aLk:=eY.shape;obtain⟨_,_,rfl,_⟩:=aLk;push_cast -dsimp;refine aR (z:=[.int .i64 0,.int .i64 0]) (by kernel_rfl) ?_;intro we lN;have ze:=lN.size;push_cast -dsimp;refine aF (xt:=28) (n:=2) (by kernel_rfl) lN.aN rfl (by decide) (by simp;exact⟨rfl,rfl⟩) ?_;intro wf DG;have Ff:aO wf wd.heap.size 28 [.int .i64 0,.int .i64 (-1)]:=DG.aN;have zf:=DG.size;have XS:Below wd.heap.size wd wf:=lN.below.trans (DG.kept.below (B:=wd.heap.size) (by omega) (λi h=>by omega));have cwf:=ND.trans (XS.mono (by omega));have gf:=aL (hg.below cwf);have ff:aB wf ⟨wd.heap.size,0,none⟩ 0 2=some [.int .i64 0,.int .i64 (-1)]:=Ff.aB;have Ef:=Ed.below XS (by omega);have Cf:=Cd.below XS (by omega);have g0:wf.cell? ⟨wx.heap.size,0,none⟩=some (str c.name):=Cf.cell rfl;have hMf:=(hM.below um hM.lt).below XS (by have:=hM.lt;omega);push_cast -dsimp[ff,gf,g0];refine fU (kt:=9) (et:=44) (by kernel_rfl) (gL (by kernel_rfl)) hMf rfl f2 ?_;intro wg hMe fL GN;have aBy:Below w.heap.size w wg:=cwf.trans (fL.below (by omega) (λi h=>by omega));push_cast -dsimp;refine⟨⟨by omega,by omega⟩,⟨i+1,nm++[(c.name,s)],rfl,by omega,?_,⟨_,hMe,?_⟩,vF vf fO,aBy,by omega,Ef.kept fL (by omega)⟩,by rw[Vo];simp only[intOf];omega⟩
    ·rw[jR,x9,jo,f1,wG];rfl
    have aJ8:=um.trans (XS.mono (by omega));refine dd.snoc (hA.imp λa b h=>⟨h.1,(h.2.1.below aJ8).kept fL (λi hi=>by rw[Ho];exact .inr (.inr hi)),h.2.2⟩) ⟨rfl,((eY.below XS).kept fL (λi hi=>?_)).weaken (λb hb=>?_),zH⟩
    ·exact⟨by rw[Ho];exact .inr (.inr hi),by omega⟩
    refine⟨hb,?_⟩;rw[Ho]at hb;rcases hb with hb|hb|hb<;>omega
  refine lQ (kt:=9) (et:=44) (z:=.slice none 0 0) (by kernel_rfl) (gL (by kernel_rfl)) (by kernel_rfl) hM rfl f2 ?_;obtain⟨_,_,rfl,_⟩:=hs.shape;push_cast -dsimp;have e1d:wb.drew.cell? ⟨wx.heap.size,1,none⟩=some (.int .i64 c.pos):=e1;refine aX (λw'=>w'.cell? ⟨wx.heap.size,1,none⟩=some (.int .i64 c.pos)) mixed (by kernel_rfl) e1 ?_;push_cast -dsimp[e1d];refine⟨λar h=>by rw[h];exact rfl,?_⟩;refine aF (xt:=28) (n:=2) (by kernel_rfl) Eb.drew rfl (by decide) (by simp;exact⟨rfl,rfl⟩) ?_;intro w7 dN;have E7:aO w7 w1.heap.size 28 [.int .i64 9,.int .i64 c.pos]:=dN.aN;have dE:aB w7 ⟨w1.heap.size,0,none⟩ 0 2=some [.int .i64 9,.int .i64 c.pos]:=E7.aB;have k7:Kept (λi=>i=w1.heap.size) wb w7:=(Kept.refl (λi=>i=w1.heap.size) wb).drew.trans dN.kept (λi _ h=>h);have se:=oI.trans (k7.below (B:=w.heap.size) oI.size (λi h=>by omega));refine⟨(Cb.kept k7 (by omega)).cell rfl,?_⟩;push_cast -dsimp[dE];refine⟨?_,se⟩;unfold rX;rw[jR,x9,jo,f1];rfl
 have gx:=aL (hg.below bC);have Ze:aB wx.drew ⟨0,0,none⟩ 0 2=some [.int .i64 0,.int .i64 (-1)]:=gx;refine aD ?_;push_cast -dsimp;refine aX (λar=>aB ar ⟨0,0,none⟩ 0 2=some [.int .i64 0,.int .i64 (-1)]) mixed (by kernel_rfl) Ze ?_;push_cast -dsimp[Ze];refine⟨λar h=>by rw[h];exact rfl,?_⟩;refine aF (xt:=28) (n:=2) (by kernel_rfl) Ex.drew rfl (by decide) (by simp;exact⟨rfl,rfl⟩) ?_;intro w7 dN;have E7:aO w7 w1.heap.size 28 [.int .i64 0,.int .i64 (-1)]:=dN.aN;have dE:aB w7 ⟨w1.heap.size,0,none⟩ 0 2=some [.int .i64 0,.int .i64 (-1)]:=E7.aB;have k7:Kept (λi=>i=w1.heap.size) wx w7:=(Kept.refl (λi=>i=w1.heap.size) wx).drew.trans dN.kept (λi _ h=>h);have se:=bC.trans (k7.below (B:=w.heap.size) bC.size (λi h=>by omega));refine⟨aL (hg.below se),?_⟩;push_cast -dsimp[dE];refine cC ?_;push_cast -dsimp[dE];refine⟨?_,se⟩;rw[List.drop_of_length_le (by omega),fA]at jR;unfold rX;rw[jR];obtain⟨gD,hM,hA⟩:=EB;exact⟨_,by omega,rfl,⟨gD,hM.kept k7 (by omega),hA.imp λa b h=>⟨h.1,(h.2.1.kept k7 (λi h=>by rw[Ho];exact .inr (.inl h))).weaken (λb hb=>by rw[Ho];exact .inl hb),h.2.2⟩⟩,vf⟩
def MA (o:Option (Int×Nat))(r:Value):Prop:=match o with
 | none=>r=.agg #[.int .i64 0,.int .i64 (-1)]
 | some (c,e)=>r=.agg #[.int .i64 c,.int .i64 (e:Int)]
def vX (x:aI):Prop:=bQ x->wd x<=100000000->∀(nm:bP),fZ nm->∀(X:Nat->Prop) (v:Value) (b:Nat) (w:World),Gr w->aV X w v x->gH X w b nm ->
 bD Tryz.prog 38 [v,.map (some b)] w λr w'=>MA (mQ nm x) r/\Below w.heap.size w w'
theorem Xx (k:ax):vX (.one k):=by
 intro cD jS nm hr X v mb w hg hV hm;simp only[aV]at hV;obtain⟨b,u,rfl,hb,hB,h1⟩:=hV;obtain⟨b1,rfl,de⟩:=h1.ptr;have bZ:=hB.lt;simp only[bQ]at cD;refine cM Tryz.func38 rfl (by kernel_rfl) [.cell 4 28] rfl ?_;push_cast -dsimp(maxSteps:=4000000) [Tryz.ntmps38];refine aD ?_;push_cast -dsimp;refine aR (z:=[.int .i64 0,.int .i64 0]) (by kernel_rfl) ?_;intro w1 au;have E1:aO w1 w.heap.size 28 [.int .i64 0,.int .i64 0]:=au.aN;have z1:=au.size;have c1:=au.below;have iK:=hB.below c1 hB.lt;have d0:w1.cell? ⟨b,0,none⟩=some (.int .i64 1):=iK.cell rfl;have d1:w1.cell? ⟨b,1,none⟩=some (.pointer (some ⟨b1,0,none⟩)):=iK.cell rfl;push_cast -dsimp;refine aD ?_;push_cast -dsimp[d0,d1];refine aA (D9 k cD nm hr X _ mb w1 (hg.below c1) (h1.below c1) (hm.below c1)) ?_;rintro r w2 ⟨hR,c2⟩;unfold gu at hR;cases hk:ay nm k with
 | ok s =>
  rw[hk]at hR;obtain⟨v1,rfl,eY,zH⟩:=hR;push_cast -dsimp;refine aR (z:=[.int .i64 0,.int .i64 0]) (by kernel_rfl) ?_;intro w3 bO;have z3:=bO.size;have z2:=c2.size;push_cast -dsimp;refine aF (xt:=28) (n:=2) (by kernel_rfl) bO.aN rfl (by decide) (by simp;exact⟨rfl,rfl⟩) ?_;intro w4 aj;have F4:aO w4 w2.heap.size 28 [.int .i64 0,.int .i64 (-1)]:=aj.aN;have z4:=aj.size;have c4:Below w2.heap.size w2 w4:=bO.below.trans (aj.kept.below (B:=w2.heap.size) (by omega) (λi h=>by omega));have E4:=(E1.below c2 (by omega)).below c4 (by omega);have lK:=(c1.trans (c2.mono (by omega))).trans (c4.mono (by omega));have f4:aB w4 ⟨w2.heap.size,0,none⟩ 0 2=some [.int .i64 0,.int .i64 (-1)]:=F4.aB;push_cast -dsimp[f4];refine aF (xt:=28) (n:=2) (by kernel_rfl) E4 rfl (by decide) (by simp;exact⟨rfl,rfl⟩) ?_;intro w5 bW;have E5:aO w5 w.heap.size 28 [.int .i64 0,.int .i64 (-1)]:=bW.aN;have dE:aB w5 ⟨w.heap.size,0,none⟩ 0 2=some [.int .i64 0,.int .i64 (-1)]:=E5.aB;have pL:=lK.trans (bW.kept.below (B:=w.heap.size) lK.size (λi h=>by omega));push_cast -dsimp[dE];refine⟨?_,pL⟩;unfold mQ;rw[im,hk];rfl
 | error e =>
  rw[hk]at hR;have hR:r=_:=hR;subst hR;push_cast -dsimp;refine aR (z:=[.int .i64 0,.int .i64 0]) (by kernel_rfl) ?_;intro w3 bO;have z3:=bO.size;have z2:=c2.size;push_cast -dsimp;refine aF (xt:=28) (n:=2) (by kernel_rfl) bO.aN rfl (by decide) (by simp;exact⟨rfl,rfl⟩) ?_;intro w4 aj;have F4:aO w4 w2.heap.size 28 [.int .i64 7,.int .i64 e]:=aj.aN;have z4:=aj.size;have c4:Below w2.heap.size w2 w4:=bO.below.trans (aj.kept.below (B:=w2.heap.size) (by omega) (λi h=>by omega));have E4:=(E1.below c2 (by omega)).below c4 (by omega);have lK:=(c1.trans (c2.mono (by omega))).trans (c4.mono (by omega));have f4:aB w4 ⟨w2.heap.size,0,none⟩ 0 2=some [.int .i64 7,.int .i64 e]:=F4.aB;push_cast -dsimp[f4];refine aF (xt:=28) (n:=2) (by kernel_rfl) E4 rfl (by decide) (by simp;exact⟨rfl,rfl⟩) ?_;intro w5 bW;have E5:aO w5 w.heap.size 28 [.int .i64 7,.int .i64 e]:=bW.aN;have dE:aB w5 ⟨w.heap.size,0,none⟩ 0 2=some [.int .i64 7,.int .i64 e]:=E5.aB;have pL:=lK.trans (bW.kept.below (B:=w.heap.size) lK.size (λi h=>by omega));push_cast -dsimp[dE];refine⟨?_,pL⟩;unfold mQ;rw[im,hk];rfl
theorem nf (code lo hi:Int)(hc:code≠1)(l:List aI)(hl:∀x∈l,vX x)(cD:∀x∈l,bQ x/\wd x<=100000000)(hlen:l.length<=100000000)(nm:bP)(hr:fZ nm)(X:Nat->Prop)(b mb:Nat)(pv sv:Value)(vs:List Nat)(w:World)(hg:Gr w)
  (hB:aO w b 129 [.int .i64 code,pv,sv,.int .i64 lo,.int .i64 hi]) (hs:Sl X 1 (En gg) w sv vs) (hV:aU X w vs l) (hm:gH X w mb nm) :
  bD Tryz.prog 38 [.pointer (some ⟨b,0,none⟩),.map (some mb)] w λr w'=>MA ((fq nm l).map λe=>((7:Int),e)) r/\Below w.heap.size w w':=by
 have hvl:=hV.len;obtain⟨sa,sc,rfl,WA⟩:=hs.shape;have bZ:=hB.lt;refine cM Tryz.func38 rfl (by kernel_rfl) [.cell 4 28] rfl ?_;push_cast -dsimp(maxSteps:=4000000) [Tryz.ntmps38];refine aD ?_;push_cast -dsimp;refine aR (z:=[.int .i64 0,.int .i64 0]) (by kernel_rfl) ?_;intro w1 au;have E1:aO w1 w.heap.size 28 [.int .i64 0,.int .i64 0]:=au.aN;have z1:=au.size;have c1:=au.below;have iK:=hB.below c1 hB.lt;have d0:w1.cell? ⟨b,0,none⟩=some (.int .i64 code):=iK.cell rfl;have d2:w1.cell? ⟨b,2,none⟩=some (.slice sa vs.length sc):=iK.cell rfl;push_cast -dsimp;refine aD ?_;push_cast -dsimp[d0,d2];refine⟨λh=>absurd h hc,λ_=>?_⟩;refine aD ?_;push_cast -dsimp[d2];refine aM [8,9,30,31,32,33,34,35,36,37,38,39,40,41] (λz wx=>∃(i:Nat),z 30=.int .i64 i/\i<=l.length/\fq nm (l.take i)=none/\Below w.heap.size w wx/\w1.heap.size<=wx.heap.size/\aO wx w.heap.size 28 [.int .i64 0,.int .i64 0]) (λz _=>l.length-(intOf (z 30)).toNat) ?_ ?_
 ·exact⟨0,rfl,Nat.zero_le _,by simp[fq],c1,Nat.le_refl _,E1⟩
 intro z wx hI;obtain⟨i,h30,hi,gC,bC,zx,Ex⟩:=hI;push_cast -dsimp[h30];refine⟨λbZ=>?_,λgh=>?_⟩
 ·obtain⟨x,hx,lO,_,ht⟩:=bK (l:=l) (i:=i) (by omega);obtain⟨u,hu,My⟩:=aU.nth hV hx;obtain⟨b1,o,rfl,zJ,aP⟩:=(hs.below bC).get hu;have c0:wx.cell? ⟨b1,o+i,none⟩=some (.pointer (some ⟨u,0,none⟩)):=by simpa[gg,bF] using aP 0 _ rfl
  push_cast -dsimp[c0,Nat.mul_one];refine⟨⟨by omega,by omega⟩,?_⟩;refine aA (hl x lO (cD x lO).1 (cD x lO).2 nm hr X _ mb wx (hg.below bC) (aV.below My bC) (hm.below bC)) ?_;rintro r wy ⟨hE,cp⟩;have gz:=bC.trans (cp.mono bC.size);have zy:=cp.size;unfold mQ at hE;cases hp:im nm x with
  | none =>
   rw[hp]at hE;have hE:r=_:=hE;subst hE;push_cast -dsimp;refine aR (z:=[.int .i64 0,.int .i64 0]) (by kernel_rfl) ?_;intro w3 bO;have z3:=bO.size;push_cast -dsimp;refine aF (xt:=28) (n:=2) (by kernel_rfl) bO.aN rfl (by decide) (by simp;exact⟨rfl,rfl⟩) ?_;intro w4 aj;have F4:aO w4 wy.heap.size 28 [.int .i64 0,.int .i64 (-1)]:=aj.aN;have z4:=aj.size;have c4:Below wy.heap.size wy w4:=bO.below.trans (aj.kept.below (B:=wy.heap.size) (by omega) (λi h=>by omega));have E4:=(Ex.below cp Ex.lt).below c4 (by omega);have lK:=gz.trans (c4.mono gz.size);have f4:aB w4 ⟨wy.heap.size,0,none⟩ 0 2=some [.int .i64 0,.int .i64 (-1)]:=F4.aB;have g4:=aL (hg.below lK);push_cast -dsimp[f4,g4];refine⟨⟨by omega,by omega⟩,⟨i+1,rfl,by omega,?_,lK,by omega,E4⟩,by rw[h30];simp only[intOf];omega⟩;rw[ht,jt,gC];simp only[fq,hp]
  | some e =>
   rw[hp]at hE;have hE:r=_:=hE;subst hE;push_cast -dsimp;refine aR (z:=[.int .i64 0,.int .i64 0]) (by kernel_rfl) ?_;intro w3 bO;have z3:=bO.size;push_cast -dsimp;refine aF (xt:=28) (n:=2) (by kernel_rfl) bO.aN rfl (by decide) (by simp;exact⟨rfl,rfl⟩) ?_;intro w4 aj;have F4:aO w4 wy.heap.size 28 [.int .i64 7,.int .i64 e]:=aj.aN;have z4:=aj.size;have c4:Below wy.heap.size wy w4:=bO.below.trans (aj.kept.below (B:=wy.heap.size) (by omega) (λi h=>by omega));have E4:=(Ex.below cp Ex.lt).below c4 (by omega);have lK:=gz.trans (c4.mono gz.size);have f4:aB w4 ⟨wy.heap.size,0,none⟩ 0 2=some [.int .i64 7,.int .i64 e]:=F4.aB;have g4:=aL (hg.below lK);push_cast -dsimp[f4,g4];refine aF (xt:=28) (n:=2) (by kernel_rfl) E4 rfl (by decide) (by simp;exact⟨rfl,rfl⟩) ?_;intro w5 bW;have E5:aO w5 w.heap.size 28 [.int .i64 7,.int .i64 e]:=bW.aN;have dE:aB w5 ⟨w.heap.size,0,none⟩ 0 2=some [.int .i64 7,.int .i64 e]:=E5.aB;have pL:=lK.trans (bW.kept.below (B:=w.heap.size) lK.size (λi h=>by omega));push_cast -dsimp[dE];refine⟨?_,pL⟩;have cg:fq nm l=some e:=by
    have qv:l=l.take (i+1)++l.drop (i+1):=(List.take_append_drop _ _).symm;rw[qv,jt,ht,jt,gC];simp only[fq,hp]
   rw[cg];rfl
 have gx:=aL (hg.below bC);refine aD ?_;push_cast -dsimp[gx];refine aF (xt:=28) (n:=2) (by kernel_rfl) Ex rfl (by decide) (by simp;exact⟨rfl,rfl⟩) ?_;intro w7 dN;have E7:aO w7 w.heap.size 28 [.int .i64 0,.int .i64 (-1)]:=dN.aN;have dE:aB w7 ⟨w.heap.size,0,none⟩ 0 2=some [.int .i64 0,.int .i64 (-1)]:=E7.aB;have se:=bC.trans (dN.kept.below (B:=w.heap.size) bC.size (λi h=>by omega));push_cast -dsimp[dE];refine cC ?_;push_cast -dsimp[dE];refine⟨?_,se⟩;rw[List.take_of_length_le (by omega)]at gC;rw[gC];rfl
theorem Xv:vX .any:=by
 intro cD jS nm hr X v mb w hg hV hm;simp only[aV]at hV;obtain⟨b,rfl,hb,hB⟩:=hV;exact(nf 2 0 0 (by decide) [] (λx h=>by cases h) (λx h=>by cases h) (by simp) nm hr X b mb _ _ [] w hg hB (Sl.nil _ _ _ _ _ _) (by simp only[aU]) hm).mono λr w' ⟨h1,h2⟩=>⟨by simpa[mQ,im,fq] using h1,h2⟩
theorem Tg:vX .iA:=by
 intro cD jS nm hr X v mb w hg hV hm;simp only[aV]at hV;obtain⟨b,rfl,hb,hB⟩:=hV;exact(nf 3 0 0 (by decide) [] (λx h=>by cases h) (λx h=>by cases h) (by simp) nm hr X b mb _ _ [] w hg hB (Sl.nil _ _ _ _ _ _) (by simp only[aU]) hm).mono λr w' ⟨h1,h2⟩=>⟨by simpa[mQ,im,fq] using h1,h2⟩
theorem Xw (l:List aI)(hl:∀x∈l,vX x):vX (.cat l):=by
 intro cD jS nm hr X v mb w hg hV hm;simp only[aV]at hV;obtain⟨b,sv,vs,rfl,hb,hB,hs,hV⟩:=hV;have nC:=qi (l:=l);simp only[bQ]at cD;exact(nf 4 0 0 (by decide) l hl (λx h=>⟨fk cD h,by have:=nC.2.2 x h;omega⟩) (by have:=nC.2.1;omega) nm hr X b mb _ sv vs w hg hB hs hV hm).mono λr w' ⟨h1,h2⟩=>⟨by simpa[mQ,im] using h1,h2⟩
theorem Xu (l:List aI)(hl:∀x∈l,vX x):vX (.alt l):=by
 intro cD jS nm hr X v mb w hg hV hm;simp only[aV]at hV;obtain⟨b,sv,vs,rfl,hb,hB,hs,hV⟩:=hV;have nC:=qh (l:=l);simp only[bQ]at cD;exact(nf 5 0 0 (by decide) l hl (λx h=>⟨fk cD h,by have:=nC.2.2 x h;omega⟩) (by have:=nC.2.1;omega) nm hr X b mb _ sv vs w hg hB hs hV hm).mono λr w' ⟨h1,h2⟩=>⟨by simpa[mQ,im] using h1,h2⟩
theorem Th (x:aI)(lo hi:Int)(hx:vX x):vX (.many x lo hi):=by
 intro cD jS nm hr X v mb w hg hV hm;simp only[aV]at hV;obtain⟨b,sv,u,rfl,hb,hB,hs,hV⟩:=hV;have hpm:=oh (x:=x) (lo:=lo) (hi:=hi);simp only[bQ]at cD;refine(nf 6 lo hi (by decide) [x] (λy h=>by rw[List.mem_singleton]at h;rw[h];exact hx) (λy h=>by rw[List.mem_singleton]at h;rw[h];exact⟨cD.1,by omega⟩) (by simp) nm hr X b mb _ sv [u] w hg hB hs (by simp only[aU];exact⟨hV,trivial⟩) hm).mono λr w' ⟨h1,h2⟩=>⟨?_,h2⟩;have e:fq nm [x]=im nm x:=by
  simp only[fq];cases im nm x<;>rfl
 rw[e]at h1;simpa[mQ,im] using h1
mutual
theorem LL:∀x,vX x
 | .one k=>Xx k
 | .any=>Xv
 | .iA=>Tg
 | .cat l=>Xw l (J6 l)
 | .alt l=>Xu l (J6 l)
 | .many x lo hi=>Th x lo hi (LL x)
theorem J6:∀(l:List aI) (x:aI),x∈l->vX x
 | [],x,h=>by cases h
 | y::l,x,h=>by
  have hy:=LL y;rcases List.mem_cons.1 h with h|h
  ·rw[h];exact hy
  exact J6 l x h
end
def kl (f:dQ):Option (Int×Nat):=match fA [] f.bJ with
 | .error e=>some (CL e)
 | .ok nm=>(eZ nm f.rules).map λe=>((7:Int),e)
theorem fJ {nm:bP}:∀(a b:List cW),eZ nm (a++b)=match eZ nm a with
  | some e=>some e
  | none=>eZ nm b
 | [],b=>by simp only[List.nil_append,eZ]
 | x::a,b=>by
  simp only[List.cons_append,eZ];cases vH nm x with
  | some e=>rfl
  | none=>exact fJ a b
def QE (f:dQ):Prop:=∀r∈f.rules,wd r.before<=100000/\wd r.after<=100000
theorem aV.qP {X X':Nat->Prop}{w:World}{x:aI}{v:Value}(h:aV X w v x)(hX:∀b,X' b->X b):aV X' w v x:=h.mono (Kept.refl (λ_=>False) w) (λ_ h=>h.elim) hX
theorem We (f:dQ)(cD:rV f)(jS:QE f)(Ar:f.bJ.length<=1000000)(Zu:f.rules.length<=1000000)(X:Nat->Prop)(v:Value)(w:World)(hv:gn X w v f) :
  bD Tryz.prog 10 [v] w λr w'=>sV w.heap.size (kl f) r w'/\Below w.heap.size w w':=by
 have X4:=hv;obtain⟨cv,rv,cs,rs,rfl,je,fO,hC,hR⟩:=hv;have NR:=dd.len hR;obtain⟨ca,cc,rfl,Sb⟩:=je.shape;obtain⟨ra,rc,rfl,hrc⟩:=fO.shape;refine aE Tryz.func10 rfl (by kernel_rfl) [2] rfl ?_;push_cast -dsimp(maxSteps:=4000000) [Tryz.ntmps10];refine ah ?_;intro w1 au;have au:qR w w1 25 [.slice ca cs.length cc,.slice ra rs.length rc,.bool f.els]:=au;have z1:=au.size;have d0:aB w1 ⟨w.heap.size,0,none⟩ 0 3=some [.slice ca cs.length cc,.slice ra rs.length rc,.bool f.els]:=au.aN.aB;have hv1:gn X w1 (.agg #[.slice ca cs.length cc,.slice ra rs.length rc,.bool f.els]) f:=X4.below au.below;push_cast -dsimp[d0];refine aA (LR f cD.1 Ar X _ w1 hv1) ?_;rintro r w2 ⟨hN,eW⟩;have z2:=eW.size;have jD:=au.below.trans (eW.mono (by omega));have B2:=au.aN.below eW (by omega);unfold nI at hN;cases jR:fA [] f.bJ with
 | error e =>
  rw[jR]at hN;obtain⟨ev,rfl,hE⟩:=hN;obtain⟨eb,zI,rfl,Zh⟩:=hE;push_cast -dsimp;refine⟨?_,jD⟩;unfold kl;rw[jR];exact⟨eb,by omega,rfl,Zh⟩
 | ok nm =>
  rw[jR]at hN;obtain⟨mb,hmb,rfl,EB,vf⟩:=hN;have d1:w2.cell? ⟨w.heap.size,1,none⟩=some (.slice ra rs.length rc):=B2.cell rfl;push_cast -dsimp[d1];refine aM [2,6,7,8,20,21,22,23,24,25,26,27,28,29,30,31,32,33,34,35,36,37,38] (λz wx=>∃(i:Nat),z 20=.int .i64 i/\i<=f.rules.length/\eZ nm (f.rules.take i)=none/\Below w2.heap.size w2 wx) (λz _=>f.rules.length-(intOf (z 20)).toNat) ?_ ?_
  ·exact⟨0,rfl,Nat.zero_le _,by simp[eZ],Below.refl _ _⟩
  intro z wx hI;obtain⟨i,jQ,hi,gC,aBz⟩:=hI;have zx:=aBz.size;have bC:=jD.trans (aBz.mono (by omega));push_cast -dsimp[jQ];refine⟨λbZ=>?_,λgh=>?_⟩
  ·obtain⟨c,hc,qm,_,ht⟩:=bK (l:=f.rules) (i:=i) (by omega);obtain⟨x,hx,wK,tD,Av,wJ⟩:=jV hR hc;obtain⟨xp,xb,x1,x2⟩:=x;simp only at wK tD Av wJ;subst wK;subst tD;obtain⟨b1,o,rfl,zJ,aP⟩:=(fO.below bC).get hx;have c4:aB wx ⟨b1,o+i*4,none⟩ 0 4=some [.int .i64 c.pos,.bool c.brk,.pointer (some ⟨x1,0,none⟩),.pointer (some ⟨x2,0,none⟩)]:=bL _ 0 (λj u hu=>by simpa[gv,bF] using aP j u hu);push_cast -dsimp[c4];refine⟨⟨by omega,by omega⟩,?_⟩;refine aR (z:=[.int .i64 0,.bool false,.pointer none,.pointer none]) (by kernel_rfl) ?_;intro wa eL;have za:=eL.size;push_cast -dsimp;refine aF (n:=4) (by kernel_rfl) eL.aN rfl (by simp) (by simp[Value.oneCell']) ?_;intro wb cX;have zb:=cX.size;have me:Below wx.heap.size wx wb:=eL.below.trans (cX.kept.below (by omega) (λi h=>by omega));have aFU:=aBz.trans (me.mono (by omega));have oI:=bC.trans (me.mono (by omega));have Rb:aO wb wx.heap.size 60 [.int .i64 c.pos,.bool c.brk,.pointer (some ⟨x1,0,none⟩),.pointer (some ⟨x2,0,none⟩)]:=cX.aN;have e2:wb.cell? ⟨wx.heap.size,2,none⟩=some (.pointer (some ⟨x1,0,none⟩)):=Rb.cell rfl;have pD:aV (λb=>X b/\b<w1.heap.size) wb (bF x1) c.before:=aV.qP (aV.below Av oI) (λb h=>h.1);push_cast -dsimp[e2];refine aA (Kl c.before (cD.2 c qm).1 (by have:=(jS c qm).1;omega) nm vf _ _ mb wb pD (EB.below aFU)) ?_;rintro r3 w3 ⟨Vq,ft⟩;have z3:=ft.size;have aFT:=aFU.trans (ft.mono (by omega));have mS:=oI.trans (ft.mono (by omega));have Rc:=Rb.below ft Rb.lt
   have e3:w3.cell? ⟨wx.heap.size,3,none⟩=some (.pointer (some ⟨x2,0,none⟩)):=Rc.cell rfl;have qv:f.rules=f.rules.take (i+1)++f.rules.drop (i+1):=(List.take_append_drop _ _).symm;unfold mQ at Vq;cases NO:im nm c.before with
   | some e =>
    rw[NO]at Vq;obtain⟨eb,zI,rfl,Zh⟩:=Vq;push_cast -dsimp;refine⟨?_,mS⟩;have cg:eZ nm f.rules=some e:=by
     rw[qv,fJ,ht,fJ,gC];simp only[eZ,vH,NO]
    unfold kl;rw[jR];dsimp only;rw[cg];exact⟨eb,by omega,rfl,Zh⟩
   | none =>
    rw[NO]at Vq;have Vq:r3=.nilIface:=Vq;subst Vq;have hP2:aV (λb=>X b/\b<w1.heap.size) w3 (bF x2) c.after:=aV.qP (aV.below wJ mS) (λb h=>h.1);push_cast -dsimp[e3];refine aA (Kl c.after (cD.2 c qm).2 (by have:=(jS c qm).2;omega) nm vf _ _ mb w3 hP2 (EB.below aFT)) ?_;rintro r4 w4 ⟨hE4,fo⟩;have z4:=fo.size;have re:=mS.trans (fo.mono (by omega));unfold mQ at hE4;cases NP:im nm c.after with
    | some e =>
     rw[NP]at hE4;obtain⟨eb,zI,rfl,Zh⟩:=hE4;push_cast -dsimp;refine⟨?_,re⟩;have cg:eZ nm f.rules=some e:=by
      rw[qv,fJ,ht,fJ,gC];simp only[eZ,vH,NO,NP]
     unfold kl;rw[jR];dsimp only;rw[cg];exact⟨eb,by omega,rfl,Zh⟩
    | none =>
     rw[NP]at hE4;have hE4:r4=.nilIface:=hE4;subst hE4;push_cast -dsimp;refine⟨⟨by omega,by omega⟩,⟨i+1,rfl,by omega,?_,aFT.trans (fo.mono (by omega))⟩,by rw[jQ];simp only[intOf];omega⟩;rw[ht,fJ,gC];simp only[eZ,vH,NO,NP]
  rw[List.take_of_length_le (by omega)]at gC;refine⟨?_,bC⟩;unfold kl;rw[jR];dsimp only;rw[gC];rfl
end Go.Proofs.YtodeeahdhnjpkaaGreatDoor
end
section
namespace Go.Vc
open Go.RowKit
section
variable {P:Program}
theorem u9 {ops l2:List Oper}{K:Fr->World->Prop}{Q:EP}{next:Exit->Act->World->Prop}(hn:∀t w,K t w->wpList P ops.toArray next l2 ⟨t.toArray,[]⟩ w)(hq:∀e a w,lift Q e a w->next e a w) :
  ∀(l:List Oper) (t:Fr) (w:World),aW P ops K Q l t w .mk->wpList P ops.toArray next (l++l2) ⟨t.toArray,[]⟩ w
 | [],t,w,h=>hn t w h
 | o::r,t,w,h=>by
  have step:∀(t':Fr),Region.wanted o (yielded ops.toArray t'.toArray)=true->cN P o t' w (λv w'=>aW P ops K Q r (put t' o.dst v) w' .mk) Q .mk->wpList P ops.toArray next (o::(r++l2)) ⟨t'.toArray,[]⟩ w:=λt' hw h'=>by
   unfold wpList;rw[if_pos hw];refine .inl ?_
   have:=Bd (next:=wpList P ops.toArray next (r++l2)) (λv w' hk=>u9 hn hq r _ w' hk) h'
   unfold Oper.wp at this ⊢
   generalize (execOp _ o).run P w=res at this;cases res with
   | ok n w' =>
    cases n<;>simp only[Oper.upon]at this ⊢<;>first|exact this|skip
    exact this.mono λe ar he=>by
     cases e with
     | returned v=>exact he
     | panicked c=>exact hq _ _ _ he
     | outgrown=>obtain⟨a₀,w₀,hh⟩:=he;exact⟨a₀,w₀,hq _ _ _ hh⟩
   | halt x w'=>cases x<;>simp only[Oper.upon]at this ⊢<;>first|exact this|exact hq _ _ _ this
  have skip:∀(t':Fr),Region.wanted o (yielded ops.toArray t'.toArray)=false->aW P ops K Q r (put t' o.dst undef) w .mk->wpList P ops.toArray next (o::(r++l2)) ⟨t'.toArray,[]⟩ w:=λt' hw h'=>by
   unfold wpList;rw[if_neg (by rw[hw];simp)];rw[put_eq];exact u9 hn hq r _ w h'
  simp only[aW]at h;split at h
  ·rename_i hg;exact step t (by simp[Region.wanted,hg]) h
  rename_i j want hg;have j5:∀t':Fr,Region.wanted o (yielded ops.toArray t'.toArray)=(yielded ops.toArray t'.toArray j == some want):=λt'=>by simp only[Region.wanted,hg]
  unfold gJ at h;split at h
  ·rename_i hs;exact skip t (by rw[j5,ec,hs];rfl) h
  rename_i s hs;split at h
  ·rename_i b hb;have bZ:s<t.length:=by
    rcases Nat.lt_or_ge s t.length with h'|h'
    ·exact h'
    simp[List.getD_eq_getElem?_getD,List.getElem?_eq_none h',undef]at hb
   have hv:t[s]?=some (.bool b):=by
    rw[List.getD_eq_getElem?_getD]at hb;rw[List.getElem?_eq_getElem bZ]at hb ⊢
    simpa using hb
   have hy:yielded ops.toArray t.toArray j=some b:=by rw[ec,hs];simp[hv]
   have same:=ir t s bZ;rw[hb]at same;by_cases Hp:b=want
   ·subst Hp;have h1:=h.1 rfl;rw[same]at h1;exact step t (by rw[j5,hy];simp) h1
   have DA:b=!want:=by cases b<;>cases want<;>simp_all
   have h2:=h.2 DA;rw[<-DA,same]at h2;exact skip t (by rw[j5,hy];simpa using Hp) h2
  rename_i hb;refine skip t ?_ h;rw[j5,ec,hs];simp only[Option.bind_some];cases hv:t[s]? with
  | none=>rfl
  | some v =>
   have:t.getD s undef=v:=by rw[List.getD_eq_getElem?_getD,hv];rfl
   rw[this]at hb;cases v<;>simp at hb ⊢
theorem K5 {o:Oper}{l:List Oper}{ops:Array Oper}{t:Fr}{w:World}{K:Value->World->Prop}{Q:EP}{next:Exit->Act->World->Prop}(hg:o.guard=none)(hq:∀e a w,lift Q e a w->next e a w)
  (hn:∀v w',K v w'->wpList P ops next l ⟨(put t o.dst v).toArray,[]⟩ w') (h:runK P o t w K Q .mk):wpList P ops next (o::l) ⟨t.toArray,[]⟩ w:=by
 unfold wpList;rw[if_pos (by simp[Region.wanted,hg])];refine .inl ?_;have:o.wp P ⟨t.toArray,[]⟩ w (wpList P ops next l) (lift Q):=by
  unfold runK at h;unfold Oper.wp;rw[ln];exact BJ hn h
 unfold Oper.wp at this ⊢
 generalize (execOp _ o).run P w=res at this;cases res with
 | ok n w' =>
  cases n<;>simp only[Oper.upon]at this ⊢<;>first|exact this|skip
  exact this.mono λe ar he=>by
   cases e with
   | returned v=>exact he
   | panicked c=>exact hq _ _ _ he
   | outgrown=>obtain⟨a₀,w₀,hh⟩:=he;exact⟨a₀,w₀,hq _ _ _ hh⟩
 | halt x w'=>cases x<;>simp only[Oper.upon]at this ⊢<;>first|exact this|exact hq _ _ _ this
theorem PW {id:Nat}{ops l1 l2:List Oper}{o:Oper}{t:Fr}{w:World}{Q:EP}{p}(ho:ops=l1++o::l2)(hg:o.guard=none)
  (h:aW P ops (λt w=>runK P o t w (λv w'=>aW P ops (Q .normal) Q l2 (put t o.dst v) w' .mk) Q .mk) Q l1 t w .mk):cw P (.region id ops.toArray false) Q t w p:=by
 unfold cw;refine wp_region_list ?_;have e:ops.toArray.toList=l1++o::l2:=by rw[List.toList_toArray];exact ho
 rw[e];refine u9 (λt w hk=>?_) (λ_ _ _ h=>h) _ t w h;exact K5 hg (λ_ _ _ h=>h) (λv w' hv=>th (λt w hk=>⟨rfl,by simpa using hk⟩) (λ_ _ _ h=>h) _ _ w' hv) hk
theorem GS {d:Option TypeDesc}{n e:Nat}{x i:Value}{L:VP}{other:Prop}{p}(h:d=some (.array n e))(hh:other):ru d x i L other p:=by
 subst h;exact hh
end
end Go.Vc
end
