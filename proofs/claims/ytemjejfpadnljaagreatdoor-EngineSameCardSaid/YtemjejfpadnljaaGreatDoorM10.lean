/- Part. -/
import Derived.Test.YtemjejfpadnljaaGreatDoorM9
import Derived.Test.YtemjejfpadnljaaGreatDoorTie
import Derived.ProofKit
import Derived.Handy
import Derived.Lay
import Derived.OpenShut
import Derived.LaidMore
import Derived.Carry
import Derived.SevenTiedAt
import Derived.LaidHandle
import Derived.LaidSub
import Derived.LaidLaws
import Derived.Lib.LaidTab
import Derived.HandedShaped
import Derived.Shelf.Vars
set_option maxRecDepth 100000
set_option linter.unusedSimpArgs false
set_option linter.unusedVariables false
set_option maxHeartbeats 8000000
namespace Cae
open Classical
noncomputable def eX (P:Int->Prop)(az:List Int)(back:Bool)(i:Nat):Option Nat:=match fS az back i with
 | some (j,p)=>if P p then some j else none
 | none=>none
theorem GW {P:Int->Prop}{az:List Int}{back:Bool}{l:List Nat}{j:Nat}:j∈l.filterMap (eX P az back)↔∃i∈l,∃p,fS az back i=some (j,p)/\P p:=by
 rw[List.mem_filterMap];refine exists_congr λi=>and_congr Iff.rfl ?_;unfold eX;cases h:fS az back i with
 | none=>simp
 | some q =>
  obtain⟨k,p⟩:=q;by_cases hp:P p
  ·simp[hp];constructor
   ·intro FZ;exact⟨p,⟨FZ,rfl⟩,hp⟩
   rintro⟨p',⟨h1,_⟩,_⟩;exact h1
  simp[hp]
end Cae
namespace Go.Proofs.YtemjejfpadnljaaGreatDoor
open Go.Vc Go.Proofs Go.RowKit Cae
attribute [local irreducible] dN ae ak aY runK aw Sl Vc.Own vc aV cJ a7
def AB (x:aG):Prop:=bD x->wd x<=100000->∀(X:Nat->Prop) (w:World) (rb mb:Nat) (us:List U) (nm:bK) (back:Bool),Mr X w rb mb us nm back->∀(v:Value),au X w v x->∀(fv:Value) (from_:List Nat),Sl (λ_=>False) 1 (En aX) w fv from_->Arg fv->from_.Pairwise (·<·)->(∀i∈from_,i<=us.length) ->
 aw Tryz.prog 60 [.pointer (some ⟨rb,0,none⟩),v,fv] w λr w'=>Vc.Own w.heap.size 3 1 aX w' r (kH us.length (fG (bC nm) (bJ us) back x) from_)/\Below w.heap.size w w'
theorem Fc {a b:List Nat}(h:bM a=bM b):a=b:=by
 have:=congrArg (List.map Int.toNat) h;unfold bM at this;rw[List.map_map,List.map_map]at this;have e:(Int.toNat∘λn:Nat=>(n:Int))=id:=funext λn=>by simp
 rw[e,List.map_id,List.map_id]at this;exact this
theorem xu {N:Nat}{R:Nat->Nat->Prop}{from_ L m1 m2:List Nat}(h1:bM m1=((bM L).mergeSort λx y=>decide (x<=y)))(h2:bM m2=Lib.compact (bM m1))(hm:∀j,j∈L↔j<=N/\∃i∈from_,R i j):m2=kH N R from_:=by
 obtain⟨m,e,hp,lg⟩:=sH L;rw[<-h1,<-h2]at e;have e:=Fc e;subst e;exact aDi hp λj=>by rw[lg j,hm j]
theorem lF {L m1:List Nat}(h1:bM m1=((bM L).mergeSort λx y=>decide (x<=y))):m1.length=L.length:=by
 have:=congrArg List.length h1;rw[(List.mergeSort_perm _ _).length_eq]at this;simpa[bM] using this
theorem WA:AB .gh:=by
 intro bI j8 X w rb mb us nm back h v hV fv from_ hf ha hr hle;have hlen:=h.len;have tL:=cU hr hle;simp only[au]at hV;obtain⟨b,rfl,hb,hB⟩:=hV;obtain⟨fa,fc,rfl,hfc⟩:=hf.shape;have d0:w.cell? ⟨b,0,none⟩=some (.int .i64 3):=hB.cell rfl;refine aD Tryz.func60 rfl (by kernel_rfl) [6] rfl ?_;push_cast -dsimp(maxSteps:=9^7) [Tryz.ntmps60];push_cast -dsimp[d0];refine aK [7,13,14,15,70,71,72,73,74,75,76,77,78,79,80,81,82,83,84,85,86] (λz wx=>∃(i:Nat) (ov:Value),z 70=.int .i64 i/\z 7=ov/\i<=from_.length/\Vc.Own w.heap.size 3 1 aX wx ov ((from_.take i).filter λa=>(fS (bJ us) back a).isNone)/\Below w.heap.size w wx) (λz _=>from_.length-(intOf (z 70)).toNat) ?_ ?_
 ·exact⟨0,_,rfl,rfl,Nat.zero_le _,Vc.Own.nil (enc:=aX) _ _ (λ_=>rfl) _,Below.refl _ _⟩
 intro z wx hI;obtain⟨i,ov,h70,h7,hi,hO,bS⟩:=hI;have zx:=bS.size;push_cast -dsimp[h70,h7];refine⟨λaq=>?_,λeo=>?_⟩
 ·obtain⟨a,hx,jJ,_,ht⟩:=ag (l:=from_) (i:=i) (by omega);obtain⟨b1,o,rfl,kL,aM⟩:=(hf.below bS).get hx;have c0:wx.cell? ⟨b1,o+i,none⟩=some (.int .i64 (a:Int)):=by simpa[aX] using aM 0 _ rfl
  push_cast -dsimp[c0,Nat.mul_one];refine⟨⟨by omega,by omega⟩,?_⟩;refine aA (Ox (h.below bS) a (hle a jJ)) ?_;rintro r wy ⟨hS,gn⟩;have zy:=gn.size;have lY:=bS.trans (gn.mono zx);obtain⟨oa,oc,rfl⟩:=hO.slice;have vg:=hO.below gn;have hlL:((from_.take i).filter λa=>(fS (bJ us) back a).isNone).length<=i:=by
   have:=List.length_filter_le (λa=>(fS (bJ us) back a).isNone) (from_.take i);rw[List.length_take]at this;omega
  rcases hS with ⟨j,p,bm,rfl⟩|⟨bm,rfl⟩
  ·push_cast -dsimp;refine⟨λvw=>by omega,λ_=>⟨⟨by omega,by omega⟩,⟨i+1,_,rfl,rfl,by omega,?_,lY⟩,by rw[h70];simp only[intOf];omega⟩⟩;rw[ht,List.filter_append,List.filter_cons_of_neg (by simp[bm]),List.filter_nil,List.append_nil];exact vg
  push_cast -dsimp;refine cF ay rfl rfl (by omega) ?_;intro w5 cG;have z5:=cG.size;have kF:=vg.new cG;push_cast -dsimp;refine aP (base:=w.heap.size) [a] (enc:=aX) ay kF (by rfl) (λj u hu=>by rw[Nat.zero_add];exact cG.cell hu) (by simp[aX,Value.oneCell']) (by simp only[List.length_cons,List.length_nil];omega) (by omega) ?_;intro v6 w6 tI K6 hn6;have lk:Below w.heap.size w w6:=(lY.trans (cG.below.mono (by omega))).trans ((Kept.grown (X:=λj=>w.heap.size<=j) K6 (λk hk=>(kF.block k hk).1)).below (by omega) (λ_ h=>h));push_cast -dsimp;refine⟨⟨by omega,by omega⟩,⟨i+1,_,rfl,rfl,by omega,?_,lk⟩,by rw[h70];simp only[intOf];omega⟩;rw[ht,List.filter_append,List.filter_cons_of_pos (by simp[bm]),List.filter_nil];exact tI
 rw[List.take_of_length_le (by omega)]at hO;have hlL:=List.length_filter_le (λa=>(fS (bJ us) back a).isNone) from_;have lg:∀j,j∈(from_.filter λa=>(fS (bJ us) back a).isNone)↔j<=us.length/\∃i∈from_,fG (bC nm) (bJ us) back .gh i j:=λj=>by
  rw[List.mem_filter,Option.isNone_iff_eq_none];simp only[fG];constructor
  ·rintro⟨h1,h2⟩;exact⟨hle j h1,j,h1,rfl,h2⟩
  rintro⟨_,i,h1,rfl,h2⟩;exact⟨h1,h2⟩
 have ym:=bS;have zF:=ym.size;refine aA (lQ (from_.filter λa=>(fS (bJ us) back a).isNone) (by omega) (λ_=>False) _ (wx) (hO.sl.weaken (λ_ h=>h.elim)) hO.di) ?_;rintro vc wc ⟨yG,ng⟩;have zc:=ng.size;push_cast -dsimp;refine aA (lJ (from_.filter λa=>(fS (bJ us) back a).isNone) (by omega) _ vc wc yG) ?_;rintro _ wd ⟨⟨m1,j6,Ei⟩,yp⟩;have zd:=yp.size;have tL:=lF j6;push_cast -dsimp;refine aA (fw m1 (by omega) _ vc wd Ei) ?_;rintro vr we ⟨⟨m2,dK,qt,vz⟩,eD⟩;have YX:=xu j6 dK lg;subst YX;push_cast -dsimp;exact⟨qt.mono zF,ym.trans ((ng.mono zF).trans ((yp.below (by omega) (λi h=>by have:=yG.block i h;omega)).trans (eD.below (by omega) (λi h=>by have:=yG.block i h;omega))))⟩
theorem aBB:AB .any:=by
 intro bI j8 X w rb mb us nm back h v hV fv from_ hf ha hr hle;have hlen:=h.len;have tL:=cU hr hle;simp only[au]at hV;obtain⟨b,rfl,hb,hB⟩:=hV;obtain⟨fa,fc,rfl,hfc⟩:=hf.shape;have d0:w.cell? ⟨b,0,none⟩=some (.int .i64 2):=hB.cell rfl;refine aD Tryz.func60 rfl (by kernel_rfl) [6] rfl ?_;push_cast -dsimp(maxSteps:=9^7) [Tryz.ntmps60];push_cast -dsimp[d0];refine aK [7,9,10,11,33,34,35,36,37,38,39,40,41,42,43,44,45,46,47,48,49,50,51,52,53,54,55,56,57,58,59,60,61,62,63,64,65] (λz wx=>∃(i:Nat) (ov:Value),z 33=.int .i64 i/\z 7=ov/\i<=from_.length/\Vc.Own w.heap.size 3 1 aX wx ov ((from_.take i).filterMap (eX (λ_=>True) (bJ us) back))/\Below w.heap.size w wx) (λz _=>from_.length-(intOf (z 33)).toNat) ?_ ?_
 ·exact⟨0,_,rfl,rfl,Nat.zero_le _,Vc.Own.nil (enc:=aX) _ _ (λ_=>rfl) _,Below.refl _ _⟩
 intro z wx hI;obtain⟨i,ov,h33,h7,hi,hO,bS⟩:=hI;have zx:=bS.size;have lr:=hB.below bS hB.lt;have f0:wx.cell? ⟨b,0,none⟩=some (.int .i64 2):=lr.cell rfl;push_cast -dsimp[h33,h7];refine⟨λaq=>?_,λeo=>?_⟩
 ·obtain⟨a,hx,jJ,_,ht⟩:=ag (l:=from_) (i:=i) (by omega);obtain⟨b1,o,rfl,kL,aM⟩:=(hf.below bS).get hx;have c0:wx.cell? ⟨b1,o+i,none⟩=some (.int .i64 (a:Int)):=by simpa[aX] using aM 0 _ rfl
  push_cast -dsimp[c0,Nat.mul_one];refine⟨⟨by omega,by omega⟩,?_⟩;refine aA (Ox (h.below bS) a (hle a jJ)) ?_;rintro r wy ⟨hS,gn⟩;have zy:=gn.size;have lY:=bS.trans (gn.mono zx);obtain⟨oa,oc,rfl⟩:=hO.slice;have vg:=hO.below gn;have Nf:=lr.below gn lr.lt;have g0:wy.cell? ⟨b,0,none⟩=some (.int .i64 2):=Nf.cell rfl;have hlL:((from_.take i).filterMap (eX (λ_=>True) (bJ us) back)).length<=i:=by
   have:=List.length_filterMap_le (eX (λ_=>True) (bJ us) back) (from_.take i);rw[List.length_take]at this;omega
  have tk:(from_.take (i+1)).filterMap (eX (λ_=>True) (bJ us) back)=(from_.take i).filterMap (eX (λ_=>True) (bJ us) back)++(eX (λ_=>True) (bJ us) back a).toList:=by
   rw[ht,List.filterMap_append];exact congrArg _ (by cases hq:eX (λ_=>True) (bJ us) back a<;>simp[List.filterMap_cons,hq])
  rcases hS with ⟨j,p,bm,rfl⟩|⟨bm,rfl⟩
  ·skip;have hF:eX (λ_=>True) (bJ us) back a=some j:=by unfold eX;rw[bm];simp
   push_cast -dsimp[g0];refine⟨λ_=>?_,λhn=>by omega⟩;refine cF ay rfl rfl (by omega) ?_;intro w5 cG;have z5:=cG.size;have gB:=lY;have zb3:=gB.size;have kF:=(vg).new cG;push_cast -dsimp;refine aP (base:=w.heap.size) [j] (enc:=aX) ay kF (by rfl) (λj u hu=>by rw[Nat.zero_add];exact cG.cell hu) (by simp[aX,Value.oneCell']) (by simp only[List.length_cons,List.length_nil];omega) (by omega) ?_;intro v6 w6 tI K6 hn6;have lk:Below w.heap.size w w6:=(gB.trans (cG.below.mono (by omega))).trans ((Kept.grown (X:=λj=>w.heap.size<=j) K6 (λk hk=>(kF.block k hk).1)).below (by omega) (λ_ h=>h));rw[hF]at tk;push_cast -dsimp;refine⟨⟨by omega,by omega⟩,⟨i+1,_,rfl,rfl,by omega,?_,lk⟩,by rw[h33];simp only[intOf];omega⟩;rw[tk];exact tI
  have hF:eX (λ_=>True) (bJ us) back a=none:=by unfold eX;rw[bm]
  rw[hF]at tk;push_cast -dsimp;refine⟨⟨by omega,by omega⟩,⟨i+1,_,rfl,rfl,by omega,?_,lY⟩,by rw[h33];simp only[intOf];omega⟩;rw[tk];simpa using vg
 rw[List.take_of_length_le (by omega)]at hO;have hlL:=List.length_filterMap_le (eX (λ_=>True) (bJ us) back) from_;have lg:∀j,j∈from_.filterMap (eX (λ_=>True) (bJ us) back)↔j<=us.length/\∃i∈from_,fG (bC nm) (bJ us) back .any i j:=λj=>by
  rw[GW];simp only[fG];constructor
  ·rintro⟨i,h1,p,h2,h3⟩;exact⟨by have:=pV h2 (by rw[fI];exact hle i h1);rw[fI]at this;exact this,i,h1,by first|exact⟨p,h2,h3⟩|exact⟨p,h2⟩⟩
  rintro⟨_,i,h1,hh⟩
  first
   | (obtain⟨p,h2,h3⟩:=hh;exact⟨i,h1,p,h2,h3⟩)
   | (obtain⟨p,h2⟩:=hh;exact⟨i,h1,p,h2,trivial⟩)
 have ym:=bS;have zF:=ym.size;refine aA (lQ (from_.filterMap (eX (λ_=>True) (bJ us) back)) (by omega) (λ_=>False) _ (wx) (hO.sl.weaken (λ_ h=>h.elim)) hO.di) ?_;rintro vc wc ⟨yG,ng⟩;have zc:=ng.size;push_cast -dsimp;refine aA (lJ (from_.filterMap (eX (λ_=>True) (bJ us) back)) (by omega) _ vc wc yG) ?_;rintro _ wd ⟨⟨m1,j6,Ei⟩,yp⟩;have zd:=yp.size;have tL:=lF j6;push_cast -dsimp;refine aA (fw m1 (by omega) _ vc wd Ei) ?_;rintro vr we ⟨⟨m2,dK,qt,vz⟩,eD⟩;have YX:=xu j6 dK lg;subst YX;push_cast -dsimp;exact⟨qt.mono zF,ym.trans ((ng.mono zF).trans ((yp.below (by omega) (λi h=>by have:=yG.block i h;omega)).trans (eD.below (by omega) (λi h=>by have:=yG.block i h;omega))))⟩
theorem aBD (k:bB):AB (.one k):=by
 intro bI j8 X w rb mb us nm back h v hV fv from_ hf ha hr hle;have hlen:=h.len;have tL:=cU hr hle;simp only[au]at hV;simp only[bD]at bI;obtain⟨b,u,rfl,hb,hB,h1⟩:=hV;obtain⟨kb,rfl,Ef⟩:=h1.ptr;obtain⟨fa,fc,rfl,hfc⟩:=hf.shape;have d0:w.cell? ⟨b,0,none⟩=some (.int .i64 1):=hB.cell rfl;refine aD Tryz.func60 rfl (by kernel_rfl) [6] rfl ?_;push_cast -dsimp(maxSteps:=9^7) [Tryz.ntmps60];push_cast -dsimp[d0];refine aK [7,9,10,11,33,34,35,36,37,38,39,40,41,42,43,44,45,46,47,48,49,50,51,52,53,54,55,56,57,58,59,60,61,62,63,64,65] (λz wx=>∃(i:Nat) (ov:Value),z 33=.int .i64 i/\z 7=ov/\i<=from_.length/\Vc.Own w.heap.size 3 1 aX wx ov ((from_.take i).filterMap (eX (bC nm k) (bJ us) back))/\Below w.heap.size w wx) (λz _=>from_.length-(intOf (z 33)).toNat) ?_ ?_
 ·exact⟨0,_,rfl,rfl,Nat.zero_le _,Vc.Own.nil (enc:=aX) _ _ (λ_=>rfl) _,Below.refl _ _⟩
 intro z wx hI;obtain⟨i,ov,h33,h7,hi,hO,bS⟩:=hI;have zx:=bS.size;have lr:=hB.below bS hB.lt;have f0:wx.cell? ⟨b,0,none⟩=some (.int .i64 1):=lr.cell rfl;push_cast -dsimp[h33,h7];refine⟨λaq=>?_,λeo=>?_⟩
 ·obtain⟨a,hx,jJ,_,ht⟩:=ag (l:=from_) (i:=i) (by omega);obtain⟨b1,o,rfl,kL,aM⟩:=(hf.below bS).get hx;have c0:wx.cell? ⟨b1,o+i,none⟩=some (.int .i64 (a:Int)):=by simpa[aX] using aM 0 _ rfl
  push_cast -dsimp[c0,Nat.mul_one];refine⟨⟨by omega,by omega⟩,?_⟩;refine aA (Ox (h.below bS) a (hle a jJ)) ?_;rintro r wy ⟨hS,gn⟩;have zy:=gn.size;have lY:=bS.trans (gn.mono zx);obtain⟨oa,oc,rfl⟩:=hO.slice;have vg:=hO.below gn;have Nf:=lr.below gn lr.lt;have g0:wy.cell? ⟨b,0,none⟩=some (.int .i64 1):=Nf.cell rfl;have hlL:((from_.take i).filterMap (eX (bC nm k) (bJ us) back)).length<=i:=by
   have:=List.length_filterMap_le (eX (bC nm k) (bJ us) back) (from_.take i);rw[List.length_take]at this;omega
  have tk:(from_.take (i+1)).filterMap (eX (bC nm k) (bJ us) back)=(from_.take i).filterMap (eX (bC nm k) (bJ us) back)++(eX (bC nm k) (bJ us) back a).toList:=by
   rw[ht,List.filterMap_append];exact congrArg _ (by cases hq:eX (bC nm k) (bJ us) back a<;>simp[List.filterMap_cons,hq])
  rcases hS with ⟨j,p,bm,rfl⟩|⟨bm,rfl⟩
  ·skip;have g1:wy.cell? ⟨b,1,none⟩=some (.pointer (some ⟨kb,0,none⟩)):=Nf.cell rfl;push_cast -dsimp[g0,g1];refine⟨λ_=>?_,λhn=>by omega⟩;refine aA (aGW (h.below lY) k bI _ (h1.below lY) p) ?_;rintro _ w4 ⟨⟨bb,rfl,jf⟩,kK⟩;have z4:=kK.size;have xw:=vg.below kK;have ir:=lY.trans (kK.mono (by omega));cases bb with
   | true =>
    have hF:eX (bC nm k) (bJ us) back a=some j:=by unfold eX;rw[bm];exact if_pos (jf.1 rfl)
    push_cast -dsimp;refine cF ay rfl rfl (by omega) ?_;intro w5 cG;have z5:=cG.size;have gB:=ir;have zb3:=gB.size;have kF:=(xw).new cG;push_cast -dsimp;refine aP (base:=w.heap.size) [j] (enc:=aX) ay kF (by rfl) (λj u hu=>by rw[Nat.zero_add];exact cG.cell hu) (by simp[aX,Value.oneCell']) (by simp only[List.length_cons,List.length_nil];omega) (by omega) ?_;intro v6 w6 tI K6 hn6;have lk:Below w.heap.size w w6:=(gB.trans (cG.below.mono (by omega))).trans ((Kept.grown (X:=λj=>w.heap.size<=j) K6 (λk hk=>(kF.block k hk).1)).below (by omega) (λ_ h=>h));rw[hF]at tk;push_cast -dsimp;refine⟨⟨by omega,by omega⟩,⟨i+1,_,rfl,rfl,by omega,?_,lk⟩,by rw[h33];simp only[intOf];omega⟩;rw[tk];exact tI
   | false =>
    have hF:eX (bC nm k) (bJ us) back a=none:=by unfold eX;rw[bm];exact if_neg (λhh=>by have:=jf.2 hh;cases this)
    rw[hF]at tk;push_cast -dsimp;refine⟨⟨by omega,by omega⟩,⟨i+1,_,rfl,rfl,by omega,?_,ir⟩,by rw[h33];simp only[intOf];omega⟩;rw[tk];simpa using xw
  have hF:eX (bC nm k) (bJ us) back a=none:=by unfold eX;rw[bm]
  rw[hF]at tk;push_cast -dsimp;refine⟨⟨by omega,by omega⟩,⟨i+1,_,rfl,rfl,by omega,?_,lY⟩,by rw[h33];simp only[intOf];omega⟩;rw[tk];simpa using vg
 rw[List.take_of_length_le (by omega)]at hO;have hlL:=List.length_filterMap_le (eX (bC nm k) (bJ us) back) from_;have lg:∀j,j∈from_.filterMap (eX (bC nm k) (bJ us) back)↔j<=us.length/\∃i∈from_,fG (bC nm) (bJ us) back (.one k) i j:=λj=>by
  rw[GW];simp only[fG];constructor
  ·rintro⟨i,h1,p,h2,h3⟩;exact⟨by have:=pV h2 (by rw[fI];exact hle i h1);rw[fI]at this;exact this,i,h1,by first|exact⟨p,h2,h3⟩|exact⟨p,h2⟩⟩
  rintro⟨_,i,h1,hh⟩
  first
   | (obtain⟨p,h2,h3⟩:=hh;exact⟨i,h1,p,h2,h3⟩)
   | (obtain⟨p,h2⟩:=hh;exact⟨i,h1,p,h2,trivial⟩)
 have ym:=bS;have zF:=ym.size;refine aA (lQ (from_.filterMap (eX (bC nm k) (bJ us) back)) (by omega) (λ_=>False) _ (wx) (hO.sl.weaken (λ_ h=>h.elim)) hO.di) ?_;rintro vc wc ⟨yG,ng⟩;have zc:=ng.size;push_cast -dsimp;refine aA (lJ (from_.filterMap (eX (bC nm k) (bJ us) back)) (by omega) _ vc wc yG) ?_;rintro _ wd ⟨⟨m1,j6,Ei⟩,yp⟩;have zd:=yp.size;have tL:=lF j6;push_cast -dsimp;refine aA (fw m1 (by omega) _ vc wd Ei) ?_;rintro vr we ⟨⟨m2,dK,qt,vz⟩,eD⟩;have YX:=xu j6 dK lg;subst YX;push_cast -dsimp;exact⟨qt.mono zF,ym.trans ((ng.mono zF).trans ((yp.below (by omega) (λi h=>by have:=yG.block i h;omega)).trans (eD.below (by omega) (λi h=>by have:=yG.block i h;omega))))⟩
theorem aBC (l:List aG)(cg:∀x∈l,AB x):AB (.cat l):=by
 intro bI j8 X w rb mb us nm back h v hV fv from_ hf ha hr hle;have hlen:=h.len;have tL:=cU hr hle;have wC:=y6 (l:=l);simp only[au]at hV;simp only[bD]at bI;obtain⟨b,sv,vs,rfl,hb,hB,hs,hV⟩:=hV;have hvl:=hV.len;obtain⟨sa,sc,rfl,yI⟩:=hs.shape;rw[hvl]at hB hs yI;obtain⟨fa,fc,rfl,hfc⟩:=hf.shape;obtain⟨lv,hBr,hlv⟩:=h.st;have d0:w.cell? ⟨b,0,none⟩=some (.int .i64 4):=hB.cell rfl;have d2:w.cell? ⟨b,2,none⟩=some (.slice sa l.length sc):=hB.cell rfl;refine aD Tryz.func60 rfl (by kernel_rfl) [6] rfl ?_;push_cast -dsimp(maxSteps:=9^7) [Tryz.ntmps60];push_cast -dsimp[d0,d2];refine aK [7,16,17,95,96,97,98,99,100,101,102,103,104,105,106,107,108,109,110,111,112,113,114,115,116,117,118,119,120,121] (λz wx=>∃(n:Nat) (ov:Value) (L:List Nat),z 95=.int .i64 n/\z 7=ov/\n<=l.length/\Sl (λ_=>False) 1 (En aX) wx ov L/\Arg ov/\L.Pairwise (·<·)/\(∀j,j∈L↔j<=us.length/\∃i∈from_,EM (bC nm) (bJ us) back l n i j)/\Below w.heap.size w wx) (λz _=>l.length-(intOf (z 95)).toNat) ?_ ?_
 ·refine⟨0,_,from_,rfl,rfl,Nat.zero_le _,hf,ha,hr,λj=>?_,Below.refl _ _⟩;constructor
  ·intro hj;exact⟨hle j hj,j,hj,FN.2 rfl⟩
  rintro⟨_,i,hi,h2⟩;rw[<-FN.1 h2];exact hi
 intro z wx hI;obtain⟨n,ov,L,h95,h7,hn,hL,haL,hrL,F1,bS⟩:=hI;have zx:=bS.size;have lr:=hB.below bS hB.lt;have aOF:=hBr.below bS hBr.lt;have e2:wx.cell? ⟨b,2,none⟩=some (.slice sa l.length sc):=lr.cell rfl;have eb:wx.cell? ⟨rb,2,none⟩=some (.bool back):=aOF.cell rfl;have TN:=wC.2.1;push_cast -dsimp[h95,h7];refine⟨λaq=>?_,λeo=>?_⟩
 ·cases back with
  | true =>
   have tn:((l.length:Int)-1-n).toNat=l.length-1-n:=by omega
   have hkx:∃x,l[l.length-1-n]?=some x:=⟨l[l.length-1-n]'(by omega),List.getElem?_eq_getElem (by omega)⟩;obtain⟨x,hx⟩:=hkx;obtain⟨u,hu,Ss⟩:=aR.nth hV hx;obtain⟨b1,o,rfl,kL,aM⟩:=(hs.below bS).get hu;have c0:wx.cell? ⟨b1,o+(l.length-1-n),none⟩=some (.pointer (some ⟨u,0,none⟩)):=by simpa[fU,bx] using aM 0 _ rfl
   push_cast -dsimp[eb,e2,tn,c0,Nat.mul_one];refine⟨⟨by omega,by omega⟩,⟨by omega,by omega⟩,⟨by omega,by omega⟩,?_⟩;have jJ:=List.mem_of_getElem? hx;refine aA (cg x jJ (fz bI jJ) (by have:=wC.2.2 x jJ;omega) X wx rb mb us nm _ (h.below bS) _ (au.below Ss bS) ov L hL haL hrL (λj hj=>((F1 j).1 hj).1)) ?_;rintro r wy ⟨hO,gn⟩;have zy:=gn.size;have EU:Arg r:=hO.di;push_cast -dsimp;refine⟨⟨by omega,by omega⟩,⟨n+1,_,_,rfl,rfl,by omega,hO.sl.weaken (λ_ h=>h.elim),EU,cO _ _ _,λj=>?_,bS.trans (gn.mono zx)⟩,by rw[h95];simp only[intOf];omega⟩;rw[gM];refine and_congr Iff.rfl ?_;constructor
   ·rintro⟨m,hm,h2⟩;obtain⟨_,i,hi,h3⟩:=(F1 m).1 hm;exact⟨i,hi,(sS (by omega) hx).2 ⟨m,h3,h2⟩⟩
   rintro⟨i,hi,h3⟩;obtain⟨m,h4,h5⟩:=(sS (by omega) hx).1 h3;exact⟨m,(F1 m).2 ⟨by have:=Ps (by rw[fI];exact hle i hi) h4;rw[fI]at this;exact this,i,hi,h4⟩,h5⟩
  | false =>
   have hkx:∃x,l[n]?=some x:=⟨l[n]'(by omega),List.getElem?_eq_getElem (by omega)⟩;obtain⟨x,hx⟩:=hkx;obtain⟨u,hu,Ss⟩:=aR.nth hV hx;obtain⟨b1,o,rfl,kL,aM⟩:=(hs.below bS).get hu;have c0:wx.cell? ⟨b1,o+n,none⟩=some (.pointer (some ⟨u,0,none⟩)):=by simpa[fU,bx] using aM 0 _ rfl
   push_cast -dsimp[eb,e2,c0,Nat.mul_one];refine⟨⟨by omega,by omega⟩,?_⟩;have jJ:=List.mem_of_getElem? hx;refine aA (cg x jJ (fz bI jJ) (by have:=wC.2.2 x jJ;omega) X wx rb mb us nm _ (h.below bS) _ (au.below Ss bS) ov L hL haL hrL (λj hj=>((F1 j).1 hj).1)) ?_;rintro r wy ⟨hO,gn⟩;have zy:=gn.size;have EU:Arg r:=hO.di;push_cast -dsimp;refine⟨⟨by omega,by omega⟩,⟨n+1,_,_,rfl,rfl,by omega,hO.sl.weaken (λ_ h=>h.elim),EU,cO _ _ _,λj=>?_,bS.trans (gn.mono zx)⟩,by rw[h95];simp only[intOf];omega⟩;rw[gM];refine and_congr Iff.rfl ?_;constructor
   ·rintro⟨m,hm,h2⟩;obtain⟨_,i,hi,h3⟩:=(F1 m).1 hm;exact⟨i,hi,(sS (by omega) hx).2 ⟨m,h3,h2⟩⟩
   rintro⟨i,hi,h3⟩;obtain⟨m,h4,h5⟩:=(sS (by omega) hx).1 h3;exact⟨m,(F1 m).2 ⟨by have:=Ps (by rw[fI];exact hle i hi) h4;rw[fI]at this;exact this,i,hi,h4⟩,h5⟩
 have hnl:n=l.length:=by omega
 subst hnl;have hlL:=cU hrL (λj hj=>((F1 j).1 hj).1);have lg:∀j,j∈L↔j<=us.length/\∃i∈from_,fG (bC nm) (bJ us) back (.cat l) i j:=λj=>by
  rw[F1 j];refine and_congr Iff.rfl (exists_congr λi=>and_congr Iff.rfl Wv)
 have ym:=bS;have zF:=ym.size;refine aA (lQ L (by omega) (λ_=>False) _ (wx) hL haL) ?_;rintro vc wc ⟨yG,ng⟩;have zc:=ng.size;push_cast -dsimp;refine aA (lJ L (by omega) _ vc wc yG) ?_;rintro _ wd ⟨⟨m1,j6,Ei⟩,yp⟩;have zd:=yp.size;have tL:=lF j6;push_cast -dsimp;refine aA (fw m1 (by omega) _ vc wd Ei) ?_;rintro vr we ⟨⟨m2,dK,qt,vz⟩,eD⟩;have YX:=xu j6 dK lg;subst YX;push_cast -dsimp;exact⟨qt.mono zF,ym.trans ((ng.mono zF).trans ((yp.below (by omega) (λi h=>by have:=yG.block i h;omega)).trans (eD.below (by omega) (λi h=>by have:=yG.block i h;omega))))⟩
theorem aBA (l:List aG)(cg:∀x∈l,AB x):AB (.alt l):=by
 intro bI j8 X w rb mb us nm back h v hV fv from_ hf ha hr hle;have hlen:=h.len;have tL:=cU hr hle;have wC:=yZ (l:=l);have TN:=wC.2.1;simp only[au]at hV;simp only[bD]at bI;obtain⟨b,sv,vs,rfl,hb,hB,hs,hV⟩:=hV;have hvl:=hV.len;obtain⟨sa,sc,rfl,yI⟩:=hs.shape;rw[hvl]at hB hs yI;obtain⟨fa,fc,rfl,hfc⟩:=hf.shape;have d0:w.cell? ⟨b,0,none⟩=some (.int .i64 5):=hB.cell rfl;have d2:w.cell? ⟨b,2,none⟩=some (.slice sa l.length sc):=hB.cell rfl;refine aD Tryz.func60 rfl (by kernel_rfl) [6] rfl ?_;push_cast -dsimp(maxSteps:=9^7) [Tryz.ntmps60];push_cast -dsimp[d0,d2];refine aK [7,19,129,130,131,132,133,134,135,136,137,138,139] (λz wx=>∃(n:Nat) (ov:Value) (L:List Nat),z 129=.int .i64 n/\z 7=ov/\n<=l.length/\Vc.Own w.heap.size 3 1 aX wx ov L/\L.length<=n*(us.length+1)/\(∀j,j∈L↔j<=us.length/\∃i∈from_,∃y∈l.take n,fG (bC nm) (bJ us) back y i j)/\Below w.heap.size w wx) (λz _=>l.length-(intOf (z 129)).toNat) ?_ ?_
 ·exact⟨0,_,[],rfl,rfl,Nat.zero_le _,Vc.Own.nil (enc:=aX) _ _ (λ_=>rfl) _,by simp,λj=>by simp,Below.refl _ _⟩
 intro z wx hI;obtain⟨n,ov,L,aKt,h7,hn,hO,hlL,F1,bS⟩:=hI;have zx:=bS.size;have hnl:n*(us.length+1)<=l.length*(us.length+1):=Nat.mul_le_mul_right _ hn;have aVT:l.length*(us.length+1)<=100000*1001:=Nat.mul_le_mul (by omega) (by omega);push_cast -dsimp[aKt,h7];refine⟨λaq=>?_,λeo=>?_⟩
 ·obtain⟨x,hx,jJ,_,ht⟩:=ag (l:=l) (i:=n) (by omega);obtain⟨u,hu,Ss⟩:=aR.nth hV hx;obtain⟨b1,o,rfl,kL,aM⟩:=(hs.below bS).get hu;have c0:wx.cell? ⟨b1,o+n,none⟩=some (.pointer (some ⟨u,0,none⟩)):=by simpa[fU,bx] using aM 0 _ rfl
  push_cast -dsimp[c0,Nat.mul_one];refine⟨⟨by omega,by omega⟩,?_⟩;refine aA (cg x jJ (fz bI jJ) (by have:=wC.2.2 x jJ;omega) X wx rb mb us nm _ (h.below bS) _ (au.below Ss bS) _ from_ (hf.below bS) ha hr hle) ?_;rintro r wy ⟨ff,gn⟩;have zy:=gn.size;have EU:Arg r:=ff.di;have vg:=hO.below gn;have Af:=cU (cO us.length (fG (bC nm) (bJ us) back x) from_) (λj hj=>(gM.1 hj).1);have hn1:(n+1)*(us.length+1)=n*(us.length+1)+(us.length+1):=by rw[Nat.add_mul];omega
  push_cast -dsimp;refine mi (base:=w.heap.size) (enc:=aX) (ys:=kH us.length (fG (bC nm) (bJ us) back x) from_) ay vg (ff.sl) EU (by simp[aX,Value.oneCell']) (by omega) (by omega) ?_;intro v8 w8 hO8 E0 j5;push_cast -dsimp;refine⟨⟨by omega,by omega⟩,⟨n+1,_,_,rfl,rfl,by omega,hO8,by rw[List.length_append];omega,λj=>?_,(bS.trans (gn.mono zx)).trans (j5.mono (by omega))⟩,by rw[aKt];simp only[intOf];omega⟩;rw[List.mem_append,F1 j,gM,ht];constructor
  ·rintro(⟨h1,i,hi,y,hy,h2⟩|⟨h1,i,hi,h2⟩)
   ·exact⟨h1,i,hi,y,List.mem_append_left _ hy,h2⟩
   exact⟨h1,i,hi,x,by simp,h2⟩
  rintro⟨h1,i,hi,y,hy,h2⟩;rw[List.mem_append,List.mem_singleton]at hy;rcases hy with hy|rfl
  ·exact .inl ⟨h1,i,hi,y,hy,h2⟩
  exact .inr ⟨h1,i,hi,h2⟩
 have hnl:n=l.length:=by omega
 subst hnl;rw[List.take_length]at F1;have lg:∀j,j∈L↔j<=us.length/\∃i∈from_,fG (bC nm) (bJ us) back (.alt l) i j:=λj=>by
  rw[F1 j];refine and_congr Iff.rfl (exists_congr λi=>and_congr Iff.rfl ?_);simp only[fG];rw[aAg]
 have ym:=bS;have zF:=ym.size;refine aA (lQ L (by omega) (λ_=>False) _ (wx) (hO.sl.weaken (λ_ h=>h.elim)) hO.di) ?_;rintro vc wc ⟨yG,ng⟩;have zc:=ng.size;push_cast -dsimp;refine aA (lJ L (by omega) _ vc wc yG) ?_;rintro _ wd ⟨⟨m1,j6,Ei⟩,yp⟩;have zd:=yp.size;have tL:=lF j6;push_cast -dsimp;refine aA (fw m1 (by omega) _ vc wd Ei) ?_;rintro vr we ⟨⟨m2,dK,qt,vz⟩,eD⟩;have YX:=xu j6 dK lg;subst YX;push_cast -dsimp;exact⟨qt.mono zF,ym.trans ((ng.mono zF).trans ((yp.below (by omega) (λi h=>by have:=yG.block i h;omega)).trans (eD.below (by omega) (λi h=>by have:=yG.block i h;omega))))⟩
end Go.Proofs.YtemjejfpadnljaaGreatDoor
namespace Go.Vc
open Go.RowKit
section
variable {P:Program} {t:Fr} {w:World} {K:VK} {Q:EP}
theorem pj {α:Type}{bt ty e:TypeId}{k bytes base:Nat}{enc:α->List Value}{X:Nat->Prop}{v x:Value}{l ys:List α}{p}(hE:Bd P bt=some (e,k,bytes))(gj:Vc.Own base e k enc w v l)(hx:Sl X k (En enc) w x ys)
  (uN:∀n c,x=.slice none n c->n=0/\c=0) (h1:∀x,∀u∈enc x,u.oneCell'=true)
  (hm:(l.length+ys.length)*bytes<=140737488355328) (rS:base<=w.heap.size)
  (kk:∀v' w',Vc.Own base e k enc w' v' (l++ys)->w.grownBy w' v.ownBlock->Below base w w'->(∀g,v'.ownBlock=some g->v.ownBlock=some g\/w.heap.size<=g)->K v' w'):ak P (Builtin.append_ #[bt,bt] ty [v,x].toArray) t w K Q p:=by
 obtain⟨hu,i,z,hi,hz,rfl,rfl,OH,hk,gn⟩:=nE hE;have hlen:∀(ys:List α),(ys.flatMap enc).length=ys.length*i.size:=by
  intro ys;induction ys with
  | nil=>simp
  | cons y ys ih=>simp[List.flatMap_cons,gj.2,ih,Nat.add_mul];omega
 have hle:l.length+ys.length<=140737488355328:=Nat.le_trans (Nat.le_mul_of_pos_right _ gn) hm;unfold Sl at hx;obtain⟨a,c,rfl,hc,tf⟩:=hx;cases a with
 | none =>
  obtain⟨h0,rfl⟩:=uN _ _ rfl;have:ys=[]:=List.eq_nil_of_length_eq_zero h0;subst this;have hr:=run_append_owned_none (P:=P) w base bt ty e i i.size hu hi v l.length (l.flatMap enc) gj.1;refine fN (w':=w) (v:=v) hr (kk v w (by rw[List.append_nil];exact gj) ⟨rfl,rfl,rfl,Nat.le_refl _,λ_ _ _=>rfl⟩ (Below.refl _ _) (λg hg=>.inl hg))
 | some ad =>
  have hy:∀j u,(ys.flatMap enc)[j]?=some u->w.cell? (ad.add j)=some u:=by
   intro j u hj;have hjl:=(List.getElem?_eq_some_iff.1 hj).1;rw[hlen]at hjl;have hq:j / i.size<ys.length:=Nat.div_lt_of_lt_mul (by rw[Nat.mul_comm];exact hjl);have hy0:ys[j / i.size]?=some ys[j / i.size]:=List.getElem?_eq_getElem hq;obtain⟨b,o,cs,hb,_,il,aM,rfl⟩:=tf _ _ hy0;cases hb;have hr:j % i.size<(enc ys[j / i.size]).length:=by rw[il];exact Nat.mod_lt _ hk
   have hg:=lR gj.2 ys (j / i.size) (j % i.size) _ _ hy0 (List.getElem?_eq_getElem hr);have ej:j / i.size*i.size+j % i.size=j:=by rw[Nat.mul_comm];exact Nat.div_add_mod j i.size
   rw[ej,hj]at hg
   have:=aM _ _ (List.getElem?_eq_getElem hr);rw[add_lit];rw[Nat.add_assoc,ej]at this;rw[this,hg]
  obtain⟨v',w',hr,ho,hg,_⟩:=run_append_own (P:=P) w base bt ty e i z i.size i.bytes hu hi hz rfl rfl OH hk v l.length (l.flatMap enc) gj.1 ad ys.length c (ys.flatMap enc) (hlen ys)
   hy (λu JV=>by obtain⟨x,_,hx⟩:=List.mem_flatMap.1 JV;exact h1 x u hx) (by simp only[maxLen];omega) hm rS
  have yk:∀u∈ys.flatMap enc,u.oneCell'=true:=λu JV=>by obtain⟨x,_,hx⟩:=List.mem_flatMap.1 JV;exact h1 x u hx
  refine fN hr (kk v' w' ⟨by simpa[List.flatMap_append] using ho,gj.2⟩ hg ((Below.refl _ _).grown hg rS λk hk=>(gj.1.lt k hk).1) ?_);intro g' x6;rcases gj.1.2 with ⟨rfl,h0⟩|⟨g,cap,cur,rfl,hbg,K7,x7,s9,il,aMp⟩
  ·have hl:l=[]:=List.eq_nil_of_length_eq_zero h0;subst hl;have Ya:w.ownsRow w.heap.size e i.size (.slice none 0 0) 0 []:=World.ownsRow_nil _ _ _ _;obtain⟨v2,w2,rZ,ln,_,_⟩:=run_append_own (P:=P) w w.heap.size bt ty e i z i.size i.bytes hu hi hz rfl rfl OH hk _ 0 [] Ya ad ys.length c (ys.flatMap enc) (hlen ys)
    hy yk (by simp only[maxLen];omega) (by simpa using hm) (Nat.le_refl _)
   have:=hr.symm.trans rZ;cases this;exact .inr (ln.lt g' x6).1
  by_cases Yd:l.length+ys.length<=cap
  ·obtain⟨w2,rZ,_⟩:=run_append_fits (P:=P) (w:=w) base bt ty e i i.size hu hi rfl g l.length cap (l.flatMap enc) gj.1 ad ys.length c (ys.flatMap enc) (hlen ys) hy yk Yd
   have:=hr.symm.trans rZ;cases this;exact .inl x6
  have rZ:=run_append_grow (P:=P) w bt ty e i z hu hi hz ⟨g,0,none⟩ l.length cap (l.flatMap enc) gj.1.1 (gj.1.cells (g:=g) rfl) ad ys.length c (ys.flatMap enc) (hlen ys) hy (by omega) (by omega) (growslice_fits (by omega) hm)
  have:=hr.symm.trans rZ;cases this;simp only[Value.ownBlock,Option.some.injEq]at x6;exact .inr (by omega)
end
end Go.Vc
namespace Cae
section
variable {has:bB->Int->Prop} {az:List Int} {back:Bool}
theorem aIK {x:aG}{l:List Nat}{n j:Nat}(hl:∀i∈l,i<=az.length)(h:stM (fG has az back x) l n j):j<=az.length:=by
 obtain⟨i,hi,h⟩:=h;exact wL (λa b ha hr=>sB x ha hr) (hl i hi) h
theorem jM {x:aG}{lo k N:Nat}{hi:Int}{from_ M:List Nat}(hM:∀j,j∈M↔j<=N/\∃s,s<=k/\stM (fG has az back x) from_ (lo+s) j)(hk:hi<0\/((lo+k:Nat):Int)<=hi)
  (Hp:∀t j,(hi<0\/((lo+t:Nat):Int)<=hi)->stM (fG has az back x) from_ (lo+t) j->∃s,s<=k/\stM (fG has az back x) from_ (lo+s) j):∀j,j∈M↔j<=N/\∃i∈from_,fG has az back (.many x (lo:Int) hi) i j:=λj=>by
 rw[hM j,ZO];refine and_congr Iff.rfl ?_;constructor
 ·rintro⟨s,hs,h⟩;exact⟨s,by rcases hk with hk|hk<;>omega,h⟩
 rintro⟨t,ht,h⟩;exact Hp t j ht h
end
theorem xK {l m:List Nat}(hl:l.Pairwise (·<·))(hm:m.Pairwise (·<·))(h:∀x∈l,x∈m):l.length<=m.length:=by
 have e:l=m.filter λx=>decide (x∈l):=xJ hl (List.Pairwise.filter _ hm) λx=>by
  rw[List.mem_filter,decide_eq_true_iff];exact⟨λhx=>⟨h x hx,hx⟩,λhx=>hx.2⟩
 rw[e];exact List.length_filter_le _ _
end Cae
namespace Go.Proofs.YtemjejfpadnljaaGreatDoor
open Go.Vc Go.Proofs Go.RowKit Cae
attribute [local irreducible] dN ae ak aY runK aw Sl Vc.Own vc aV cJ a7
theorem r7 {N:Nat}{R:Nat->Nat->Prop}{from_ L:List Nat}{t:Nat}(h:∀j,j∈L↔j<=N/\stM R from_ t j)(hle:∀j,stM R from_ t j->j<=N):∀j,j∈kH N R L↔j<=N/\stM R from_ (t+1) j:=λj=>by
 rw[gM,nX];refine and_congr Iff.rfl ?_;constructor
 ·rintro⟨m,hm,h2⟩;exact⟨m,((h m).1 hm).2,h2⟩
 rintro⟨m,hm,h2⟩;exact⟨m,(h m).2 ⟨hle m hm,hm⟩,h2⟩
def Tn:Value->Nat
 | .slice _ n _=>n
 | _=>0
theorem wW {L m1 m2:List Nat}(h1:bM m1=((bM L).mergeSort λx y=>decide (x<=y)))(h2:bM m2=Lib.compact (bM m1)):m2.Pairwise (·<·)/\∀x,x∈m2↔x∈L:=by
 obtain⟨m,e,hp,lg⟩:=sH L;rw[<-h1,<-h2]at e;have e:=Fc e;subst e;exact⟨hp,lg⟩
theorem aIi (x:aG)(lo:Nat)(hi:Int)(hx:AB x)(bI:bD x)(j8:wd x<=100000)(Ag:lo<100)(Ve:hi<100)(hlh:hi<0\/(lo:Int)<=hi)(X:Nat->Prop)(w:World)(rb mb:Nat)(us:List U)(nm:bK)(back:Bool)(h:Mr X w rb mb us nm back)(v:Value)(hV:au X w v (.many x lo hi))
  (fv:Value) (from_:List Nat) (hf:Sl (λ_=>False) 1 (En aX) w fv from_) (ha:Arg fv) (hr:from_.Pairwise (·<·)) (hle:∀i∈from_,i<=us.length) :
  aw Tryz.prog 98 [.pointer (some ⟨rb,0,none⟩),v,fv] w λr w'=>(∃M,Vc.Own w.heap.size 3 1 aX w' r M/\M.length<=1001/\∀j,j∈M↔j<=us.length/\∃i∈from_,fG (bC nm) (bJ us) back (.many x lo hi) i j)/\Below w.heap.size w w':=by
 have hlen:=h.len;have tL:=cU hr hle;have AV:=fI us;have uT:∀t j,stM (fG (bC nm) (bJ us) back x) from_ t j->j<=us.length:=λt j hj=>by have:=aIK (by rw[AV];exact hle) hj;rw[AV]at this;exact this
 simp only[au]at hV;obtain⟨b,sv,u,rfl,hb,hB,hs,hV⟩:=hV;obtain⟨sa,sc,rfl,yI⟩:=hs.shape;obtain⟨b1,o,rfl,kL,aM⟩:=hs.get (i:=0) (x:=u) rfl;obtain⟨fa,fc,rfl,hfc⟩:=hf.shape;have d2:∀w',Below w.heap.size w w'->w'.cell? ⟨b,2,none⟩=some (.slice (some ⟨b1,o,none⟩) 1 sc):=λw' hb=>(hB.below hb hB.lt).cell rfl;have d3:∀w',Below w.heap.size w w'->w'.cell? ⟨b,3,none⟩=some (.int .i64 lo):=λw' hb=>(hB.below hb hB.lt).cell rfl;have d4:∀w',Below w.heap.size w w'->w'.cell? ⟨b,4,none⟩=some (.int .i64 hi):=λw' hb=>(hB.below hb hB.lt).cell rfl;have cx:∀w',Below w.heap.size w w'->w'.cell? ⟨b1,o,none⟩=some (.pointer (some ⟨u,0,none⟩)):=λw' hb=>(hb.cell (World.block_lt_of_cell? w _ (aM 0 _ rfl))).trans (by simpa[fU,bx] using aM 0 _ rfl);have hrf:=Below.refl w.heap.size w;refine aD Tryz.func98 rfl (by kernel_rfl) [6] rfl ?_;push_cast -dsimp(maxSteps:=9^7) [Tryz.ntmps98];push_cast -dsimp[d3 _ hrf];refine aK [7,8,17,18,19,20,21,22,23,24,25,26,27,28,29,30,31,32] (λz wx=>∃(t:Nat) (ov:Value) (L:List Nat),z 17=.int .i64 t/\z 7=ov/\t<=lo/\Sl (λ_=>False) 1 (En aX) wx ov L/\Arg ov/\L.Pairwise (·<·)/\(∀j,j∈L↔j<=us.length/\stM (fG (bC nm) (bJ us) back x) from_ t j)/\Below w.heap.size w wx) (λz _=>lo-(intOf (z 17)).toNat) ?_ ?_
 ·refine⟨0,_,from_,rfl,rfl,Nat.zero_le _,hf,ha,hr,λj=>?_,Below.refl _ _⟩;constructor
  ·intro hj;exact⟨hle j hj,j,hj,rfl⟩
  rintro⟨_,i,hi,h2⟩;have h2:i=j:=h2;rw[<-h2];exact hi
 intro z wx hI;obtain⟨t,ov,L,h17,h7,ht,hL,haL,hrL,F1,bS⟩:=hI;have zx:=bS.size;push_cast -dsimp[h17,h7,d2 _ bS,cx _ bS];refine⟨λaq=>?_,λeo=>?_⟩
 ·refine aA (hx bI j8 X wx rb mb us nm _ (h.below bS) _ (au.below hV bS) ov L hL haL hrL (λj hj=>((F1 j).1 hj).1)) ?_;rintro r wy ⟨hO,gn⟩;have zy:=gn.size;have lY:=bS.trans (gn.mono zx);have Af:=cU (cO us.length (fG (bC nm) (bJ us) back x) L) (λj hj=>(gM.1 hj).1);have Hv:=r7 F1 (uT t);push_cast -dsimp;refine aA (Jy (kH us.length (fG (bC nm) (bJ us) back x) L) L (by omega) _ _ r ov wy hO.sl (hL.below gn)) ?_;rintro _ w4 ⟨rfl,kK⟩;by_cases heq:kH us.length (fG (bC nm) (bJ us) back x) L=L
  ·rw[decide_eq_true heq];have Yf:∀j,stM (fG (bC nm) (bJ us) back x) from_ (t+1) j↔stM (fG (bC nm) (bJ us) back x) from_ t j:=λj=>by
    have h1:=Hv j;rw[heq,F1 j]at h1;constructor
    ·intro hh;exact(h1.2 ⟨uT _ j hh,hh⟩).2
    intro hh;exact(h1.1 ⟨uT _ j hh,hh⟩).2
   have hmR:∀j,j∈kH us.length (fG (bC nm) (bJ us) back x) L↔j<=us.length/\stM (fG (bC nm) (bJ us) back x) from_ lo j:=λj=>by
    rw[Hv j,Yf j]
    have:=Iy Yf (lo-t) j;rw[show t+(lo-t)=lo by omega]at this
    rw[this]
   have ir:=lY.trans (kK.mono (by omega));have hS4:Sl (λ_=>False) 1 (En aX) w4 r (kH us.length (fG (bC nm) (bJ us) back x) L):=(hO.sl.weaken (λ_ h=>h.elim)).below kK;push_cast -dsimp;have hbR:=ir;have zR:=hbR.size;have hlR:=cU (cO _ _ _) (λj hj=>((hmR j).1 hj).1);refine aA (lQ (kH us.length (fG (bC nm) (bJ us) back x) L) (by omega) (λ_=>False) r (w4) hS4 hO.di) ?_;rintro vo wo ⟨hOo,hbo⟩;have zo:=hbo.size;have YQ:=hbR.trans (hbo.mono zR);push_cast -dsimp[d3 _ YQ];refine aK [7,9,10,11,39,40,41,42,43,44,45,46,47,48,49,50,51,52,53,54,55,56,57,58,59,60,61,62,63,64,65,66,67,68,69,70,71,72,73,74,75,76,77,78,79,80,81,82,83,84,85,86,87] (λz wx=>∃(k:Nat) (nv:Value) (N1:List Nat) (ov:Value) (M:List Nat),z 10=.int .i64 ((lo+k:Nat):Int)/\z 7=nv/\z 9=ov/\Sl (λ_=>False) 1 (En aX) wx nv N1/\Arg nv/\N1.Pairwise (·<·)/\(∀j,j∈N1↔j<=us.length/\stM (fG (bC nm) (bJ us) back x) from_ (lo+k) j)/\Vc.Own w.heap.size 3 1 aX wx ov M/\M.Pairwise (·<·)/\(∀j,j∈M↔j<=us.length/\∃s,s<=k/\stM (fG (bC nm) (bJ us) back x) from_ (lo+s) j)/\(hi<0\/((lo+k:Nat):Int)<=hi)/\(hi<0->k<=M.length)/\Below w.heap.size w wx) (λz _=>if hi<0 then us.length+2-Tn (z 9) else (hi-intOf (z 10)).toNat) ?_ ?_
   ·refine⟨0,_,(kH us.length (fG (bC nm) (bJ us) back x) L),_,(kH us.length (fG (bC nm) (bJ us) back x) L),rfl,rfl,rfl,(hS4).below hbo,hO.di,(cO _ _ _),hmR,hOo.mono zR,(cO _ _ _),λj=>?_,hlh,λ_=>Nat.zero_le _,YQ⟩;rw[hmR j];refine and_congr Iff.rfl ?_;constructor
    ·intro hh;exact⟨0,Nat.le_refl _,hh⟩
    rintro⟨s,hs,hh⟩;have:s=0:=by omega
    subst this;exact hh
   intro z wx hI;obtain⟨k,nv,N1,ov,M,uH,h7,h9,hN1,haN,hrN,Nw,hO,Yc,Hu,Ae,hkM,bS⟩:=hI;have zx:=bS.size;have hlN:=cU hrN (λj hj=>((Nw j).1 hj).1);have hlM:=cU Yc (λj hj=>((Hu j).1 hj).1);have eN:=hN1.shape;obtain⟨na,nc,rfl,_⟩:=eN;have eN:=hO.slice;obtain⟨oa,oc,rfl⟩:=eN;push_cast -dsimp[uH,h7,h9,d4 _ bS,d2 _ bS,cx _ bS];refine⟨λvw=>⟨λBv=>⟨λqB=>?_,λhz=>?_⟩,λEa=>?_⟩,λvw=>⟨λqB=>?_,λhz=>?_⟩⟩
   ·skip;refine aA (hx bI j8 X wx rb mb us nm _ (h.below bS) _ (au.below hV bS) _ N1 hN1 haN hrN (λj hj=>((Nw j).1 hj).1)) ?_;rintro r wy ⟨ff,gn⟩;have zy:=gn.size;have lY:=bS.trans (gn.mono zx);have aHl:=cU (cO us.length (fG (bC nm) (bJ us) back x) N1) (λj hj=>(gM.1 hj).1);have Hv:=r7 Nw (uT (lo+k));have EU:Arg r:=ff.di;have vg:=hO.below gn;push_cast -dsimp;refine pj (base:=w.heap.size) (enc:=aX) (ys:=kH us.length (fG (bC nm) (bJ us) back x) N1) ay vg (ff.sl) EU (by simp[aX,Value.oneCell']) (by omega) (by omega) ?_;intro v5 w5 kF tM jq yr;have z5:=jq.size;have pz:=lY.trans (jq.mono (by omega));have Y2:(M++kH us.length (fG (bC nm) (bJ us) back x) N1).length<=3000:=by rw[List.length_append];omega
    push_cast -dsimp;refine aA (lJ _ (by omega) _ v5 w5 kF) ?_;rintro _ w6 ⟨⟨m1,j6,tI⟩,yo⟩;have z6:=yo.size;have aHh:=lF j6;push_cast -dsimp;refine aA (fw m1 (by omega) _ v5 w6 tI) ?_;rintro v7 w7 ⟨⟨m2,dK,vf,vz⟩,ll⟩;have z7:=ll.size;obtain⟨nN,Bx⟩:=wW j6 dK;have jU:Below w.heap.size w w7:=pz.trans ((yo.below (by omega) (λi h=>(kF.block i h).1)).trans (ll.below (by omega) (λi h=>(kF.block i h).1)));have Ni:=ff.aH (Kept.grown tM (X:=λj=>(Value.slice oa M.length oc).ownBlock=some j) (λ_ h=>h)) (λg hg hh=>by have:=ff.block g hg;have:=hO.block g hh;omega);have Bz:∀g,r.ownBlock=some g->v5.ownBlock≠some g:=λg hg hh=>by
     have h1:=ff.block g hg;rcases yr g hh with h2|h2
     ·have:=hO.block g h2;omega
     omega
    have Nj:=(Ni.aH yo (λg hg hh=>Bz g hg hh)).aH ll (λg hg hh=>Bz g hg hh);have YC:Sl (λ_=>False) 1 (En aX) w7 r (kH us.length (fG (bC nm) (bJ us) back x) N1):=Nj.sl.weaken (λ_ h=>h.elim);have nK:∀j,j∈m2↔j<=us.length/\∃s,s<=k+1/\stM (fG (bC nm) (bJ us) back x) from_ (lo+s) j:=λj=>by
     rw[Bx,List.mem_append,Hu j,Hv j];constructor
     ·rintro(⟨h1,s,h2,h3⟩|⟨h1,h2⟩)
      ·exact⟨h1,s,by omega,h3⟩
      exact⟨h1,k+1,Nat.le_refl _,h2⟩
     rintro⟨h1,s,h2,h3⟩;by_cases hs:s=k+1
     ·subst hs;exact .inr ⟨h1,h3⟩
     exact .inl ⟨h1,s,by omega,h3⟩
    have CF:∀y∈M,y∈m2:=λy hy=>(Bx y).2 (List.mem_append_left _ hy);have aHw:=xK Yc nN CF;have oX:=cU nN (λj hj=>((nK j).1 hj).1);have eN:=vf.slice;obtain⟨o7,c7,rfl⟩:=eN;push_cast -dsimp[d4 _ jU];have CK:(Value.int .i64 ((lo:Int)+k+1))=.int .i64 ((lo+(k+1):Nat):Int):=by
     congr 1
    refine⟨λiK=>⟨λoY=>?_,λTQ=>⟨⟨by omega,by have:=hkM iK;omega⟩,?_,?_⟩⟩,λKk=>⟨⟨by omega,by omega⟩,?_,?_⟩⟩
    ·have heq:=sr Yc nN CF (by omega);refine⟨⟨m2,vf,by omega,jM nK (.inl iK) λt j ht bm=>?_⟩,jU⟩
     have:=sJ (a:=lo) (k:=k) (λj hj=>by
      have h1:j∈m2:=(nK j).2 ⟨uT _ j hj,k+1,Nat.le_refl _,hj⟩;rw[<-heq]at h1;exact((Hu j).1 h1).2) t j bm
     obtain⟨s,hs,h2⟩:=this;exact⟨s,by omega,h2⟩
    ·exact⟨k+1,_,_,_,m2,CK,rfl,rfl,YC,EU,cO _ _ _,Hv,vf,nN,nK,.inl iK,(λ_=>by have:=hkM iK;omega),jU⟩
    ·rw[h9,uH];simp only[if_pos iK,Tn];omega
    ·exact⟨k+1,_,_,_,m2,CK,rfl,rfl,YC,EU,cO _ _ _,Hv,vf,nN,nK,.inr (by omega),(λhh=>absurd hh Kk),jU⟩
    rw[h9,uH];simp only[if_neg Kk,intOf];omega
   ·skip;refine⟨⟨M,hO,by omega,jM Hu Ae λt j ht bm=>?_⟩,bS⟩;by_cases JU:t<k
    ·exact⟨t,by omega,bm⟩
    have ep:∀j,¬stM (fG (bC nm) (bJ us) back x) from_ (lo+k) j:=λj hj=>by
     have hm:=(Nw j).2 ⟨uT _ j hj,hj⟩;have:N1=[]:=List.eq_nil_of_length_eq_zero (by omega);rw[this]at hm;cases hm
    have:=sK ep (t-k) j;rw[show lo+k+(t-k)=lo+t by omega]at this
    exact absurd bm this
   ·refine⟨⟨M,hO,by omega,jM Hu Ae λt j ht bm=>?_⟩,bS⟩;rcases ht with ht|ht
    ·omega
    exact⟨t,by omega,bm⟩
   ·skip;refine aA (hx bI j8 X wx rb mb us nm _ (h.below bS) _ (au.below hV bS) _ N1 hN1 haN hrN (λj hj=>((Nw j).1 hj).1)) ?_;rintro r wy ⟨ff,gn⟩;have zy:=gn.size;have lY:=bS.trans (gn.mono zx);have aHl:=cU (cO us.length (fG (bC nm) (bJ us) back x) N1) (λj hj=>(gM.1 hj).1);have Hv:=r7 Nw (uT (lo+k));have EU:Arg r:=ff.di;have vg:=hO.below gn;push_cast -dsimp;refine pj (base:=w.heap.size) (enc:=aX) (ys:=kH us.length (fG (bC nm) (bJ us) back x) N1) ay vg (ff.sl) EU (by simp[aX,Value.oneCell']) (by omega) (by omega) ?_;intro v5 w5 kF tM jq yr;have z5:=jq.size;have pz:=lY.trans (jq.mono (by omega));have Y2:(M++kH us.length (fG (bC nm) (bJ us) back x) N1).length<=3000:=by rw[List.length_append];omega
    push_cast -dsimp;refine aA (lJ _ (by omega) _ v5 w5 kF) ?_;rintro _ w6 ⟨⟨m1,j6,tI⟩,yo⟩;have z6:=yo.size;have aHh:=lF j6;push_cast -dsimp;refine aA (fw m1 (by omega) _ v5 w6 tI) ?_;rintro v7 w7 ⟨⟨m2,dK,vf,vz⟩,ll⟩;have z7:=ll.size;obtain⟨nN,Bx⟩:=wW j6 dK;have jU:Below w.heap.size w w7:=pz.trans ((yo.below (by omega) (λi h=>(kF.block i h).1)).trans (ll.below (by omega) (λi h=>(kF.block i h).1)));have Ni:=ff.aH (Kept.grown tM (X:=λj=>(Value.slice oa M.length oc).ownBlock=some j) (λ_ h=>h)) (λg hg hh=>by have:=ff.block g hg;have:=hO.block g hh;omega);have Bz:∀g,r.ownBlock=some g->v5.ownBlock≠some g:=λg hg hh=>by
     have h1:=ff.block g hg;rcases yr g hh with h2|h2
     ·have:=hO.block g h2;omega
     omega
    have Nj:=(Ni.aH yo (λg hg hh=>Bz g hg hh)).aH ll (λg hg hh=>Bz g hg hh);have YC:Sl (λ_=>False) 1 (En aX) w7 r (kH us.length (fG (bC nm) (bJ us) back x) N1):=Nj.sl.weaken (λ_ h=>h.elim);have nK:∀j,j∈m2↔j<=us.length/\∃s,s<=k+1/\stM (fG (bC nm) (bJ us) back x) from_ (lo+s) j:=λj=>by
     rw[Bx,List.mem_append,Hu j,Hv j];constructor
     ·rintro(⟨h1,s,h2,h3⟩|⟨h1,h2⟩)
      ·exact⟨h1,s,by omega,h3⟩
      exact⟨h1,k+1,Nat.le_refl _,h2⟩
     rintro⟨h1,s,h2,h3⟩;by_cases hs:s=k+1
     ·subst hs;exact .inr ⟨h1,h3⟩
     exact .inl ⟨h1,s,by omega,h3⟩
    have CF:∀y∈M,y∈m2:=λy hy=>(Bx y).2 (List.mem_append_left _ hy);have aHw:=xK Yc nN CF;have oX:=cU nN (λj hj=>((nK j).1 hj).1);have eN:=vf.slice;obtain⟨o7,c7,rfl⟩:=eN;push_cast -dsimp[d4 _ jU];have CK:(Value.int .i64 ((lo:Int)+k+1))=.int .i64 ((lo+(k+1):Nat):Int):=by
     congr 1
    refine⟨λiK=>⟨λoY=>?_,λTQ=>⟨⟨by omega,by have:=hkM iK;omega⟩,?_,?_⟩⟩,λKk=>⟨⟨by omega,by omega⟩,?_,?_⟩⟩
    ·have heq:=sr Yc nN CF (by omega);refine⟨⟨m2,vf,by omega,jM nK (.inl iK) λt j ht bm=>?_⟩,jU⟩
     have:=sJ (a:=lo) (k:=k) (λj hj=>by
      have h1:j∈m2:=(nK j).2 ⟨uT _ j hj,k+1,Nat.le_refl _,hj⟩;rw[<-heq]at h1;exact((Hu j).1 h1).2) t j bm
     obtain⟨s,hs,h2⟩:=this;exact⟨s,by omega,h2⟩
    ·exact⟨k+1,_,_,_,m2,CK,rfl,rfl,YC,EU,cO _ _ _,Hv,vf,nN,nK,.inl iK,(λ_=>by have:=hkM iK;omega),jU⟩
    ·rw[h9,uH];simp only[if_pos iK,Tn];omega
    ·exact⟨k+1,_,_,_,m2,CK,rfl,rfl,YC,EU,cO _ _ _,Hv,vf,nN,nK,.inr (by omega),(λhh=>absurd hh Kk),jU⟩
    rw[h9,uH];simp only[if_neg Kk,intOf];omega
   skip;refine⟨⟨M,hO,by omega,jM Hu Ae λt j ht bm=>?_⟩,bS⟩;by_cases JU:t<k
   ·exact⟨t,by omega,bm⟩
   have ep:∀j,¬stM (fG (bC nm) (bJ us) back x) from_ (lo+k) j:=λj hj=>by
    have hm:=(Nw j).2 ⟨uT _ j hj,hj⟩;have:N1=[]:=List.eq_nil_of_length_eq_zero (by omega);rw[this]at hm;cases hm
   have:=sK ep (t-k) j;rw[show lo+k+(t-k)=lo+t by omega]at this
   exact absurd bm this
  rw[decide_eq_false heq];push_cast -dsimp;exact⟨⟨by omega,by omega⟩,⟨t+1,_,_,rfl,rfl,by omega,(hO.sl.weaken (λ_ h=>h.elim)).below kK,hO.di,cO _ _ _,Hv,lY.trans (kK.mono (by omega))⟩,by rw[h17];simp only[intOf];omega⟩
 have Mj:t=lo:=by omega
 rw[Mj]at F1;have hbR:=bS;have zR:=hbR.size;have hlR:=cU hrL (λj hj=>((F1 j).1 hj).1);refine aA (lQ L (by omega) (λ_=>False) ov (wx) hL haL) ?_;rintro vo wo ⟨hOo,hbo⟩;have zo:=hbo.size;have YQ:=hbR.trans (hbo.mono zR);push_cast -dsimp[d3 _ YQ];refine aK [7,9,10,11,39,40,41,42,43,44,45,46,47,48,49,50,51,52,53,54,55,56,57,58,59,60,61,62,63,64,65,66,67,68,69,70,71,72,73,74,75,76,77,78,79,80,81,82,83,84,85,86,87] (λz wx=>∃(k:Nat) (nv:Value) (N1:List Nat) (ov:Value) (M:List Nat),z 10=.int .i64 ((lo+k:Nat):Int)/\z 7=nv/\z 9=ov/\Sl (λ_=>False) 1 (En aX) wx nv N1/\Arg nv/\N1.Pairwise (·<·)/\(∀j,j∈N1↔j<=us.length/\stM (fG (bC nm) (bJ us) back x) from_ (lo+k) j)/\Vc.Own w.heap.size 3 1 aX wx ov M/\M.Pairwise (·<·)/\(∀j,j∈M↔j<=us.length/\∃s,s<=k/\stM (fG (bC nm) (bJ us) back x) from_ (lo+s) j)/\(hi<0\/((lo+k:Nat):Int)<=hi)/\(hi<0->k<=M.length)/\Below w.heap.size w wx) (λz _=>if hi<0 then us.length+2-Tn (z 9) else (hi-intOf (z 10)).toNat) ?_ ?_
 ·refine⟨0,_,L,_,L,rfl,rfl,rfl,(hL).below hbo,haL,hrL,F1,hOo.mono zR,hrL,λj=>?_,hlh,λ_=>Nat.zero_le _,YQ⟩;rw[F1 j];refine and_congr Iff.rfl ?_;constructor
  ·intro hh;exact⟨0,Nat.le_refl _,hh⟩
  rintro⟨s,hs,hh⟩;have:s=0:=by omega
  subst this;exact hh
 intro z wx hI;obtain⟨k,nv,N1,ov,M,uH,h7,h9,hN1,haN,hrN,Nw,hO,Yc,Hu,Ae,hkM,bS⟩:=hI;have zx:=bS.size;have hlN:=cU hrN (λj hj=>((Nw j).1 hj).1);have hlM:=cU Yc (λj hj=>((Hu j).1 hj).1);have eN:=hN1.shape;obtain⟨na,nc,rfl,_⟩:=eN;have eN:=hO.slice;obtain⟨oa,oc,rfl⟩:=eN;push_cast -dsimp[uH,h7,h9,d4 _ bS,d2 _ bS,cx _ bS];refine⟨λvw=>⟨λBv=>⟨λqB=>?_,λhz=>?_⟩,λEa=>?_⟩,λvw=>⟨λqB=>?_,λhz=>?_⟩⟩
 ·skip;refine aA (hx bI j8 X wx rb mb us nm _ (h.below bS) _ (au.below hV bS) _ N1 hN1 haN hrN (λj hj=>((Nw j).1 hj).1)) ?_;rintro r wy ⟨ff,gn⟩;have zy:=gn.size;have lY:=bS.trans (gn.mono zx);have aHl:=cU (cO us.length (fG (bC nm) (bJ us) back x) N1) (λj hj=>(gM.1 hj).1);have Hv:=r7 Nw (uT (lo+k));have EU:Arg r:=ff.di;have vg:=hO.below gn;push_cast -dsimp;refine pj (base:=w.heap.size) (enc:=aX) (ys:=kH us.length (fG (bC nm) (bJ us) back x) N1) ay vg (ff.sl) EU (by simp[aX,Value.oneCell']) (by omega) (by omega) ?_;intro v5 w5 kF tM jq yr;have z5:=jq.size;have pz:=lY.trans (jq.mono (by omega));have Y2:(M++kH us.length (fG (bC nm) (bJ us) back x) N1).length<=3000:=by rw[List.length_append];omega
  push_cast -dsimp;refine aA (lJ _ (by omega) _ v5 w5 kF) ?_;rintro _ w6 ⟨⟨m1,j6,tI⟩,yo⟩;have z6:=yo.size;have aHh:=lF j6;push_cast -dsimp;refine aA (fw m1 (by omega) _ v5 w6 tI) ?_;rintro v7 w7 ⟨⟨m2,dK,vf,vz⟩,ll⟩;have z7:=ll.size;obtain⟨nN,Bx⟩:=wW j6 dK;have jU:Below w.heap.size w w7:=pz.trans ((yo.below (by omega) (λi h=>(kF.block i h).1)).trans (ll.below (by omega) (λi h=>(kF.block i h).1)));have Ni:=ff.aH (Kept.grown tM (X:=λj=>(Value.slice oa M.length oc).ownBlock=some j) (λ_ h=>h)) (λg hg hh=>by have:=ff.block g hg;have:=hO.block g hh;omega);have Bz:∀g,r.ownBlock=some g->v5.ownBlock≠some g:=λg hg hh=>by
   have h1:=ff.block g hg;rcases yr g hh with h2|h2
   ·have:=hO.block g h2;omega
   omega
  have Nj:=(Ni.aH yo (λg hg hh=>Bz g hg hh)).aH ll (λg hg hh=>Bz g hg hh);have YC:Sl (λ_=>False) 1 (En aX) w7 r (kH us.length (fG (bC nm) (bJ us) back x) N1):=Nj.sl.weaken (λ_ h=>h.elim);have nK:∀j,j∈m2↔j<=us.length/\∃s,s<=k+1/\stM (fG (bC nm) (bJ us) back x) from_ (lo+s) j:=λj=>by
   rw[Bx,List.mem_append,Hu j,Hv j];constructor
   ·rintro(⟨h1,s,h2,h3⟩|⟨h1,h2⟩)
    ·exact⟨h1,s,by omega,h3⟩
    exact⟨h1,k+1,Nat.le_refl _,h2⟩
   rintro⟨h1,s,h2,h3⟩;by_cases hs:s=k+1
   ·subst hs;exact .inr ⟨h1,h3⟩
   exact .inl ⟨h1,s,by omega,h3⟩
  have CF:∀y∈M,y∈m2:=λy hy=>(Bx y).2 (List.mem_append_left _ hy);have aHw:=xK Yc nN CF;have oX:=cU nN (λj hj=>((nK j).1 hj).1);have eN:=vf.slice;obtain⟨o7,c7,rfl⟩:=eN;push_cast -dsimp[d4 _ jU];have CK:(Value.int .i64 ((lo:Int)+k+1))=.int .i64 ((lo+(k+1):Nat):Int):=by
   congr 1
  refine⟨λiK=>⟨λoY=>?_,λTQ=>⟨⟨by omega,by have:=hkM iK;omega⟩,?_,?_⟩⟩,λKk=>⟨⟨by omega,by omega⟩,?_,?_⟩⟩
  ·have heq:=sr Yc nN CF (by omega);refine⟨⟨m2,vf,by omega,jM nK (.inl iK) λt j ht bm=>?_⟩,jU⟩
   have:=sJ (a:=lo) (k:=k) (λj hj=>by
    have h1:j∈m2:=(nK j).2 ⟨uT _ j hj,k+1,Nat.le_refl _,hj⟩;rw[<-heq]at h1;exact((Hu j).1 h1).2) t j bm
   obtain⟨s,hs,h2⟩:=this;exact⟨s,by omega,h2⟩
  ·exact⟨k+1,_,_,_,m2,CK,rfl,rfl,YC,EU,cO _ _ _,Hv,vf,nN,nK,.inl iK,(λ_=>by have:=hkM iK;omega),jU⟩
  ·rw[h9,uH];simp only[if_pos iK,Tn];omega
  ·exact⟨k+1,_,_,_,m2,CK,rfl,rfl,YC,EU,cO _ _ _,Hv,vf,nN,nK,.inr (by omega),(λhh=>absurd hh Kk),jU⟩
  rw[h9,uH];simp only[if_neg Kk,intOf];omega
 ·skip;refine⟨⟨M,hO,by omega,jM Hu Ae λt j ht bm=>?_⟩,bS⟩;by_cases JU:t<k
  ·exact⟨t,by omega,bm⟩
  have ep:∀j,¬stM (fG (bC nm) (bJ us) back x) from_ (lo+k) j:=λj hj=>by
   have hm:=(Nw j).2 ⟨uT _ j hj,hj⟩;have:N1=[]:=List.eq_nil_of_length_eq_zero (by omega);rw[this]at hm;cases hm
  have:=sK ep (t-k) j;rw[show lo+k+(t-k)=lo+t by omega]at this
  exact absurd bm this
 ·refine⟨⟨M,hO,by omega,jM Hu Ae λt j ht bm=>?_⟩,bS⟩;rcases ht with ht|ht
  ·omega
  exact⟨t,by omega,bm⟩
 ·skip;refine aA (hx bI j8 X wx rb mb us nm _ (h.below bS) _ (au.below hV bS) _ N1 hN1 haN hrN (λj hj=>((Nw j).1 hj).1)) ?_;rintro r wy ⟨ff,gn⟩;have zy:=gn.size;have lY:=bS.trans (gn.mono zx);have aHl:=cU (cO us.length (fG (bC nm) (bJ us) back x) N1) (λj hj=>(gM.1 hj).1);have Hv:=r7 Nw (uT (lo+k));have EU:Arg r:=ff.di;have vg:=hO.below gn;push_cast -dsimp;refine pj (base:=w.heap.size) (enc:=aX) (ys:=kH us.length (fG (bC nm) (bJ us) back x) N1) ay vg (ff.sl) EU (by simp[aX,Value.oneCell']) (by omega) (by omega) ?_;intro v5 w5 kF tM jq yr;have z5:=jq.size;have pz:=lY.trans (jq.mono (by omega));have Y2:(M++kH us.length (fG (bC nm) (bJ us) back x) N1).length<=3000:=by rw[List.length_append];omega
  push_cast -dsimp;refine aA (lJ _ (by omega) _ v5 w5 kF) ?_;rintro _ w6 ⟨⟨m1,j6,tI⟩,yo⟩;have z6:=yo.size;have aHh:=lF j6;push_cast -dsimp;refine aA (fw m1 (by omega) _ v5 w6 tI) ?_;rintro v7 w7 ⟨⟨m2,dK,vf,vz⟩,ll⟩;have z7:=ll.size;obtain⟨nN,Bx⟩:=wW j6 dK;have jU:Below w.heap.size w w7:=pz.trans ((yo.below (by omega) (λi h=>(kF.block i h).1)).trans (ll.below (by omega) (λi h=>(kF.block i h).1)));have Ni:=ff.aH (Kept.grown tM (X:=λj=>(Value.slice oa M.length oc).ownBlock=some j) (λ_ h=>h)) (λg hg hh=>by have:=ff.block g hg;have:=hO.block g hh;omega);have Bz:∀g,r.ownBlock=some g->v5.ownBlock≠some g:=λg hg hh=>by
   have h1:=ff.block g hg;rcases yr g hh with h2|h2
   ·have:=hO.block g h2;omega
   omega
  have Nj:=(Ni.aH yo (λg hg hh=>Bz g hg hh)).aH ll (λg hg hh=>Bz g hg hh);have YC:Sl (λ_=>False) 1 (En aX) w7 r (kH us.length (fG (bC nm) (bJ us) back x) N1):=Nj.sl.weaken (λ_ h=>h.elim);have nK:∀j,j∈m2↔j<=us.length/\∃s,s<=k+1/\stM (fG (bC nm) (bJ us) back x) from_ (lo+s) j:=λj=>by
   rw[Bx,List.mem_append,Hu j,Hv j];constructor
   ·rintro(⟨h1,s,h2,h3⟩|⟨h1,h2⟩)
    ·exact⟨h1,s,by omega,h3⟩
    exact⟨h1,k+1,Nat.le_refl _,h2⟩
   rintro⟨h1,s,h2,h3⟩;by_cases hs:s=k+1
   ·subst hs;exact .inr ⟨h1,h3⟩
   exact .inl ⟨h1,s,by omega,h3⟩
  have CF:∀y∈M,y∈m2:=λy hy=>(Bx y).2 (List.mem_append_left _ hy);have aHw:=xK Yc nN CF;have oX:=cU nN (λj hj=>((nK j).1 hj).1);have eN:=vf.slice;obtain⟨o7,c7,rfl⟩:=eN;push_cast -dsimp[d4 _ jU];have CK:(Value.int .i64 ((lo:Int)+k+1))=.int .i64 ((lo+(k+1):Nat):Int):=by
   congr 1
  refine⟨λiK=>⟨λoY=>?_,λTQ=>⟨⟨by omega,by have:=hkM iK;omega⟩,?_,?_⟩⟩,λKk=>⟨⟨by omega,by omega⟩,?_,?_⟩⟩
  ·have heq:=sr Yc nN CF (by omega);refine⟨⟨m2,vf,by omega,jM nK (.inl iK) λt j ht bm=>?_⟩,jU⟩
   have:=sJ (a:=lo) (k:=k) (λj hj=>by
    have h1:j∈m2:=(nK j).2 ⟨uT _ j hj,k+1,Nat.le_refl _,hj⟩;rw[<-heq]at h1;exact((Hu j).1 h1).2) t j bm
   obtain⟨s,hs,h2⟩:=this;exact⟨s,by omega,h2⟩
  ·exact⟨k+1,_,_,_,m2,CK,rfl,rfl,YC,EU,cO _ _ _,Hv,vf,nN,nK,.inl iK,(λ_=>by have:=hkM iK;omega),jU⟩
  ·rw[h9,uH];simp only[if_pos iK,Tn];omega
  ·exact⟨k+1,_,_,_,m2,CK,rfl,rfl,YC,EU,cO _ _ _,Hv,vf,nN,nK,.inr (by omega),(λhh=>absurd hh Kk),jU⟩
  rw[h9,uH];simp only[if_neg Kk,intOf];omega
 skip;refine⟨⟨M,hO,by omega,jM Hu Ae λt j ht bm=>?_⟩,bS⟩;by_cases JU:t<k
 ·exact⟨t,by omega,bm⟩
 have ep:∀j,¬stM (fG (bC nm) (bJ us) back x) from_ (lo+k) j:=λj hj=>by
  have hm:=(Nw j).2 ⟨uT _ j hj,hj⟩;have:N1=[]:=List.eq_nil_of_length_eq_zero (by omega);rw[this]at hm;cases hm
 have:=sK ep (t-k) j;rw[show lo+k+(t-k)=lo+t by omega]at this
 exact absurd bm this
theorem WB (x:aG)(lo hi:Int)(hx:AB x):AB (.many x lo hi):=by
 intro bI j8 X w rb mb us nm back h v hV fv from_ hf ha hr hle;have hlen:=h.len;have tL:=cU hr hle;have hpm:=uw (x:=x) (lo:=lo) (hi:=hi);simp only[bD]at bI;obtain⟨Km,h0,h1,h2,h3⟩:=bI;obtain⟨l,rfl⟩:∃l:Nat,lo=l:=⟨lo.toNat,by omega⟩;have JL:=hV;simp only[au]at hV;obtain⟨b,sv,u,rfl,hb,hB,hs,hV⟩:=hV;obtain⟨fa,fc,rfl,hfc⟩:=hf.shape;have d0:w.cell? ⟨b,0,none⟩=some (.int .i64 6):=hB.cell rfl;refine aD Tryz.func60 rfl (by kernel_rfl) [6] rfl ?_;push_cast -dsimp(maxSteps:=9^7) [Tryz.ntmps60];push_cast -dsimp[d0];refine aA (aIi x l hi hx Km (by omega) (by omega) h2 h3 X w rb mb us nm back h _ JL _ from_ hf ha hr hle) ?_;rintro r wx ⟨⟨M,hO,hlM,Hu⟩,bS⟩;push_cast -dsimp;have ym:=bS;have zF:=ym.size;refine aA (lQ M (by omega) (λ_=>False) _ (wx) (hO.sl.weaken (λ_ h=>h.elim)) hO.di) ?_;rintro vc wc ⟨yG,ng⟩;have zc:=ng.size;push_cast -dsimp;refine aA (lJ M (by omega) _ vc wc yG) ?_;rintro _ wd ⟨⟨m1,j6,Ei⟩,yp⟩;have zd:=yp.size;have tL:=lF j6;push_cast -dsimp;refine aA (fw m1 (by omega) _ vc wd Ei) ?_;rintro vr we ⟨⟨m2,dK,qt,vz⟩,eD⟩;have YX:=xu j6 dK Hu;subst YX;push_cast -dsimp;exact⟨qt.mono zF,ym.trans ((ng.mono zF).trans ((yp.below (by omega) (λi h=>by have:=yG.block i h;omega)).trans (eD.below (by omega) (λi h=>by have:=yG.block i h;omega))))⟩
mutual
theorem Vz:∀x,AB x
 | .one k=>aBD k
 | .any=>aBB
 | .gh=>WA
 | .cat l=>aBC l (NC l)
 | .alt l=>aBA l (NC l)
 | .many x lo hi=>WB x lo hi (Vz x)
theorem NC:∀(l:List aG) (x:aG),x∈l->AB x
 | [],x,h=>by cases h
 | y::l,x,h=>by
  have hy:=Vz y;rcases List.mem_cons.1 h with h|h
  ·rw[h];exact hy
  exact NC l x h
end
def ql (f:dX):Option (Int×Nat):=match gv [] f.cT with
 | .error e=>some (aKl e)
 | .ok nm=>(gY nm f.rules).map λe=>((7:Int),e)
theorem kp {nm:bK}:∀(a b:List cQ),gY nm (a++b)=match gY nm a with
  | some e=>some e
  | none=>gY nm b
 | [],b=>by simp only[List.nil_append,gY]
 | x::a,b=>by
  simp only[List.cons_append,gY];cases GK nm x with
  | some e=>rfl
  | none=>exact kp a b
def aBy (f:dX):Prop:=∀r∈f.rules,wd r.before<=100000/\wd r.after<=100000
theorem au.iT {X X':Nat->Prop}{w:World}{x:aG}{v:Value}(h:au X w v x)(hX:∀b,X' b->X b):au X' w v x:=h.mono (Kept.refl (λ_=>False) w) (λ_ h=>h.elim) hX
theorem Gj (f:dX)(bI:Ay f)(j8:aBy f)(Kf:f.cT.length<=1000000)(Vh:f.rules.length<=1000000)(X:Nat->Prop)(v:Value)(w:World)(hv:kI X w v f) :
  aw Tryz.prog 25 [v] w λr w'=>q9 w.heap.size (ql f) r w'/\Below w.heap.size w w':=by
 have Kr:=hv;obtain⟨cv,rv,cs,rs,rfl,il,iW,hC,hR⟩:=hv;have Hw:=dT.len hR;obtain⟨ca,cc,rfl,hcc⟩:=il.shape;obtain⟨ra,rc,rfl,hrc⟩:=iW.shape;refine aD Tryz.func25 rfl (by kernel_rfl) [2] rfl ?_;push_cast -dsimp(maxSteps:=9^7) [Tryz.ntmps25];refine aS ?_;intro w1 aU;have aU:mN w w1 26 [.slice ca cs.length cc,.slice ra rs.length rc,.bool f.els]:=aU;have z1:=aU.size;have d0:aB w1 ⟨w.heap.size,0,none⟩ 0 3=some [.slice ca cs.length cc,.slice ra rs.length rc,.bool f.els]:=aU.aL.aB;have hv1:kI X w1 (.agg #[.slice ca cs.length cc,.slice ra rs.length rc,.bool f.els]) f:=Kr.below aU.below;push_cast -dsimp[d0];refine aA (IZ f bI.1 Kf X _ w1 hv1) ?_;rintro r w2 ⟨hN,dt⟩;have z2:=dt.size;have fP:=aU.below.trans (dt.mono (by omega));have B2:=aU.aL.below dt (by omega);unfold mq at hN;cases oo:gv [] f.cT with
 | error e =>
  rw[oo]at hN;obtain⟨ev,rfl,hE⟩:=hN;obtain⟨eb,Dx,rfl,VV⟩:=hE;push_cast -dsimp;refine⟨?_,fP⟩;unfold ql;rw[oo];exact⟨eb,by omega,rfl,VV⟩
 | ok nm =>
  rw[oo]at hN;obtain⟨mb,hmb,rfl,hNV,VW⟩:=hN;have d1:w2.cell? ⟨w.heap.size,1,none⟩=some (.slice ra rs.length rc):=B2.cell rfl;push_cast -dsimp[d1];refine aK [2,6,7,8,20,21,22,23,24,25,26,27,28,29,30,31,32,33,34,35,36,37,38] (λz wx=>∃(i:Nat),z 20=.int .i64 i/\i<=f.rules.length/\gY nm (f.rules.take i)=none/\Below w2.heap.size w2 wx) (λz _=>f.rules.length-(intOf (z 20)).toNat) ?_ ?_
  ·exact⟨0,rfl,Nat.zero_le _,by simp[gY],Below.refl _ _⟩
  intro z wx hI;obtain⟨i,lq,hi,ep,aG6⟩:=hI;have zx:=aG6.size;have bS:=fP.trans (aG6.mono (by omega));push_cast -dsimp[lq];refine⟨λaq=>?_,λeo=>?_⟩
  ·obtain⟨c,hc,s9,_,ht⟩:=ag (l:=f.rules) (i:=i) (by omega);obtain⟨x,hx,JX,xa,Em,wE⟩:=rF hR hc;obtain⟨xp,xb,x1,x2⟩:=x;simp only at JX xa Em wE;subst JX;subst xa;obtain⟨b1,o,rfl,kL,aM⟩:=(iW.below bS).get hx;have c4:aB wx ⟨b1,o+i*4,none⟩ 0 4=some [.int .i64 c.pos,.bool c.brk,.pointer (some ⟨x1,0,none⟩),.pointer (some ⟨x2,0,none⟩)]:=ao _ 0 (λj u hu=>by simpa[jD,bx] using aM j u hu);push_cast -dsimp[c4];refine⟨⟨by omega,by omega⟩,?_⟩;refine ah (z:=[.int .i64 0,.bool false,.pointer none,.pointer none]) (by kernel_rfl) ?_;intro wa eB;have za:=eB.size;push_cast -dsimp;refine aI (n:=4) (by kernel_rfl) eB.aL rfl (by simp) (by simp[Value.oneCell']) ?_;intro wb cH;have zb:=cH.size;have jf:Below wx.heap.size wx wb:=eB.below.trans (cH.kept.below (by omega) (λi h=>by omega));have aLh:=aG6.trans (jf.mono (by omega));have Hn:=bS.trans (jf.mono (by omega));have Rb:aN wb wx.heap.size 84 [.int .i64 c.pos,.bool c.brk,.pointer (some ⟨x1,0,none⟩),.pointer (some ⟨x2,0,none⟩)]:=cH.aL;have e2:wb.cell? ⟨wx.heap.size,2,none⟩=some (.pointer (some ⟨x1,0,none⟩)):=Rb.cell rfl;have pE:au (λb=>X b/\b<w1.heap.size) wb (bx x1) c.before:=au.iT (au.below Em Hn) (λb h=>h.1);push_cast -dsimp[e2];refine aA (Pw c.before (bI.2 c s9).1 (by have:=(j8 c s9).1;omega) nm VW _ _ mb wb pE (hNV.below aLh)) ?_;rintro r3 w3 ⟨QG,gB⟩;have z3:=gB.size;have aLg:=aLh.trans (gB.mono (by omega));have oV:=Hn.trans (gB.mono (by omega));have Rc:=Rb.below gB Rb.lt
   have e3:w3.cell? ⟨wx.heap.size,3,none⟩=some (.pointer (some ⟨x2,0,none⟩)):=Rc.cell rfl;have vC:f.rules=f.rules.take (i+1)++f.rules.drop (i+1):=(List.take_append_drop _ _).symm;unfold BB at QG;cases JT:iY nm c.before with
   | some e =>
    rw[JT]at QG;obtain⟨eb,Dx,rfl,VV⟩:=QG;push_cast -dsimp;refine⟨?_,oV⟩;have cg:gY nm f.rules=some e:=by
     rw[vC,kp,ht,kp,ep];simp only[gY,GK,JT]
    unfold ql;rw[oo];dsimp only;rw[cg];exact⟨eb,by omega,rfl,VV⟩
   | none =>
    rw[JT]at QG;have QG:r3=.nilIface:=QG;subst QG;have hP2:au (λb=>X b/\b<w1.heap.size) w3 (bx x2) c.after:=au.iT (au.below wE oV) (λb h=>h.1);push_cast -dsimp[e3];refine aA (Pw c.after (bI.2 c s9).2 (by have:=(j8 c s9).2;omega) nm VW _ _ mb w3 hP2 (hNV.below aLg)) ?_;rintro r4 w4 ⟨QH,kK⟩;have z4:=kK.size;have ir:=oV.trans (kK.mono (by omega));unfold BB at QH;cases hp2:iY nm c.after with
    | some e =>
     rw[hp2]at QH;obtain⟨eb,Dx,rfl,VV⟩:=QH;push_cast -dsimp;refine⟨?_,ir⟩;have cg:gY nm f.rules=some e:=by
      rw[vC,kp,ht,kp,ep];simp only[gY,GK,JT,hp2]
     unfold ql;rw[oo];dsimp only;rw[cg];exact⟨eb,by omega,rfl,VV⟩
    | none =>
     rw[hp2]at QH;have QH:r4=.nilIface:=QH;subst QH;push_cast -dsimp;refine⟨⟨by omega,by omega⟩,⟨i+1,rfl,by omega,?_,aLg.trans (kK.mono (by omega))⟩,by rw[lq];simp only[intOf];omega⟩;rw[ht,kp,ep];simp only[gY,GK,JT,hp2]
  rw[List.take_of_length_le (by omega)]at ep;refine⟨?_,bS⟩;unfold ql;rw[oo];dsimp only;rw[ep];rfl
end Go.Proofs.YtemjejfpadnljaaGreatDoor
namespace Cae
section
section
variable {has:bB->Int->Prop} {az:List Int}
theorem ui {els:Bool}{i:Nat}:∀{a b:List cQ},(∀r∈a,¬u5 has az r i)->oG has az els i (a++b)=oG has az els i b
 | [],_,_=>rfl
 | r::a,b,h=>by
  rw[List.cons_append,oG,if_neg (h r (List.mem_cons_self ..))];exact ui λx hx=>h x (List.mem_cons_of_mem _ hx)
theorem aAz {els:Bool}{i k:Nat}{l:List cQ}{r:cQ}(hk:l[k]?=some r)(hr:u5 has az r i)(ep:∀x∈l.take k,¬u5 has az x i):oG has az els i l=r.brk:=by
 obtain⟨aq,he⟩:=List.getElem?_eq_some_iff.1 hk;have e:l=l.take k++(r::l.drop (k+1)):=by
  rw[<-he,<-List.drop_eq_getElem_cons aq,List.take_append_drop]
 rw[e,ui ep,oG,if_pos hr]
theorem Om {els:Bool}{i:Nat}{l:List cQ}(ep:∀x∈l,¬u5 has az x i):oG has az els i l=els:=by
 have:=ui (els:=els) (b:=[]) ep;rw[List.append_nil]at this;rw[this,oG]
theorem MH {x:aG}{i:Nat}{back:Bool}(hi:i<=az.length):0<(kH az.length (fG has az back x) [i]).length↔ma has az x i back:=by
 rw[List.length_pos_iff_exists_mem];constructor
 ·rintro⟨j,hj⟩;obtain⟨_,k,hk,h⟩:=gM.1 hj;rw[List.mem_singleton]at hk;subst hk;exact⟨j,h⟩
 rintro⟨j,h⟩;exact⟨j,gM.2 ⟨sB x hi h,i,List.mem_singleton.2 rfl,h⟩⟩
end
end
section
theorem aEb {f:dX}{r:cQ}(hr:r∈f.rules):pn r.before<=(nH f).length+5/\pn r.after<=(nH f).length+5:=by
 have h1:=aIG r;have h2:=Sc gO hr;have h3:(f.rules.flatMap gO).length<=(nH f).length:=by
  unfold nH;simp only[List.length_append];omega
 have h4:=RA r.before;have h5:=RA r.after;have JT:pn r.before=(ai r.before 2).length+3:=rfl;have hp2:pn r.after=(ai r.after 2).length+3:=rfl;omega
end
end Cae
namespace Go.Proofs.YtemjejfpadnljaaGreatDoor
section
open Go.Vc Go.Proofs Go.RowKit Cae
attribute [local irreducible] dN ae ak aY runK aw Sl Vc.Own vc aV cJ a7
theorem MI (x:aG)(bI:bD x)(j8:wd x<=100000)(nm:bK)(hr:iG nm)(us:List U)(hlen:us.length<=1000)(i:Nat)(hi:i<=us.length)(back:Bool)(X:Nat->Prop)(v lv:Value)(mb:Nat)(w:World)(hV:au X w v x)(hN:fu X w mb nm)(hU:Sl X 3 (En xq) w lv us) :
  aw Tryz.prog 36 [v,.map (some mb),lv,.int .i64 i,.bool back] w λr w'=>(∃b:Bool,r=.bool b/\(b=true↔ma (bC nm) (bJ us) x i back))/\Below w.heap.size w w':=by
 obtain⟨la,lc,rfl,Kf⟩:=hU.shape;refine aD Tryz.func36 rfl (by kernel_rfl) [10] rfl ?_;push_cast -dsimp(maxSteps:=9^7) [Tryz.ntmps36];refine⟨λ_=>⟨λJQ=>by omega,λ_=>?_⟩,λvw=>by omega⟩;push_cast -dsimp;refine aS ?_;intro w1 aU;have aU:mN w w1 148 [.slice la us.length lc,.map (some mb),.bool back]:=aU;have z1:=aU.size;push_cast -dsimp;refine cF ay rfl rfl (by omega) ?_;intro w2 bP;have z2:=bP.size;have aLe:=bP.below;have fP:=aU.below.trans (aLe.mono (by omega));have hR:Mr X w2 w.heap.size mb us nm back:=⟨⟨_,aU.aL.below aLe (by omega),hU.below fP⟩,hN.below fP,hr,hlen⟩;push_cast -dsimp;have ff:Vc.Own w1.heap.size 3 1 aX w2 (.slice (some ⟨w1.heap.size,0,none⟩) 1 1) [i]:=bP.own (by rfl) rfl (λ_=>rfl) (by omega) (by omega);refine aA (Vz x bI j8 _ w2 w.heap.size mb us nm back hR v (hV.below fP) _ [i] (ff.sl.weaken (λ_ h=>h.elim)) ff.di (by simp) (by simpa using hi)) ?_;rintro r w3 ⟨hO,gB⟩;have z3:=gB.size;obtain⟨oa,oc,rfl⟩:=hO.slice;have hS:=MH (has:=bC nm) (x:=x) (back:=back) (show i<=(bJ us).length by rw[fI];exact hi)
 rw[fI]at hS;push_cast -dsimp;refine⟨⟨_,rfl,?_⟩,fP.trans (gB.mono (by omega))⟩;rw[<-hS,decide_eq_true_iff];omega
theorem aDE (c:cQ)(bI:bD c.before/\bD c.after)(j8:wd c.before<=100000/\wd c.after<=100000)(nm:bK)(hr:iG nm)(us:List U)(hlen:us.length<=1000)(i:Nat)(hi:i<=us.length)(X:Nat->Prop)(x1 x2:Nat)(lv:Value)(mb nb lb ib:Nat)(w:World)
  (h1:au X w (bx x1) c.before) (h2:au X w (bx x2) c.after) (hN:fu X w mb nm) (hU:Sl X 3 (En xq) w lv us) (cn:w.cell? ⟨nb,0,none⟩=some (.map (some mb))) (cl:w.cell? ⟨lb,0,none⟩=some lv) (ci:w.cell? ⟨ib,0,none⟩=some (.int .i64 i)) :
  aw Tryz.prog 35 [.agg #[.int .i64 c.pos,.bool c.brk,.pointer (some ⟨x1,0,none⟩),.pointer (some ⟨x2,0,none⟩)],.pointer (some ⟨nb,0,none⟩),.pointer (some ⟨lb,0,none⟩),.pointer (some ⟨ib,0,none⟩)] w λr w'=>(∃b:Bool,r=.bool b/\(b=true↔u5 (bC nm) (bJ us) c i))/\Below w.heap.size w w':=by
 refine aD Tryz.func35 rfl (by kernel_rfl) [5] rfl ?_;push_cast -dsimp(maxSteps:=9^7) [Tryz.ntmps35];refine aS ?_;intro w1 aU;have aU:mN w w1 84 [.int .i64 c.pos,.bool c.brk,.pointer (some ⟨x1,0,none⟩),.pointer (some ⟨x2,0,none⟩)]:=aU;have z1:=aU.size;have gS:=aU.below;have R1:=aU.aL;have e2:w1.cell? ⟨w.heap.size,2,none⟩=some (.pointer (some ⟨x1,0,none⟩)):=R1.cell rfl;have cn1:w1.cell? ⟨nb,0,none⟩=some (.map (some mb)):=(gS.cell (World.block_lt_of_cell? w _ cn)).trans cn;have cl1:w1.cell? ⟨lb,0,none⟩=some lv:=(gS.cell (World.block_lt_of_cell? w _ cl)).trans cl;have ci1:w1.cell? ⟨ib,0,none⟩=some (.int .i64 i):=(gS.cell (World.block_lt_of_cell? w _ ci)).trans ci;push_cast -dsimp[e2,cn1,cl1,ci1];refine aA (MI c.before bI.1 j8.1 nm hr us hlen i hi true X _ lv mb w1 (h1.below gS) (hN.below gS) (hU.below gS)) ?_;rintro _ w2 ⟨⟨b,rfl,hb⟩,dt⟩;have z2:=dt.size;have fP:=gS.trans (dt.mono (by omega));cases b with
 | false =>
  push_cast -dsimp;refine⟨⟨false,rfl,?_⟩,fP⟩;constructor
  ·intro h;cases h
  intro h;have:=hb.2 h.1;cases this
 | true =>
  have e3:w2.cell? ⟨w.heap.size,3,none⟩=some (.pointer (some ⟨x2,0,none⟩)):=(R1.below dt (by omega)).cell rfl;have cn2:w2.cell? ⟨nb,0,none⟩=some (.map (some mb)):=(dt.cell (World.block_lt_of_cell? w1 _ cn1)).trans cn1;have cl2:w2.cell? ⟨lb,0,none⟩=some lv:=(dt.cell (World.block_lt_of_cell? w1 _ cl1)).trans cl1;have ci2:w2.cell? ⟨ib,0,none⟩=some (.int .i64 i):=(dt.cell (World.block_lt_of_cell? w1 _ ci1)).trans ci1;push_cast -dsimp[e3,cn2,cl2,ci2];refine aA (MI c.after bI.2 j8.2 nm hr us hlen i hi false X _ lv mb w2 (h2.below fP) (hN.below fP) (hU.below fP)) ?_;rintro _ w3 ⟨⟨b',rfl,Dw⟩,gB⟩;push_cast -dsimp;refine⟨⟨_,rfl,?_⟩,fP.trans (gB.mono (by omega))⟩;rw[Dw];exact⟨λh=>⟨hb.1 rfl,h⟩,λh=>h.2⟩
theorem Uh (l:List cQ)(hl:l.length<=1000000)(bI:∀c∈l,bD c.before/\bD c.after)(j8:∀c∈l,wd c.before<=100000/\wd c.after<=100000)(nm:bK)(hr:iG nm)(us:List U)(hlen:us.length<=1000)(i:Nat)(hi:i<=us.length)(X:Nat->Prop)(rv lv:Value)(rs:List (Nat×Bool×Nat×Nat))(mb nb lb ib:Nat)(w:World)
  (iW:Sl X 4 (En jD) w rv rs) (hR:dT (mO X w) rs l) (hN:fu X w mb nm) (hU:Sl X 3 (En xq) w lv us) (cn:w.cell? ⟨nb,0,none⟩=some (.map (some mb))) (cl:w.cell? ⟨lb,0,none⟩=some lv) (ci:w.cell? ⟨ib,0,none⟩=some (.int .i64 i)) :
  aw Tryz.prog 34 [rv,.func (.func 35) #[] #[.pointer (some ⟨nb,0,none⟩),.pointer (some ⟨lb,0,none⟩),.pointer (some ⟨ib,0,none⟩)]] w λr w' =>
   ((∃(k:Nat) (c:cQ),r=.int .i64 k/\l[k]?=some c/\u5 (bC nm) (bJ us) c i/\∀d∈l.take k,¬u5 (bC nm) (bJ us) d i)\/(r=.int .i64 (-1)/\∀d∈l,¬u5 (bC nm) (bJ us) d i))/\Below w.heap.size w w':=by
 have Hw:=dT.len hR;obtain⟨ra,rc,rfl,hrc⟩:=iW.shape;refine aD Tryz.func34 rfl (by kernel_rfl) [4] rfl ?_;push_cast -dsimp(maxSteps:=9^7) [Tryz.ntmps34];refine aK [4,5,8,9,10,11,12,13,14,15,16,17,18] (λz wx=>∃(k:Nat),z 8=.int .i64 k/\k<=l.length/\(∀d∈l.take k,¬u5 (bC nm) (bJ us) d i)/\Below w.heap.size w wx) (λz _=>l.length-(intOf (z 8)).toNat) ?_ ?_
 ·exact⟨0,rfl,Nat.zero_le _,by simp,Below.refl _ _⟩
 intro z wx hI;obtain⟨k,h8,hk,ep,bS⟩:=hI;have zx:=bS.size;push_cast -dsimp[h8];refine⟨λaq=>?_,λeo=>?_⟩
 ·obtain⟨c,hc,s9,_,ht⟩:=ag (l:=l) (i:=k) (by omega);obtain⟨x,hx,JX,xa,Em,wE⟩:=rF hR hc;obtain⟨xp,xb,x1,x2⟩:=x;simp only at JX xa Em wE;subst JX;subst xa;obtain⟨b1,o,rfl,kL,aM⟩:=(iW.below bS).get hx;have c4:aB wx ⟨b1,o+k*4,none⟩ 0 4=some [.int .i64 c.pos,.bool c.brk,.pointer (some ⟨x1,0,none⟩),.pointer (some ⟨x2,0,none⟩)]:=ao _ 0 (λj u hu=>by simpa[jD,bx] using aM j u hu);push_cast -dsimp[c4];refine⟨⟨by omega,by omega⟩,?_⟩;refine aA (aDE c (bI c s9) (j8 c s9) nm hr us hlen i hi X x1 x2 lv mb nb lb ib wx (Em.below bS) (wE.below bS) (hN.below bS) (hU.below bS) ((bS.cell (World.block_lt_of_cell? w _ cn)).trans cn) ((bS.cell (World.block_lt_of_cell? w _ cl)).trans cl) ((bS.cell (World.block_lt_of_cell? w _ ci)).trans ci)) ?_;rintro _ w1 ⟨⟨b,rfl,hb⟩,gS⟩;have oU:=bS.trans (gS.mono zx);cases b with
  | true =>
   push_cast -dsimp;exact⟨.inl ⟨k,c,rfl,hc,hb.1 rfl,ep⟩,oU⟩
  | false =>
   push_cast -dsimp;refine⟨⟨by omega,by omega⟩,⟨k+1,rfl,by omega,?_,oU⟩,by rw[h8];simp only[intOf];omega⟩;intro y hy;rw[ht,List.mem_append,List.mem_singleton]at hy;rcases hy with hy|rfl
   ·exact ep y hy
   intro h;have:=hb.2 h;cases this
 rw[List.take_of_length_le (by omega)]at ep;exact⟨.inr ep,bS⟩
def Vs (B:Nat)(f:dX)(us:List U)(r:Value)(w:World):Prop:=match ql f with
 | some e=>∃v,r=.tuple #[.slice none 0 0,v]/\q9 B (some e) v w
 | none=>∃nm v,gv [] f.cT=.ok nm/\r=.tuple #[v,.nilIface]/\Vc.Own B 3 1 aX w v (mT (bC nm) (bJ us) f.rules f.els)
noncomputable def qx (nm:bK)(us:List U)(rules:List cQ)(els:Bool)(i:Nat):List Nat:=(List.range i).filter (Q8 (bC nm) (bJ us) rules els)
theorem jc (nm:bK)(us:List U)(rules:List cQ)(els:Bool)(i:Nat):qx nm us rules els (i+1)=qx nm us rules els i++if Q8 (bC nm) (bJ us) rules els i then [i] else []:=by
 unfold qx;rw[List.range_succ,List.filter_append];congr 1;by_cases h:Q8 (bC nm) (bJ us) rules els i=true
 ·rw[if_pos h,List.filter_cons_of_pos h,List.filter_nil]
 rw[if_neg h,List.filter_cons_of_neg h,List.filter_nil]
theorem aA3 (nm:bK)(us:List U)(rules:List cQ)(els:Bool)(i:Nat):(qx nm us rules els i).length<=i:=by
 have:=List.length_filter_le (Q8 (bC nm) (bJ us) rules els) (List.range i);rw[List.length_range]at this;exact this
theorem fu.iT {X X':Nat->Prop}{w:World}{b:Nat}{nm:bK}(h:fu X w b nm)(hX:∀b,X' b->X b):fu X' w b nm:=by
 obtain⟨iD,h2,h3⟩:=h;exact⟨iD,h2,h3.imp λa b h=>⟨h.1,h.2.1.weaken hX,h.2.2⟩⟩
def j2 (v:Value)(w:World):Nat:=match v with
 | .pointer (some a)=>match w.cell? a with
  | some (.int _ n)=>n.toNat
  | _=>0
 | _=>0
theorem jl {v:Value}{w:World}{a:Addr}{i:Nat}{k:IntKind}(h:v=.pointer (some a))(hc:w.cell? a=some (.int k i)):j2 v w=i:=by
 subst h;simp only[j2,hc,Int.toNat_natCast]
theorem BS {f:dX}(h:ql f=none):∃nm,gv [] f.cT=.ok nm:=by
 unfold ql at h;cases hn:gv [] f.cT with
 | ok nm=>exact⟨nm,rfl⟩
 | error e=>rw[hn]at h;cases h
theorem Ws (f:dX)(bI:Ay f)(j8:aBy f)(Kf:f.cT.length<=1000000)(Vh:f.rules.length<=1000000)(us:List U)(hlen:us.length<=1000)(X:Nat->Prop)(v lv:Value)(w:World)(hv:kI X w v f)(hU:Sl X 3 (En xq) w lv us) :
  aw Tryz.prog 19 [v,lv] w λr w'=>Vs w.heap.size f us r w'/\Below w.heap.size w w':=by
 have Kr:=hv;obtain⟨cv,rv,cs,rs,rfl,il,iW,hC,hR⟩:=hv;obtain⟨ca,cc,rfl,hcc⟩:=il.shape;obtain⟨ra,rc,rfl,hrc⟩:=iW.shape;obtain⟨la,lc,rfl,aWn⟩:=hU.shape;have Hw:=dT.len hR;refine aD Tryz.func19 rfl (by kernel_rfl) [4,5] rfl ?_;push_cast -dsimp(maxSteps:=9^7) [Tryz.ntmps19];refine aS ?_;intro w1 aU;have aU:mN w w1 26 [.slice ca cs.length cc,.slice ra rs.length rc,.bool f.els]:=aU;have z1:=aU.size;push_cast -dsimp;refine aS ?_;intro w2 bP;have bP:mN w1 w2 50 [.slice la us.length lc]:=bP;have z2:=bP.size;have fP:=aU.below.trans (bP.below.mono (by omega));have B2:=aU.aL.below bP.below (by omega);have d0:aB w2 ⟨w.heap.size,0,none⟩ 0 3=some [.slice ca cs.length cc,.slice ra rs.length rc,.bool f.els]:=B2.aB;push_cast -dsimp[d0];refine aA (Gj f bI j8 Kf Vh X _ w2 (Kr.below fP)) ?_;rintro r w3 ⟨hE,gB⟩;have z3:=gB.size;have oV:=fP.trans (gB.mono (by omega));cases jr:ql f with
 | some e =>
  rw[jr]at hE;have hE0:=hE;obtain⟨c,e⟩:=e;obtain⟨eb,Dx,rfl,VV⟩:=hE;push_cast -dsimp;refine⟨?_,oV⟩;unfold Vs;rw[jr];exact⟨_,rfl,hE0.mono (by omega)⟩
 | none =>
  rw[jr]at hE;have hE:r=.nilIface:=hE;subst hE;have oo:=BS jr;obtain⟨nm,oo⟩:=oo;have B3:=B2.below gB (by omega);have d3:aB w3 ⟨w.heap.size,0,none⟩ 0 3=some [.slice ca cs.length cc,.slice ra rs.length rc,.bool f.els]:=B3.aB;push_cast -dsimp[d3];refine aA (IZ f bI.1 Kf X _ w3 (Kr.below oV)) ?_;rintro r w4 ⟨hN,kK⟩;have z4:=kK.size;have ir:=oV.trans (kK.mono (by omega));unfold mq at hN;rw[oo]at hN;obtain⟨mb,hmb,rfl,hNV,VW⟩:=hN;push_cast -dsimp;refine ah (z:=[.map none]) (by kernel_rfl) ?_;intro w5 cG;have z5:=cG.size;push_cast -dsimp;refine aC cG.aL (by simp) rfl ?_;intro w6 bW;have z6:=bW.size;have aCG:Below w4.heap.size w4 w6:=cG.below.trans (bW.kept.below (by omega) (λi h=>by omega));have N6:aN w6 w4.heap.size 78 [.map (some mb)]:=bW.aL;push_cast -dsimp;refine ah (z:=[.int .i64 0]) (by kernel_rfl) ?_;intro w7 fQ;have z7:=fQ.size;push_cast -dsimp;refine aC fQ.aL (by simp) rfl ?_;intro w8 n9;have z8:=n9.size;have aLi:Below w6.heap.size w6 w8:=fQ.below.trans (n9.kept.below (by omega) (λi h=>by omega));have YJ:=aCG.trans (aLi.mono (by omega));have Hm:=ir.trans (YJ.mono (by omega));have N8:=N6.below aLi (by omega);have I8:aN w8 w6.heap.size 3 [.int .i64 0]:=n9.aL;have F8:=(B3.below kK (by omega)).below YJ (by omega);have L8:aN w8 w1.heap.size 50 [.slice la us.length lc]:=((bP.aL.below gB (by omega)).below kK (by omega)).below YJ (by omega);have aOS:=hNV.below YJ;have No:∃Xn:Nat->Prop,Xn=(λb=>X b/\b<w3.heap.size):=⟨_,rfl⟩;obtain⟨Xn,No⟩:=No;rw[<-No]at aOS;push_cast -dsimp
  have rS:w8.heap.size=w6.heap.size+1:=by omega
  refine aK [9,10,11,12,26,27,28,29,30,31,32,33,34,35,36,37,38,39,40,41,42,43,44,45,46,47,48,49,50,51,52,53,54,55,56,57,58,59,60,61,62,63,64,65,66] (λz wx=>∃(i ib:Nat) (ov:Value),z 10=.pointer (some ⟨ib,0,none⟩)/\z 9=ov/\i<=us.length+1/\(us=[]->i=0)/\aN wx ib 3 [.int .i64 i]/\Vc.Own w8.heap.size 3 1 aX wx ov (qx nm us f.rules f.els i)/\(∀g,ov.ownBlock=some g->g≠ib)/\Below w8.heap.size w8 wx) (λz wx=>us.length+1-j2 (z 10) wx) ?_ ?_
  ·exact⟨0,w6.heap.size,_,rfl,rfl,by omega,λ_=>rfl,I8,Vc.Own.nil (enc:=aX) _ _ (λ_=>rfl) _,(λg h=>by cases h),Below.refl _ _⟩
  intro z wx hI;obtain⟨i,ib,ov,uH,h9,hi,uN,hIB,hO,cf,j5⟩:=hI;have zx:=j5.size;have bS:=Hm.trans (j5.mono (by omega));have uV:=aA3 nm us f.rules f.els i;obtain⟨oa,oc,rfl⟩:=hO.slice;have Fx:=F8.below j5 (by omega);have Lx:=L8.below j5 (by omega);have Nx:=N8.below j5 (by omega);have c0:wx.cell? ⟨ib,0,none⟩=some (.int .i64 i):=hIB.cell rfl;have cl:wx.cell? ⟨w1.heap.size,0,none⟩=some (.slice la us.length lc):=Lx.cell rfl;have cn:wx.cell? ⟨w4.heap.size,0,none⟩=some (.map (some mb)):=Nx.cell rfl;have f1:wx.cell? ⟨w.heap.size,1,none⟩=some (.slice ra rs.length rc):=Fx.cell rfl;have aPF:j2 (z 10) wx=i:=jl uH c0;rw[aPF];push_cast -dsimp[uH,h9,c0,cl];have jG:(us=[]\/us.length<i)->Vs w.heap.size f us (.tuple #[.slice oa (qx nm us f.rules f.els i).length oc,.nilIface]) wx:=λh=>by
   unfold Vs;rw[jr];refine⟨nm,_,oo,rfl,?_⟩;have e:qx nm us f.rules f.els i=mT (bC nm) (bJ us) f.rules f.els:=by
    unfold mT qx;by_cases h0:us=[]
    ·rw[if_pos (by rw[h0];rfl),uN h0];rfl
    rw[if_neg (by unfold bJ;simpa using h0),fI];have:i=us.length+1:=by
     rcases h with h|h
     ·exact absurd h h0
     omega
    rw[this]
   rw[<-e];exact hO.mono (by omega)
  refine⟨λhle=>⟨λqB=>?_,λhzero=>?_⟩,λJQ=>?_⟩
  ·have Kg:i<=us.length:=by omega
   have Eh:us≠[]:=λh=>by rw[h]at qB;simp at qB
   have hXm:∀b,(λ_:Nat=>False) b->X b:=λ_ h=>h.elim;have vh:dT (mO (λ_=>False) wx) rs f.rules:=hR.imp λa b h=>⟨h.1,h.2.1,au.iT (h.2.2.1.below bS) hXm,au.iT (h.2.2.2.below bS) hXm⟩;have hNx:fu (λ_=>False) wx mb nm:=(hNV.below (YJ.trans (j5.mono (by omega)))).iT (λ_ h=>h.elim);push_cast -dsimp[f1];refine aA (Uh f.rules Vh bI.2 j8 nm VW us hlen i Kg _ _ (.slice la us.length lc) rs mb w4.heap.size w1.heap.size ib wx ((iW.below bS).weaken hXm) vh hNx ((hU.below bS).weaken hXm) cn cl c0) ?_;rintro r wy ⟨hK,gn⟩;have zy:=gn.size;have Fy:=Fx.below gn (by omega);have Ly:=Lx.below gn (by omega);have Ms:=hIB.below gn hIB.lt;have vg:=hO.below gn;have lY:=bS.trans (gn.mono (by omega));have KZ:=j5.trans (gn.mono (by omega));have e1:wy.cell? ⟨w.heap.size,1,none⟩=some (.slice ra rs.length rc):=Fy.cell rfl;have e2:wy.cell? ⟨w.heap.size,2,none⟩=some (.bool f.els):=Fy.cell rfl;have e3:wy.cell? ⟨w1.heap.size,0,none⟩=some (.slice la us.length lc):=Ly.cell rfl;have e4:wy.cell? ⟨ib,0,none⟩=some (.int .i64 i):=Ms.cell rfl;rcases hK with ⟨k,c,rfl,hc,aQA,ep⟩|⟨rfl,ep⟩
   ·have yH:Q8 (bC nm) (bJ us) f.rules f.els i=(c.brk || decide (i=0) || decide (i=us.length)):=by
     unfold Q8;rw[aAz hc aQA ep,fI]
    obtain⟨x,hx,JX,xa,Em,wE⟩:=rF hR hc;obtain⟨xp,xb,x1,x2⟩:=x;simp only at JX xa Em wE;subst JX;subst xa;obtain⟨b1,o,rfl,kL,aM⟩:=(iW.below lY).get hx;have c4:wy.cell? ⟨b1,o+k*4+1,none⟩=some (.bool c.brk):=by simpa[jD] using aM 1 _ rfl
    have QW:=(List.getElem?_eq_some_iff.1 hx).1;cases Sz:(c.brk) with
    | true =>
     rw[Sz]at yH
     (rw[Sz]at c4);push_cast -dsimp[e1,e2,e3,e4,c4];refine⟨λ_=>⟨⟨by omega,by omega⟩,?_⟩,λh=>by omega⟩;have CE:=jc nm us f.rules f.els i;rw[yH,if_pos (by simp)]at CE;refine cF ay rfl rfl (by omega) ?_;intro wr pH;have zr:=pH.size;push_cast -dsimp;refine aP (base:=w8.heap.size) [i] (enc:=aX) ay (vg.new pH) (by rfl) (λj u hu=>by rw[Nat.zero_add];exact pH.cell hu) (by simp[aX,Value.oneCell']) (by simp only[List.length_cons,List.length_nil];omega) (by omega) ?_;intro vq wq AO Eb hnq;have qz:Kept (λj=>(Value.slice oa (qx nm us f.rules f.els i).length oc).ownBlock=some j) wr wq:=Kept.grown Eb (λ_ h=>h);have Vu:=(Ms.below pH.below Ms.lt).kept qz (λh=>cf _ h rfl);have K1:Below w8.heap.size w8 wq:=KZ.trans ((pH.below.mono (by omega)).trans (qz.below (by omega) (λg h=>(hO.block g h).1)));rw[<-CE]at AO;have rQ:=K1;have zS:=rQ.size;have Bm:=AO;have cS:(wq).cell? ⟨ib,0,none⟩=some (.int .i64 i):=(Vu).cell rfl;push_cast -dsimp[cS];refine ah (z:=[.int .i64 0]) (by kernel_rfl) ?_;intro wa eB;have za:=eB.size;push_cast -dsimp;refine aC eB.aL (by simp) rfl ?_;intro wb cH;have zb:=cH.size;have cb:wb.cell? ⟨(wq).heap.size,0,none⟩=some (.int .i64 i):=cH.aL.cell rfl;push_cast -dsimp[cb];refine⟨⟨by omega,by omega⟩,?_⟩;refine aC cH.aL (by simp) rfl ?_;intro wc fV;have zc:=fV.size;have nJ:Below (wq).heap.size (wq) wc:=eB.below.trans ((cH.kept.below (by omega) (λi h=>by omega)).trans (fV.kept.below (by omega) (λi h=>by omega)));have IC:aN wc (wq).heap.size 3 [.int .i64 ((i+1:Nat):Int)]:=fV.aL
     have Nt:j2 (.pointer (some ⟨(wq).heap.size,0,none⟩)) wc=i+1:=jl rfl (IC.cell rfl);push_cast -dsimp;refine⟨⟨i+1,(wq).heap.size,_,rfl,rfl,by omega,λh=>absurd h Eh,IC,Bm.below nJ,(λg hg=>by have:=Bm.block g hg;omega),rQ.trans (nJ.mono (by omega))⟩,?_⟩
     show us.length+1-j2 (.pointer (some ⟨(wq).heap.size,0,none⟩)) wc<us.length+1-i
     rw[Nt];omega
    | false =>
     rw[Sz]at yH
     (rw[Sz]at c4);push_cast -dsimp[e1,e2,e3,e4,c4];refine⟨λ_=>⟨⟨by omega,by omega⟩,?_⟩,λh=>by omega⟩;refine⟨λh0=>⟨λh1=>?_,λh1=>?_⟩,λh0=>?_⟩
     ·have yk:i=us.length:=by omega
      have CE:=jc nm us f.rules f.els i;rw[yH,if_pos (by simp[yk])]at CE;refine cF ay rfl rfl (by omega) ?_;intro wr pH;have zr:=pH.size;push_cast -dsimp;refine aP (base:=w8.heap.size) [i] (enc:=aX) ay (vg.new pH) (by rfl) (λj u hu=>by rw[Nat.zero_add];exact pH.cell hu) (by simp[aX,Value.oneCell']) (by simp only[List.length_cons,List.length_nil];omega) (by omega) ?_;intro vq wq AO Eb hnq;have qz:Kept (λj=>(Value.slice oa (qx nm us f.rules f.els i).length oc).ownBlock=some j) wr wq:=Kept.grown Eb (λ_ h=>h);have Vu:=(Ms.below pH.below Ms.lt).kept qz (λh=>cf _ h rfl);have K1:Below w8.heap.size w8 wq:=KZ.trans ((pH.below.mono (by omega)).trans (qz.below (by omega) (λg h=>(hO.block g h).1)));rw[<-CE]at AO;have rQ:=K1;have zS:=rQ.size;have Bm:=AO;have cS:(wq).cell? ⟨ib,0,none⟩=some (.int .i64 i):=(Vu).cell rfl;push_cast -dsimp[cS];refine ah (z:=[.int .i64 0]) (by kernel_rfl) ?_;intro wa eB;have za:=eB.size;push_cast -dsimp;refine aC eB.aL (by simp) rfl ?_;intro wb cH;have zb:=cH.size;have cb:wb.cell? ⟨(wq).heap.size,0,none⟩=some (.int .i64 i):=cH.aL.cell rfl;push_cast -dsimp[cb];refine⟨⟨by omega,by omega⟩,?_⟩;refine aC cH.aL (by simp) rfl ?_;intro wc fV;have zc:=fV.size;have nJ:Below (wq).heap.size (wq) wc:=eB.below.trans ((cH.kept.below (by omega) (λi h=>by omega)).trans (fV.kept.below (by omega) (λi h=>by omega)));have IC:aN wc (wq).heap.size 3 [.int .i64 ((i+1:Nat):Int)]:=fV.aL;have Nt:j2 (.pointer (some ⟨(wq).heap.size,0,none⟩)) wc=i+1:=jl rfl (IC.cell rfl);push_cast -dsimp
      refine⟨⟨i+1,(wq).heap.size,_,rfl,rfl,by omega,λh=>absurd h Eh,IC,Bm.below nJ,(λg hg=>by have:=Bm.block g hg;omega),rQ.trans (nJ.mono (by omega))⟩,?_⟩
      show us.length+1-j2 (.pointer (some ⟨(wq).heap.size,0,none⟩)) wc<us.length+1-i
      rw[Nt];omega
     ·have EO:i≠0:=by omega
      have yk:i≠us.length:=by omega
      have CE:=jc nm us f.rules f.els i;rw[yH,if_neg (by simp[EO,yk]),List.append_nil]at CE;have aGJ:Vc.Own w8.heap.size 3 1 aX wy (.slice oa (qx nm us f.rules f.els i).length oc) (qx nm us f.rules f.els (i+1)):=by rw[CE];exact vg
      have rQ:=KZ;have zS:=rQ.size;have Bm:=aGJ;have cS:(wy).cell? ⟨ib,0,none⟩=some (.int .i64 i):=(Ms).cell rfl;skip;refine ah (z:=[.int .i64 0]) (by kernel_rfl) ?_;intro wa eB;have za:=eB.size;push_cast -dsimp;refine aC eB.aL (by simp) rfl ?_;intro wb cH;have zb:=cH.size;have cb:wb.cell? ⟨(wy).heap.size,0,none⟩=some (.int .i64 i):=cH.aL.cell rfl;push_cast -dsimp[cb];refine⟨⟨by omega,by omega⟩,?_⟩;refine aC cH.aL (by simp) rfl ?_;intro wc fV;have zc:=fV.size;have nJ:Below (wy).heap.size (wy) wc:=eB.below.trans ((cH.kept.below (by omega) (λi h=>by omega)).trans (fV.kept.below (by omega) (λi h=>by omega)));have IC:aN wc (wy).heap.size 3 [.int .i64 ((i+1:Nat):Int)]:=fV.aL;have Nt:j2 (.pointer (some ⟨(wy).heap.size,0,none⟩)) wc=i+1:=jl rfl (IC.cell rfl);push_cast -dsimp;refine⟨⟨i+1,(wy).heap.size,_,rfl,rfl,by omega,λh=>absurd h Eh,IC,Bm.below nJ,(λg hg=>by have:=Bm.block g hg;omega),rQ.trans (nJ.mono (by omega))⟩,?_⟩
      show us.length+1-j2 (.pointer (some ⟨(wy).heap.size,0,none⟩)) wc<us.length+1-i
      rw[Nt];omega
     have EO:i=0:=by omega
     have CE:=jc nm us f.rules f.els i;rw[yH,if_pos (by simp[EO])]at CE;refine cF ay rfl rfl (by omega) ?_;intro wr pH;have zr:=pH.size;push_cast -dsimp;refine aP (base:=w8.heap.size) [i] (enc:=aX) ay (vg.new pH) (by rfl) (λj u hu=>by rw[Nat.zero_add];exact pH.cell hu) (by simp[aX,Value.oneCell']) (by simp only[List.length_cons,List.length_nil];omega) (by omega) ?_;intro vq wq AO Eb hnq;have qz:Kept (λj=>(Value.slice oa (qx nm us f.rules f.els i).length oc).ownBlock=some j) wr wq:=Kept.grown Eb (λ_ h=>h);have Vu:=(Ms.below pH.below Ms.lt).kept qz (λh=>cf _ h rfl);have K1:Below w8.heap.size w8 wq:=KZ.trans ((pH.below.mono (by omega)).trans (qz.below (by omega) (λg h=>(hO.block g h).1)));rw[<-CE]at AO;have rQ:=K1;have zS:=rQ.size;have Bm:=AO;have cS:(wq).cell? ⟨ib,0,none⟩=some (.int .i64 i):=(Vu).cell rfl;push_cast -dsimp[cS];refine ah (z:=[.int .i64 0]) (by kernel_rfl) ?_;intro wa eB;have za:=eB.size;push_cast -dsimp;refine aC eB.aL (by simp) rfl ?_;intro wb cH;have zb:=cH.size;have cb:wb.cell? ⟨(wq).heap.size,0,none⟩=some (.int .i64 i):=cH.aL.cell rfl;push_cast -dsimp[cb];refine⟨⟨by omega,by omega⟩,?_⟩;refine aC cH.aL (by simp) rfl ?_;intro wc fV;have zc:=fV.size;have nJ:Below (wq).heap.size (wq) wc:=eB.below.trans ((cH.kept.below (by omega) (λi h=>by omega)).trans (fV.kept.below (by omega) (λi h=>by omega)));have IC:aN wc (wq).heap.size 3 [.int .i64 ((i+1:Nat):Int)]:=fV.aL;have Nt:j2 (.pointer (some ⟨(wq).heap.size,0,none⟩)) wc=i+1:=jl rfl (IC.cell rfl);push_cast -dsimp
     refine⟨⟨i+1,(wq).heap.size,_,rfl,rfl,by omega,λh=>absurd h Eh,IC,Bm.below nJ,(λg hg=>by have:=Bm.block g hg;omega),rQ.trans (nJ.mono (by omega))⟩,?_⟩
     show us.length+1-j2 (.pointer (some ⟨(wq).heap.size,0,none⟩)) wc<us.length+1-i
     rw[Nt];omega
   have tf:∃el,f.els=el:=⟨_,rfl⟩;obtain⟨el,tf⟩:=tf;have yH:Q8 (bC nm) (bJ us) f.rules f.els i=(el || decide (i=0) || decide (i=us.length)):=by
    unfold Q8;rw[Om ep,fI,tf]
   have e2:wy.cell? ⟨w.heap.size,2,none⟩=some (.bool el):=by rw[<-tf];exact Fy.cell rfl
   cases Sz:(el) with
   | true =>
    rw[Sz]at yH
    (rw[Sz]at e2);push_cast -dsimp[e1,e2,e3,e4];have CE:=jc nm us f.rules f.els i;rw[yH,if_pos (by simp)]at CE;refine cF ay rfl rfl (by omega) ?_;intro wr pH;have zr:=pH.size;push_cast -dsimp;refine aP (base:=w8.heap.size) [i] (enc:=aX) ay (vg.new pH) (by rfl) (λj u hu=>by rw[Nat.zero_add];exact pH.cell hu) (by simp[aX,Value.oneCell']) (by simp only[List.length_cons,List.length_nil];omega) (by omega) ?_;intro vq wq AO Eb hnq;have qz:Kept (λj=>(Value.slice oa (qx nm us f.rules f.els i).length oc).ownBlock=some j) wr wq:=Kept.grown Eb (λ_ h=>h);have Vu:=(Ms.below pH.below Ms.lt).kept qz (λh=>cf _ h rfl);have K1:Below w8.heap.size w8 wq:=KZ.trans ((pH.below.mono (by omega)).trans (qz.below (by omega) (λg h=>(hO.block g h).1)));rw[<-CE]at AO;have rQ:=K1;have zS:=rQ.size;have Bm:=AO;have cS:(wq).cell? ⟨ib,0,none⟩=some (.int .i64 i):=(Vu).cell rfl;push_cast -dsimp[cS];refine ah (z:=[.int .i64 0]) (by kernel_rfl) ?_;intro wa eB;have za:=eB.size;push_cast -dsimp;refine aC eB.aL (by simp) rfl ?_;intro wb cH;have zb:=cH.size;have cb:wb.cell? ⟨(wq).heap.size,0,none⟩=some (.int .i64 i):=cH.aL.cell rfl;push_cast -dsimp[cb];refine⟨⟨by omega,by omega⟩,?_⟩;refine aC cH.aL (by simp) rfl ?_;intro wc fV;have zc:=fV.size;have nJ:Below (wq).heap.size (wq) wc:=eB.below.trans ((cH.kept.below (by omega) (λi h=>by omega)).trans (fV.kept.below (by omega) (λi h=>by omega)));have IC:aN wc (wq).heap.size 3 [.int .i64 ((i+1:Nat):Int)]:=fV.aL
    have Nt:j2 (.pointer (some ⟨(wq).heap.size,0,none⟩)) wc=i+1:=jl rfl (IC.cell rfl);push_cast -dsimp;refine⟨⟨i+1,(wq).heap.size,_,rfl,rfl,by omega,λh=>absurd h Eh,IC,Bm.below nJ,(λg hg=>by have:=Bm.block g hg;omega),rQ.trans (nJ.mono (by omega))⟩,?_⟩
    show us.length+1-j2 (.pointer (some ⟨(wq).heap.size,0,none⟩)) wc<us.length+1-i
    rw[Nt];omega
   | false =>
    rw[Sz]at yH
    (rw[Sz]at e2);push_cast -dsimp[e1,e2,e3,e4];refine⟨λh0=>⟨λh1=>?_,λh1=>?_⟩,λh0=>?_⟩
    ·have yk:i=us.length:=by omega
     have CE:=jc nm us f.rules f.els i;rw[yH,if_pos (by simp[yk])]at CE;refine cF ay rfl rfl (by omega) ?_;intro wr pH;have zr:=pH.size;push_cast -dsimp;refine aP (base:=w8.heap.size) [i] (enc:=aX) ay (vg.new pH) (by rfl) (λj u hu=>by rw[Nat.zero_add];exact pH.cell hu) (by simp[aX,Value.oneCell']) (by simp only[List.length_cons,List.length_nil];omega) (by omega) ?_;intro vq wq AO Eb hnq;have qz:Kept (λj=>(Value.slice oa (qx nm us f.rules f.els i).length oc).ownBlock=some j) wr wq:=Kept.grown Eb (λ_ h=>h);have Vu:=(Ms.below pH.below Ms.lt).kept qz (λh=>cf _ h rfl);have K1:Below w8.heap.size w8 wq:=KZ.trans ((pH.below.mono (by omega)).trans (qz.below (by omega) (λg h=>(hO.block g h).1)));rw[<-CE]at AO;have rQ:=K1;have zS:=rQ.size;have Bm:=AO;have cS:(wq).cell? ⟨ib,0,none⟩=some (.int .i64 i):=(Vu).cell rfl;push_cast -dsimp[cS];refine ah (z:=[.int .i64 0]) (by kernel_rfl) ?_;intro wa eB;have za:=eB.size;push_cast -dsimp;refine aC eB.aL (by simp) rfl ?_;intro wb cH;have zb:=cH.size;have cb:wb.cell? ⟨(wq).heap.size,0,none⟩=some (.int .i64 i):=cH.aL.cell rfl;push_cast -dsimp[cb];refine⟨⟨by omega,by omega⟩,?_⟩;refine aC cH.aL (by simp) rfl ?_;intro wc fV;have zc:=fV.size;have nJ:Below (wq).heap.size (wq) wc:=eB.below.trans ((cH.kept.below (by omega) (λi h=>by omega)).trans (fV.kept.below (by omega) (λi h=>by omega)));have IC:aN wc (wq).heap.size 3 [.int .i64 ((i+1:Nat):Int)]:=fV.aL;have Nt:j2 (.pointer (some ⟨(wq).heap.size,0,none⟩)) wc=i+1:=jl rfl (IC.cell rfl);push_cast -dsimp
     refine⟨⟨i+1,(wq).heap.size,_,rfl,rfl,by omega,λh=>absurd h Eh,IC,Bm.below nJ,(λg hg=>by have:=Bm.block g hg;omega),rQ.trans (nJ.mono (by omega))⟩,?_⟩
     show us.length+1-j2 (.pointer (some ⟨(wq).heap.size,0,none⟩)) wc<us.length+1-i
     rw[Nt];omega
    ·have EO:i≠0:=by omega
     have yk:i≠us.length:=by omega
     have CE:=jc nm us f.rules f.els i;rw[yH,if_neg (by simp[EO,yk]),List.append_nil]at CE;have aGJ:Vc.Own w8.heap.size 3 1 aX wy (.slice oa (qx nm us f.rules f.els i).length oc) (qx nm us f.rules f.els (i+1)):=by rw[CE];exact vg
     have rQ:=KZ;have zS:=rQ.size;have Bm:=aGJ;have cS:(wy).cell? ⟨ib,0,none⟩=some (.int .i64 i):=(Ms).cell rfl;skip;refine ah (z:=[.int .i64 0]) (by kernel_rfl) ?_;intro wa eB;have za:=eB.size;push_cast -dsimp;refine aC eB.aL (by simp) rfl ?_;intro wb cH;have zb:=cH.size;have cb:wb.cell? ⟨(wy).heap.size,0,none⟩=some (.int .i64 i):=cH.aL.cell rfl;push_cast -dsimp[cb];refine⟨⟨by omega,by omega⟩,?_⟩;refine aC cH.aL (by simp) rfl ?_;intro wc fV;have zc:=fV.size;have nJ:Below (wy).heap.size (wy) wc:=eB.below.trans ((cH.kept.below (by omega) (λi h=>by omega)).trans (fV.kept.below (by omega) (λi h=>by omega)));have IC:aN wc (wy).heap.size 3 [.int .i64 ((i+1:Nat):Int)]:=fV.aL;have Nt:j2 (.pointer (some ⟨(wy).heap.size,0,none⟩)) wc=i+1:=jl rfl (IC.cell rfl);push_cast -dsimp;refine⟨⟨i+1,(wy).heap.size,_,rfl,rfl,by omega,λh=>absurd h Eh,IC,Bm.below nJ,(λg hg=>by have:=Bm.block g hg;omega),rQ.trans (nJ.mono (by omega))⟩,?_⟩
     show us.length+1-j2 (.pointer (some ⟨(wy).heap.size,0,none⟩)) wc<us.length+1-i
     rw[Nt];omega
    have EO:i=0:=by omega
    have CE:=jc nm us f.rules f.els i;rw[yH,if_pos (by simp[EO])]at CE;refine cF ay rfl rfl (by omega) ?_;intro wr pH;have zr:=pH.size;push_cast -dsimp;refine aP (base:=w8.heap.size) [i] (enc:=aX) ay (vg.new pH) (by rfl) (λj u hu=>by rw[Nat.zero_add];exact pH.cell hu) (by simp[aX,Value.oneCell']) (by simp only[List.length_cons,List.length_nil];omega) (by omega) ?_;intro vq wq AO Eb hnq;have qz:Kept (λj=>(Value.slice oa (qx nm us f.rules f.els i).length oc).ownBlock=some j) wr wq:=Kept.grown Eb (λ_ h=>h);have Vu:=(Ms.below pH.below Ms.lt).kept qz (λh=>cf _ h rfl);have K1:Below w8.heap.size w8 wq:=KZ.trans ((pH.below.mono (by omega)).trans (qz.below (by omega) (λg h=>(hO.block g h).1)));rw[<-CE]at AO;have rQ:=K1;have zS:=rQ.size;have Bm:=AO;have cS:(wq).cell? ⟨ib,0,none⟩=some (.int .i64 i):=(Vu).cell rfl;push_cast -dsimp[cS];refine ah (z:=[.int .i64 0]) (by kernel_rfl) ?_;intro wa eB;have za:=eB.size;push_cast -dsimp;refine aC eB.aL (by simp) rfl ?_;intro wb cH;have zb:=cH.size;have cb:wb.cell? ⟨(wq).heap.size,0,none⟩=some (.int .i64 i):=cH.aL.cell rfl;push_cast -dsimp[cb];refine⟨⟨by omega,by omega⟩,?_⟩;refine aC cH.aL (by simp) rfl ?_;intro wc fV;have zc:=fV.size;have nJ:Below (wq).heap.size (wq) wc:=eB.below.trans ((cH.kept.below (by omega) (λi h=>by omega)).trans (fV.kept.below (by omega) (λi h=>by omega)));have IC:aN wc (wq).heap.size 3 [.int .i64 ((i+1:Nat):Int)]:=fV.aL;have Nt:j2 (.pointer (some ⟨(wq).heap.size,0,none⟩)) wc=i+1:=jl rfl (IC.cell rfl);push_cast -dsimp
    refine⟨⟨i+1,(wq).heap.size,_,rfl,rfl,by omega,λh=>absurd h Eh,IC,Bm.below nJ,(λg hg=>by have:=Bm.block g hg;omega),rQ.trans (nJ.mono (by omega))⟩,?_⟩
    show us.length+1-j2 (.pointer (some ⟨(wq).heap.size,0,none⟩)) wc<us.length+1-i
    rw[Nt];omega
  ·exact⟨jG (.inl (List.eq_nil_of_length_eq_zero (by omega))),bS⟩
  exact⟨jG (.inr (by omega)),bS⟩
theorem Cz {s:List UInt8}{f:dX}(h:dy s=.ok f)(hs:s.length<=5000):aBy f:=λr hr=>by
 have h1:=aAU h;have h2:=aEb hr;have h3:=Rj r.before;have h4:=Rj r.after;omega
theorem kI.mono {X X' Y:Nat->Prop}{w w':World}{v:Value}{f:dX}(h:kI X w v f)(hk:Kept Y w w')(hY:∀i,Y i->X i)(hX:∀i,X' i->X i):kI X' w' v f:=by
 obtain⟨cv,rv,cs,rs,rfl,S1,S2,A1,A2⟩:=h;exact⟨cv,rv,cs,rs,rfl,(S1.kept hk hY).weaken hX,(S2.kept hk hY).weaken hX,A1.imp λa c h=>vE.mono hk hY hX h,A2.imp λa c h=>mO.mono hk hY hX h⟩
def aF2 (B:Nat)(s:List UInt8)(r:Value)(w:World):Prop:=∃(a1:Option Addr) (n1 k1:Nat) (a2:Option Addr) (n2 k2:Nat) (e b:Bool),r=.tuple #[.agg #[.slice a1 n1 k1,.slice a2 n2 k2,.bool e],.bool b] /\
 (b=true->s.length<=500/\∃f,dy s=.ok f/\ql f=none/\kI (·<B) w (.agg #[.slice a1 n1 k1,.slice a2 n2 k2,.bool e]) f)
theorem aAp (s:List UInt8)(w:World)(hd:Db w)(he:mr w)(hg:10<=w.heap.size) :
  aw Tryz.prog 7 [str s] w λr w'=>aF2 w.heap.size s r w'/\Below w.heap.size w w':=by
 refine iI Tryz.func7 rfl (by kernel_rfl) [.cell 2 26,.tmp 3] rfl ?_;push_cast -dsimp(maxSteps:=9^7) [Tryz.ntmps7];refine ah (z:=[.slice none 0 0,.slice none 0 0,.bool false]) (by kernel_rfl) ?_;intro w1 aU;have z1:=aU.size;push_cast -dsimp;refine⟨λaq=>?_,λeo=>?_⟩
 ·refine aI (n:=3) (by kernel_rfl) aU.aL rfl (by simp) (by intro v hv;simp only[List.mem_cons,List.not_mem_nil,or_false]at hv;rcases hv with rfl|rfl|rfl<;>rfl) ?_;intro w2 bP;have z2:=bP.size;have dt:Below w.heap.size w w2:=aU.below.trans (bP.kept.below (by omega) (λi h=>by omega));have d2:aB w2 ⟨w.heap.size,0,none⟩ 0 3=some [.slice none 0 0,.slice none 0 0,.bool false]:=bP.aL.aB;push_cast -dsimp[d2];refine⟨⟨_,_,_,_,_,_,_,_,rfl,λh=>by cases h⟩,dt⟩
 refine aA (zZ s (by omega) w1 (hd.below aU.below hd.lt) (he.below aU.below) (by omega)) ?_;rintro r w2 ⟨hP,dt⟩;have z2:=dt.size;have fP:=aU.below.trans (dt.mono (by omega));rcases hP with ⟨f,v,rY,rfl,hV⟩|⟨e,pos,b,rY,rfl,Dx,VV⟩
 ·have JL:=hV;obtain⟨cv,rv,cs,rs,rfl,S1,S2,A1,A2⟩:=hV;have Nz:=Cy (by omega) rY;have hpp:=Cz rY (by omega);obtain⟨ca,cc,rfl,hcc⟩:=S1.shape;obtain⟨ra,rc,rfl,hrc⟩:=S2.shape;push_cast -dsimp;refine ah (z:=[.slice none 0 0,.slice none 0 0,.bool false]) (by kernel_rfl) ?_;intro w3 dA;have z3:=dA.size;push_cast -dsimp;refine aI (n:=3) (by kernel_rfl) dA.aL rfl (by simp) (by intro v hv;simp only[List.mem_cons,List.not_mem_nil,or_false]at hv;rcases hv with rfl|rfl|rfl<;>rfl) ?_;intro w4 aj;have z4:=aj.size;have EV:Below w2.heap.size w2 w4:=dA.below.trans (aj.kept.below (by omega) (λi h=>by omega));have ir:=fP.trans (EV.mono (by omega));have B4:aN w4 w2.heap.size 26 [.slice ca cs.length cc,.slice ra rs.length rc,.bool f.els]:=aj.aL;have R4:=(aU.aL.below dt (by omega)).below EV (by omega);have B4d:=B4.drew;have YL:=da w4;have d4:aB w4.drew ⟨w2.heap.size,0,none⟩ 0 3=some [.slice ca cs.length cc,.slice ra rs.length rc,.bool f.els]:=B4d.aB;push_cast -dsimp;refine bu (λw'=>aN w' w2.heap.size 26 [.slice ca cs.length cc,.slice ra rs.length rc,.bool f.els]) mixed (by kernel_rfl) B4d ?_;push_cast -dsimp[d4];have jE:∀bQ,aN bQ w2.heap.size 26 [.slice ca cs.length cc,.slice ra rs.length rc,.bool f.els]->aB bQ ⟨w2.heap.size,0,none⟩ 0 3=some [.slice ca cs.length cc,.slice ra rs.length rc,.bool f.els]:=λbQ h=>h.aB;refine⟨λbQ h=>by rw[jE bQ h];exact rfl,λbQ h=>by rw[jE bQ h];exact rfl,?_⟩;have hVd:=(JL.below EV).below YL;refine aA (Gj f Nz.1 hpp (by omega) (by omega) _ _ w4.drew hVd) ?_
  rintro r w5 ⟨hE,jq⟩;have z5:=jq.size;have B5:=B4d.below jq B4d.lt;have R5:=(R4.drew).below jq R4.drew.lt;refine⟨B5,?_⟩;have pz:=(ir.trans (YL.mono (by omega))).trans (jq.mono (by show w.heap.size<=w4.heap.size;omega))
  have zd:w4.drew.heap.size=w4.heap.size:=rfl;cases jr:ql f with
  | some e =>
   rw[jr]at hE;obtain⟨c,e⟩:=e;obtain⟨eb,Dx,rfl,VV⟩:=hE;push_cast -dsimp;refine aI (n:=3) (by kernel_rfl) R5 rfl (by simp) (by intro v hv;simp only[List.mem_cons,List.not_mem_nil,or_false]at hv;rcases hv with rfl|rfl|rfl<;>rfl) ?_;intro w6 bW;have z6:=bW.size;have lk:=bW.kept;have ym:=pz;have zF:=ym.size;have B6:=aN.kept (B5) bW.kept (λh=>by omega);have Hl:Below w.heap.size w w6:=ym.trans (bW.kept.below (by omega) (λi h=>by omega));refine⟨B6,?_⟩;have d6:aB w6 ⟨w.heap.size,0,none⟩ 0 3=some [.slice ca cs.length cc,.slice ra rs.length rc,.bool f.els]:=bW.aL.aB;push_cast -dsimp[d6];exact⟨⟨_,_,_,_,_,_,_,_,rfl,λh=>by cases h⟩,Hl⟩
  | none =>
   rw[jr]at hE;have hE:r=.nilIface:=hE;subst hE;push_cast -dsimp;refine aI (n:=3) (by kernel_rfl) R5 rfl (by simp) (by intro v hv;simp only[List.mem_cons,List.not_mem_nil,or_false]at hv;rcases hv with rfl|rfl|rfl<;>rfl) ?_;intro w6 bW;have z6:=bW.size;have lk:=bW.kept;have ym:=pz;have zF:=ym.size;have B6:=aN.kept (B5) bW.kept (λh=>by omega);have Hl:Below w.heap.size w w6:=ym.trans (bW.kept.below (by omega) (λi h=>by omega));refine⟨B6,?_⟩;have d6:aB w6 ⟨w.heap.size,0,none⟩ 0 3=some [.slice ca cs.length cc,.slice ra rs.length rc,.bool f.els]:=bW.aL.aB;push_cast -dsimp[d6];have aQl:Kept (·=w.heap.size) w2 w6:=(Kept.aQ (EV.trans ((YL.mono (by omega)).trans (jq.mono (by omega)))) (λi h1 h2=>by omega)).trans bW.kept (λ_ _ h=>h);exact⟨⟨_,_,_,_,_,_,_,_,rfl,λ_=>⟨by omega,f,rY,jr,JL.mono aQl (λi h=>by omega) (λi h=>by omega)⟩⟩,Hl⟩
 skip;push_cast -dsimp;refine ah (z:=[.slice none 0 0,.slice none 0 0,.bool false]) (by kernel_rfl) ?_;intro w3 dA;have z3:=dA.size;push_cast -dsimp;refine aI (n:=3) (by kernel_rfl) dA.aL rfl (by simp) (by intro v hv;simp only[List.mem_cons,List.not_mem_nil,or_false]at hv;rcases hv with rfl|rfl|rfl<;>rfl) ?_;intro w4 aj;have z4:=aj.size;have EV:Below w2.heap.size w2 w4:=dA.below.trans (aj.kept.below (by omega) (λi h=>by omega));have ir:=fP.trans (EV.mono (by omega));have B4:aN w4 w2.heap.size 26 [.slice none 0 0,.slice none 0 0,.bool false]:=aj.aL;have R4:=(aU.aL.below dt (by omega)).below EV (by omega);have B4d:=B4.drew;have YL:=da w4;have d4:aB w4.drew ⟨w2.heap.size,0,none⟩ 0 3=some [.slice none 0 0,.slice none 0 0,.bool false]:=B4d.aB;push_cast -dsimp;refine bu (λw'=>aN w' w2.heap.size 26 [.slice none 0 0,.slice none 0 0,.bool false]) mixed (by kernel_rfl) B4d ?_;push_cast -dsimp[d4];have jE:∀bQ,aN bQ w2.heap.size 26 [.slice none 0 0,.slice none 0 0,.bool false]->aB bQ ⟨w2.heap.size,0,none⟩ 0 3=some [.slice none 0 0,.slice none 0 0,.bool false]:=λbQ h=>h.aB;refine⟨λbQ h=>by rw[jE bQ h];exact rfl,?_⟩;have zd:w4.drew.heap.size=w4.heap.size:=rfl;refine aI (n:=3) (by kernel_rfl) R4.drew rfl (by simp) (by intro v hv;simp only[List.mem_cons,List.not_mem_nil,or_false]at hv;rcases hv with rfl|rfl|rfl<;>rfl) ?_;intro w6 bW;have z6:=bW.size;have lk:=bW.kept;have ym:=(ir.trans (YL.mono (by omega)));have zF:=ym.size;have B6:=aN.kept (B4d) bW.kept (λh=>by omega)
 have Hl:Below w.heap.size w w6:=ym.trans (bW.kept.below (by omega) (λi h=>by omega));refine⟨B6,?_⟩;have d6:aB w6 ⟨w.heap.size,0,none⟩ 0 3=some [.slice none 0 0,.slice none 0 0,.bool false]:=bW.aL.aB;push_cast -dsimp[d6];exact⟨⟨_,_,_,_,_,_,_,_,rfl,λh=>by cases h⟩,Hl⟩
structure Vl (w:World):Prop where
 d:Db w
 e:mr w
 l:vH w
 g:10<=w.heap.size
theorem Vl.below {w w':World}(h:Vl w)(hb:Below w.heap.size w w'):Vl w':=⟨h.d.below hb h.d.lt,h.e.below hb,h.l.below hb,by have:=hb.size;have:=h.g;omega⟩
theorem Pv {a1 a2:Option Addr}{n1 k1 n2 k2:Nat}{e:Bool}:∀v∈[Value.slice a1 n1 k1,.slice a2 n2 k2,.bool e],v.oneCell'=true:=by
 intro v hv;simp only[List.mem_cons,List.not_mem_nil,or_false]at hv;rcases hv with rfl|rfl|rfl<;>rfl
end
section
open Go.ChangeShapes Go.WideShapes Go.ChangeAt Go.RowKit Go.Vc Cae
theorem own:ownKnob Tryz.prog.godebug=none:=by kernel_rfl
theorem laidOut:laidOutB Tryz.prog=true:=by kernel_rfl
def aJ6:List Int:=[0,1,56,2,57,49,28,3,61,58,42,50,38,29,17,4,62,47,59,36,45,43,51,22,53,39,33,30,24,18,12,5,63,55,48,27,60,41,37,16,46,35,44,21,52,32,23,11,54,26,40,15,34,20,31,10,25,14,19,9,13,8,7,6]
theorem aJ7 {W:World}{l:List (String×DataW Unit)}(hl:(l.filter λx=>x.1 == "math/bits.deBruijn64tab")=[("math/bits.deBruijn64tab",Rows.laid_math_bits_deBruijn64tab)])(h:laidMetH Tryz.prog l W):Db W:=by
 have h:=h.filter (λx=>x.1 == "math/bits.deBruijn64tab");rw[hl,MakeChecks.laidMetH_plain _ _ _ (by kernel_rfl)]at h;have hg:Tryz.prog.globalNamed "math/bits.deBruijn64tab"=some 9:=by kernel_rfl
 have ht:Lib.TabIs Tryz.prog W "math/bits.deBruijn64tab" .u8 aJ6:=Lib.tabIs_of_head (n:=64) (t:=308) (e:=5) hg (by kernel_rfl) (by kernel_rfl) (by kernel_rfl) (by kernel_rfl) (by kernel_rfl) h;exact ht.cell hg 15 (by decide)
theorem aCb {W:World}{l:List (String×DataW Unit)}(h1:(l.filter λx=>x.1 == "strconv.ErrSyntax")=[("strconv.ErrSyntax",Rows.laid_strconv_ErrSyntax)])(h2:(l.filter λx=>x.1 == "strconv.ErrRange")=[("strconv.ErrRange",Rows.laid_strconv_ErrRange)])(h:laidMetH Tryz.prog l W):mr W:=by
 constructor
 ·have h:=h.filter (λx=>x.1 == "strconv.ErrSyntax");rw[h1,MakeChecks.laidMetH_plain _ _ _ (by kernel_rfl)]at h;obtain⟨ps,⟨g,t,cs,fuel,p,q,hg,ht,hv,hd,_,_⟩,_,_⟩:=h;obtain rfl:=Option.some.inj ((show Tryz.prog.globalNamed "strconv.ErrSyntax"=some 3 by kernel_rfl).symm.trans hg)
  obtain rfl:=Option.some.inj ((show (Tryz.prog.globals[3]?).map (·.type)=some 34 by kernel_rfl).symm.trans ht)
  obtain⟨_,u,v,il,_,_⟩:=iface_of_trod Tryz.underlying34 hd;obtain⟨lc⟩:=cs;have aHd:lc=[.iface u v]:=il;subst aHd;exact⟨u,v,by simpa using World.var?_cell hg hv 0⟩
 have h:=h.filter (λx=>x.1 == "strconv.ErrRange");rw[h2,MakeChecks.laidMetH_plain _ _ _ (by kernel_rfl)]at h;obtain⟨ps,⟨g,t,cs,fuel,p,q,hg,ht,hv,hd,_,_⟩,_,_⟩:=h;obtain rfl:=Option.some.inj ((show Tryz.prog.globalNamed "strconv.ErrRange"=some 4 by kernel_rfl).symm.trans hg)
 obtain rfl:=Option.some.inj ((show (Tryz.prog.globals[4]?).map (·.type)=some 34 by kernel_rfl).symm.trans ht)
 obtain⟨_,u,v,il,_,_⟩:=iface_of_trod Tryz.underlying34 hd;obtain⟨lc⟩:=cs;have aHd:lc=[.iface u v]:=il;subst aHd;exact⟨u,v,by simpa using World.var?_cell hg hv 0⟩
theorem ZG {W:World}{l:List (String×DataW Unit)}(hl:(l.filter λx=>x.1 == "caesura/utf.least")=[("caesura/utf.least",Rows.laid_caesura_utf_least)])(h:laidMetH Tryz.prog l W):vH W:=by
 have h:=h.filter (λx=>x.1 == "caesura/utf.least");rw[hl,MakeChecks.laidMetH_plain _ _ _ (by kernel_rfl)]at h;obtain⟨ps,⟨g,t,cs,fuel,p,q,hg,ht,hv,hd,_,_⟩,_,_⟩:=h;obtain rfl:=Option.some.inj ((show Tryz.prog.globalNamed "caesura/utf.least"=some 0 by kernel_rfl).symm.trans hg)
 obtain rfl:=Option.some.inj ((show (Tryz.prog.globals[0]?).map (·.type)=some 134 by kernel_rfl).symm.trans ht)
 have c5:Tryz.prog.cellsOf 3=1:=by kernel_rfl
 have c29:Tryz.prog.cellsOf 134=5:=by kernel_rfl
 obtain⟨xs,m,_,ex,hlen,hl,tf⟩:=DataW.trod_array Tryz.underlying134 hd;rw[c29]at hlen;have key:cs=#[.int .i64 0,.int .i64 0,.int .i64 128,.int .i64 2048,.int .i64 65536]:=by
  obtain⟨l⟩:=cs;match l,hlen with
  | [a,b,c,d,e],_ =>
   match xs,hl with
   | [x0,x1,x2,x3,x4],_ =>
    have e3:=(DataW.agg.inj (Prod.mk.inj ex).1);simp only[List.map_cons,List.map_nil,List.cons.injEq,and_true]at e3;have k0:=tf 0 (by omega);have k1:=tf 1 (by omega);have k2:=tf 2 (by omega);have k3:=tf 3 (by omega);have k4:=tf 4 (by omega);rw[c5]at k0 k1 k2 k3 k4;obtain⟨z0,a0,b0,_⟩:=DataW.trod_int Tryz.underlying3 k0;obtain⟨z1,a1,b1,_⟩:=DataW.trod_int Tryz.underlying3 k1;obtain⟨z2,a2,b2,_⟩:=DataW.trod_int Tryz.underlying3 k2;obtain⟨z3,a3,b3,_⟩:=DataW.trod_int Tryz.underlying3 k3;obtain⟨z4,a4,b4,_⟩:=DataW.trod_int Tryz.underlying3 k4;simp_all;omega
 subst key;intro k hk;rw[World.var?_cell hg hv k];have:k=0\/k=1\/k=2\/k=3\/k=4:=by omega
 rcases this with e|e|e|e|e<;>subst e<;>rfl
theorem Np {H:Type}{enc:TypeId×Value->H}{a:Assume}{C:Checked}{os:Os}{f:FuncId}{fn:Func}{s:ChangeSpec}{conds:List PathCond}{apart fresh handsOn again:Bool}{X:World->Array Value->Prop}
  (hX:∀(w w':World) (args:Array Value),w.heap=w'.heap->X w args->X w' args)
  (own:ownKnob C.prog.godebug=none) (started:os.Started) (aIs:C.prog.inits.idxOf? f=none) (hfn:C.prog.funcs[f]?=some fn)
  (witness:∃(w:World) (tape:Tape) (i:Input),w.os=os/\(w.forCall tape i).Shaped C.prog/\i.vars=[]/\Input.okWide C.prog (w.forCall tape i) .any w.heap.size f i /\
   ((s.pre enc C.prog fn conds apart (w.forCall tape i).memory i.args/\X (w.forCall tape i).memory i.args)/\sizedMet enc C.prog fn (OpenSpec.ofChange s) apart (w.forCall tape i).memory i.args)/\a.holds C.prog (lone (Frame.enter C.prog f i.args .normal) [] (w.forCall tape i)))
  (XO:∀(W:World) (base:Nat) (args:Array Value) (ds gs:List (DataW H)) (before:List MemPlace),
   (∀(j:Nat) t v,fn.params[j]?=some t->args[j]?=some v->Value.okWide C.prog W .any base t v) ->
   DataW.Whole enc C.prog fn.params.toList s.vars apart W args.toList ds gs before ->
   (DataW.weightsEach C.prog (fn.params.toList++s.plain.varTypes C.prog) (ds++gs)).all (·<=reachBytes)=true->X W args->W.ShapedOpen C.prog ->
   Calls C.prog f args W λe W'=>∃v,e=.returned v/\s.post enc C.prog fn apart fresh handsOn again W args v W') :
  ReturnsInHanded a C os f .any (λw args=>(s.pre enc C.prog fn conds apart w args/\X w args)/\sizedMet enc C.prog fn (OpenSpec.ofChange s) apart w args) (s.post enc C.prog fn apart fresh handsOn again):=by
 refine returnsInHanded_of_calls own started aIs witness ?_;intro w tape i _ eN _ bI aHK aQb;obtain⟨_,_,_,fn',aP4,_,_,_,_,CI⟩:=bI;have e:fn'=fn:=Option.some.inj (aP4.symm.trans hfn);subst e;obtain⟨⟨⟨ds,gs,before,hw,hc⟩,hx⟩,hz⟩:=aHK;have vD:=DataW.Whole.of_heap (w':=w.forCall tape i) (by rfl) hw;refine(XO (w.forCall tape i) w.heap.size i.args ds gs before CI vD (hz.weights hw) (hX _ _ _ (by rfl) hx) eN).mono λe W' ⟨v,he,hp⟩=>?_;subst he;exact ChangeSpec.post_blind hp
theorem aMR {W:World}(h:W.ShapedOpen Tryz.prog):10<=W.heap.size:=by
 obtain⟨o,o0,h1,_⟩:=h.2 10 (of_decide_eq_true (by kernel_rfl)) (of_decide_eq_true (by kernel_rfl))
 have:=(Array.getElem?_eq_some_iff.1 h1).1;omega
theorem aNd {W:World}{l:List (String×DataW Unit)}(h1:(l.filter λx=>x.1 == "math/bits.deBruijn64tab")=[("math/bits.deBruijn64tab",Rows.laid_math_bits_deBruijn64tab)])(h2:(l.filter λx=>x.1 == "strconv.ErrSyntax")=[("strconv.ErrSyntax",Rows.laid_strconv_ErrSyntax)])(h3:(l.filter λx=>x.1 == "strconv.ErrRange")=[("strconv.ErrRange",Rows.laid_strconv_ErrRange)])(h4:(l.filter λx=>x.1 == "caesura/utf.least")=[("caesura/utf.least",Rows.laid_caesura_utf_least)])
  (h:laidMetH Tryz.prog l W) (hs:W.ShapedOpen Tryz.prog):Vl W :=
 ⟨aJ7 h1 h,aCb h2 h3 h,ZG h4 h,aMR hs⟩
end
end Go.Proofs.YtemjejfpadnljaaGreatDoor
